/- The laws ProcFroms and ProcPlays, walked; no condition. -/
import Derived.Test.YthihjppjollekaaFi
set_option linter.unusedVariables false
namespace Go.Proofs.Ythihjppjollekaa
open Go.RowKit Go.Hx

theorem law3 (x : Option Addr) (n c : Nat) (next : Int) (w : World) (hs : SlotsAt w x n) (hn : n ≤ maxLen) : Calls Try.prog 3 #[.agg #[.slice x n c, .int .i64 next]] w (Ret fun v w' => v = .bool true ∧ Below w.heap.size w w') := by
  refine W3_ok _ w _ ?_
  refine newW_intro fun a1 w1 k1 l1 b1 => ⟨_, rfl, row_whole k1, (c11 (hs.below b1) hn).mono ?_⟩
  have z1 := b1.size
  rintro e w2 ⟨v, rfl, t, rfl, b2⟩
  have b02 := b1.trans (b2.mono z1)
  have z2 := b02.size
  refine ⟨_, rfl, keepT fun a4 w3 k3 l3 b3 => ⟨t.enc, enc_size t, row_whole k3, (c12 t w3).mono ?_⟩⟩
  have b03 := b02.trans (b3.mono z2)
  have z3 := b03.size
  have y3 := tab_lt k3
  rintro e w4 ⟨v, rfl, b4, rfl | ⟨pb, b, r, rfl, hk, hp, l1', l2', l3'⟩⟩
  · exact ⟨_, _, rfl, c_b (fun _ => ⟨rfl, b03.trans (b4.mono z3)⟩) (fun h => by cases h)⟩
  · have b04 := b03.trans (b4.mono z3)
    have k4 : TabAt 31 w4 a4 t := below_blk b4 y3 k3
    refine ⟨_, _, rfl, c_b (fun h => by cases h) (fun _ => ?_)⟩
    refine ⟨fun w' => TabAt 31 w' a4 t ∧ Blk w' pb #[.pointer (some ⟨b, 0, none⟩), .pointer (some ⟨r, 0, none⟩)] 39, ⟨k4, hp.pr⟩, ?_⟩
    simp only [nlW]
    refine ⟨_, fun w' q => q.2.cell rfl, t.enc, enc_size t, fun w' q => row_whole q.1, (c13 (w := w4.drew) hp.hb hk.ne0).mono ?_⟩
    rintro e w5 ⟨v, rfl, rfl, b5⟩
    have b5 := below_undrew b5
    have k5 : TabAt 31 w5 a4 t := below_blk b5 (tab_lt k4) k4
    refine ⟨_, rfl, _, fun _ q => q, ⟨k5, below_blk b5 hp.pr.lt hp.pr⟩, _, eq_Tab t t, by simp [Tab.same], b04.trans (b5.mono b04.size)⟩
theorem bld46 (n : Int) : bldP Try.prog 46 [(0, .int .i64 (10 : Int)), (1, .int .i64 n)] (.agg (OpD.a ⟨10, n, 0, 0, 0⟩)) := fun w => by kernel_rfl
set_option maxRecDepth 10000 in
theorem law9 (x : Option Addr) (n c : Nat) (next : Int) (y : Option Addr) (m d : Nat) (w : World) (hs : SlotsAt w x n) (hn : n ≤ maxLen) (ho : OpsAt w y m) : Calls Try.prog 9 #[.agg #[.slice x n c, .int .i64 next], .slice y m d] w (Ret fun v w' => v = .bool true ∧ Below w.heap.size w w') := by
  refine W9_ok _ _ _ _ w _ ?_
  refine newW_intro fun a1 w1 k1 l1 b1 => ⟨_, rfl, row_whole k1, (c11 (hs.below b1) hn).mono ?_⟩
  have z1 := b1.size
  rintro e w2 ⟨v, rfl, t, rfl, b2⟩
  have b02 := b1.trans (b2.mono z1)
  have z2 := b02.size
  refine ⟨_, rfl, (c12 t w2).mono ?_⟩
  rintro e w4 ⟨v, rfl, b4, rfl | ⟨pb, b, r, rfl, hk0, hp0, g1, g2, g3⟩⟩
  · exact ⟨_, _, rfl, c_b (fun _ => ⟨rfl, b02.trans (b4.mono z2)⟩) (fun h => by cases h)⟩
  have b04 := b02.trans (b4.mono z2)
  refine ⟨_, _, rfl, c_b (fun h => by cases h) (fun _ => ?_)⟩
  refine ⟨fun y w6 => ∃ (i : Nat) (b' : Nat) (t : Tab), y = ((i : Int), ()) ∧ i ≤ 400 ∧ Ok t ∧ PairAt w6 pb b' r t ∧ w.heap.size ≤ b' ∧ Below w.heap.size w w6, fun y _ => (400 - y.1).toNat,
    ⟨(0, ()), rfl, 0, b, t, rfl, by omega, hk0, hp0, by omega, b04⟩, ?_⟩
  rintro _ _ w6 ⟨i, b', t, rfl, hi, hk, hp6, lb, b06⟩
  dsimp only
  refine c_dec (fun hl => ?_) (fun _ => ⟨rfl, b06⟩)
  refine c_dec (fun hl2 => ?_) (fun _ => ⟨rfl, b06⟩)
  obtain ⟨a, rfl, ha, o, hr⟩ := ho i (by omega)
  have nx : IntKind.i64.wrap ((i : Int) + 1) = ((i + 1 : Nat) : Int) := by rw [wrap_in (by omega) (by omega)]; omega
  have hrow : ∀ w', Below w.heap.size w w' → RowAt w' (a.add (i * 5)) o.a := fun w' q => row_below q (by rw [add_block]; exact ha) hr
  refine ⟨fun w' => Below w.heap.size w w', b06.drew, ⟨by omega, by omega⟩, o.a, rfl, fun w' q => by rw [Int.toNat_natCast]; exact hrow w' q, ?_⟩
  refine (c28 (F := w.heap.size) (w := w6.drew) ⟨hp6.pr, hp6.hb, hp6.hr⟩ hk ⟨by omega, lb, by omega⟩ b06.size o).mono ?_
  rintro e w7 ⟨v, rfl, rfl, b7, t7, hk7, hp7, lb7, f7⟩
  have b07 := b06.trans (below_undrew f7)
  refine ⟨_, rfl, fun w' => Below w.heap.size w w' ∧ Blk w' pb #[.pointer (some ⟨b7, 0, none⟩), .pointer (some ⟨r, 0, none⟩)] 39, ⟨b07, hp7.pr⟩, c_nb (fun h => by cases h) (fun _ => ?_)⟩
  simp only [nlW]
  refine ⟨_, fun w' q => q.2.cell rfl, _, fun w' q => by simp only [Addr.add_lit, Nat.zero_add]; exact q.2.cell rfl, (c13 hp7.hb hk7.ne0).mono ?_⟩
  rintro e w8 ⟨v, rfl, rfl, b8⟩
  have hp8 := hp7.below (B := 0) b8
  have b08 := b07.trans (b8.mono b07.size)
  refine ⟨_, rfl, _, fun _ q => q, ⟨b08, hp8.pr⟩, (c29 hp8.hr hk7.ne0).mono ?_⟩
  rintro e w9 ⟨v, rfl, rfl, b9⟩
  have hp9 := hp8.below (B := 0) b9
  have b09 := b08.trans (b9.mono b08.size)
  refine ⟨_, rfl, fun w' => Below w.heap.size w w', b09, _, eq_Tab _ _, c_nb (fun h => by simp [Tab.same] at h) (fun _ => ?_)⟩
  refine ⟨⟨by omega, by omega⟩, o.slot, fun w' q => by rw [Int.toNat_natCast]; exact hrow w' q 1 _ rfl, _, bld46 _, ?_⟩
  refine (c28 (F := w.heap.size) (w := w9) hp9 hk7 ⟨by omega, lb7, by omega⟩ b09.size ⟨10, o.slot, 0, 0, 0⟩).mono ?_
  rintro e w10 ⟨v, rfl, rfl, b10, t10, hk10, hp10, lb10, f10⟩
  refine ⟨_, rfl, fun _ => True, trivial, c_nb (fun h => by cases h) (fun _ => ?_)⟩
  exact ⟨(((i + 1 : Nat) : Int), ()), by rw [nx]; rfl, ⟨i + 1, b10, t10, rfl, by omega, hk10, hp10, lb10, b09.trans f10⟩, by dsimp only; omega⟩
end Go.Proofs.Ythihjppjollekaa
