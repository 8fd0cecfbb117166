/- The law ProcBegins, walked; no condition. -/
import Derived.Test.YthihjppjollekaaLf
set_option linter.unusedVariables false
namespace Go.Proofs.Ythihjppjollekaa
open Go.RowKit Go.Hx

theorem bld39 (b r : Nat) : bldP Try.prog 39 [(0, .pointer (some ⟨b, 0, none⟩)), (1, .pointer (some ⟨r, 0, none⟩))] (.agg #[.pointer (some ⟨b, 0, none⟩), .pointer (some ⟨r, 0, none⟩)]) := fun w => by kernel_rfl
set_option maxRecDepth 10000 in
theorem law10 (x : Option Addr) (n c : Nat) (w : World) (ho : OpsAt w x n) : Calls Try.prog 10 #[.slice x n c] w (Ret fun v w' => v = .bool true ∧ Below w.heap.size w w') := by
  refine W10_ok _ _ _ w _ ?_
  refine (c14 w).mono ?_
  rintro e w1 ⟨v, rfl, b, rfl, h1, l1, b1⟩
  have z1 := b1.size
  refine ⟨_, rfl, ?_⟩
  refine (show Calls _ _ _ _ _ from (c30 w1).mono ?_)
  rintro e w2 ⟨v, rfl, r, rfl, h2, l2, b2⟩
  have z2 := b2.size
  refine ⟨_, rfl, _, bld39 b r, newW_intro fun pb w3 k3 l3 b3 => ?_⟩
  have z3 := b3.size
  have hp3 : PairAt w3 pb b r tNew := ⟨k3, below_blk b3 (Nat.lt_of_lt_of_le (tab_lt h1) z2) (below_blk b2 (tab_lt h1) h1), below_blk b3 (Blk.lt h2) h2⟩
  have b03 := b1.trans ((b2.mono z1).trans (b3.mono (by omega)))
  refine ⟨fun w' => Blk w' pb #[.pointer (some ⟨b, 0, none⟩), .pointer (some ⟨r, 0, none⟩)] 39, k3, _, fun w' q => q.cell rfl, _, fun w' q => q.cell rfl, (c13 (w := w3.drew) hp3.hb ok_new.ne0).mono ?_⟩
  rintro e w4 ⟨v, rfl, rfl, b4⟩
  have b4 := below_undrew b4
  have hp4 := hp3.below (B := 0) b4
  have b04 := b03.trans (b4.mono b03.size)
  refine ⟨_, rfl, _, fun _ q => q, hp4.pr, (c29 hp4.hr ok_new.ne0).mono ?_⟩
  rintro e w5 ⟨v, rfl, rfl, b5⟩
  have hp5 := hp4.below (B := 0) b5
  have b05 := b04.trans (b5.mono b04.size)
  refine ⟨_, rfl, _, fun _ q => q, hp5.pr, _, eq_Tab _ _, c_nb (fun h => by simp [Tab.same] at h) (fun _ => ?_)⟩
  refine ⟨fun y w6 => ∃ (i : Nat) (b' : Nat) (t : Tab), y = ((i : Int), ()) ∧ i ≤ 400 ∧ Ok t ∧ PairAt w6 pb b' r t ∧ w.heap.size ≤ b' ∧ Below w.heap.size w w6, fun y _ => (400 - y.1).toNat,
    ⟨(0, ()), rfl, 0, b, tNew, rfl, by omega, ok_new, hp5, l1, b05⟩, ?_⟩
  rintro _ y w6 ⟨i, b', t, rfl, hi, hk, hp6, lb, b06⟩
  dsimp only
  refine c_dec (fun hl => ?_) (fun _ => ⟨rfl, b06⟩)
  refine c_dec (fun hl2 => ?_) (fun _ => ⟨rfl, b06⟩)
  obtain ⟨a, rfl, ha, o, hr⟩ := ho i (by omega)
  have nx : IntKind.i64.wrap ((i : Int) + 1) = ((i + 1 : Nat) : Int) := by rw [wrap_in (by omega) (by omega)]; omega
  refine ⟨fun w' => Below w.heap.size w w', b06.drew, ⟨by omega, by omega⟩, o.a, rfl, fun w' q => by rw [Int.toNat_natCast]; exact row_below q (by rw [add_block]; exact ha) hr, ?_⟩
  refine (c28 (F := w.heap.size) (w := w6.drew) ⟨hp6.pr, hp6.hb, hp6.hr⟩ hk ⟨by omega, lb, by omega⟩ b06.size o).mono ?_
  rintro e w7 ⟨v, rfl, rfl, b7, t7, hk7, hp7, lb7, f7⟩
  have b07 := b06.trans (below_undrew f7)
  refine ⟨_, rfl, fun w' => Below w.heap.size w w' ∧ Blk w' pb #[.pointer (some ⟨b7, 0, none⟩), .pointer (some ⟨r, 0, none⟩)] 39, fun _ q => q.1, ⟨b07, hp7.pr⟩, c_nb (fun h => by cases h) (fun _ => ?_)⟩
  refine ⟨_, fun w' q => q.2.cell rfl, _, fun w' q => q.2.cell rfl, (c13 hp7.hb hk7.ne0).mono ?_⟩
  rintro e w8 ⟨v, rfl, rfl, b8⟩
  have hp8 := hp7.below (B := 0) b8
  have b08 := b07.trans (b8.mono b07.size)
  refine ⟨_, rfl, _, fun _ q => q, ⟨b08, hp8.pr⟩, (c29 hp8.hr hk7.ne0).mono ?_⟩
  rintro e w9 ⟨v, rfl, rfl, b9⟩
  have hp9 := hp8.below (B := 0) b9
  have b09 := b08.trans (b9.mono b08.size)
  refine ⟨_, rfl, _, fun _ q => q, ⟨b09, hp9.pr⟩, _, eq_Tab _ _, c_nb (fun h => by simp [Tab.same] at h) (fun _ => ?_)⟩
  exact ⟨(((i + 1 : Nat) : Int), ()), by rw [nx]; rfl, ⟨i + 1, b7, t7, rfl, by omega, hk7, hp9, lb7, b09⟩, by dsimp only; omega⟩
end Go.Proofs.Ythihjppjollekaa
