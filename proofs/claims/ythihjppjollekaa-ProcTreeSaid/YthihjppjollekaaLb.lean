/- The law ProcTree, walked; no condition. -/
import Derived.Test.YthihjppjollekaaGb
set_option linter.unusedVariables false
namespace Go.Proofs.Ythihjppjollekaa
open Go.RowKit Go.Hx

theorem c17 {b : Nat} {t : Tab} {w : World} (h : TabAt 63 w b t) (hk : Ok t) : Calls Try.prog 17 #[.pointer (some ⟨b, 0, none⟩)] w (Ret fun v w' => v = .bool true ∧ Below w.heap.size w w') := by
  refine W17_ok _ w _ ?_
  have hn := hk.ne0
  refine (c13 h hn).mono ?_
  rintro e w1 ⟨v, rfl, rfl, b1⟩
  refine ⟨_, rfl, keepT fun c w2 k2 l2 b2 => ?_⟩
  have hlt := tab_lt h
  have z1 := b1.size
  have z2 := b2.size
  have clt := tab_lt k2
  have b12 := b1.trans (b2.mono z1)
  have h2 := below_tab b12 hlt h
  refine ⟨fun x w3 => ∃ i : Nat, x = ((i : Int), ()) ∧ i ≤ 64 ∧ Below w2.heap.size w2 w3, fun x _ => (64 - x.1).toNat, ⟨(0, ()), rfl, 0, rfl, by omega, Below.refl _ _⟩, ?_⟩
  rintro _ x w3 ⟨i, rfl, hi, b3⟩
  dsimp only
  refine c_dec (fun hl => ?_) (fun hg => ⟨rfl, b12.trans (b3.mono (by omega))⟩)
  have hi' : i < 64 := by omega
  have nx : IntKind.i64.wrap ((i : Int) + 1) = ((i + 1 : Nat) : Int) := by rw [wrap_in (by omega) (by omega)]; omega
  have h3 := below_tab b3 (by omega) h2
  have k3 := below_tab (T := 31) (t := t) b3 clt k2
  refine (c18 h3 hn i).mono ?_
  rintro e w4 ⟨v, rfl, rfl, b4⟩
  rw [look_ok hk hi']
  refine ⟨_, rfl, keepP fun d w5 k5 l5 b5 => ?_⟩
  have z3 := b3.size
  have z4 := b4.size
  have z5 := b5.size
  have b25 := b3.trans ((b4.mono z3).trans (b5.mono (by omega)))
  have k5t := below_tab (T := 31) (t := t) b25 clt k2
  have h5 := below_tab b25 (by omega) h2
  have go : ∀ w6, Below w2.heap.size w2 w6 → ∃ t' : Int × Unit, ([.int .i64 (IntKind.i64.wrap ((i : Int) + (1 : Int)))] : List Value) = tv [(4, .int .i64)] t' ∧ (∃ i : Nat, t' = ((i : Int), ()) ∧ i ≤ 64 ∧ Below w2.heap.size w2 w6) ∧ (64 - t'.1).toNat < (64 - (i : Int)).toNat :=
    fun w6 hb => ⟨(((i + 1 : Nat) : Int), ()), by rw [nx]; rfl, ⟨i + 1, rfl, by omega, hb⟩, by dsimp only; omega⟩
  refine ⟨_, rfl, row_whole (w := w5.drew) k5, ⟨by omega, by omega⟩, (t.s i).a, rfl, ?_, _, eq_Pr _ _, c_ndec (fun hh => absurd rfl hh) (fun _ => ?_)⟩
  · simp only [Addr.add_lit, Nat.zero_add, Int.toNat_natCast]
    exact TabAt.row (w := w5.drew) k5t hi'
  refine ⟨(t.s i).st, Blk.cell (w := w5.drew) k5 rfl, c_eq (fun h0 => ?_) (fun h0 => ?_)⟩
  · refine ⟨_, rfl, row_whole (w := w5.drew) k5, _, bld28, _, eq_Pr _ _, c_ndec (fun hh => absurd (hk.free i hi' h0) hh) (fun _ => go _ b25.drew)⟩
  · have hp := hk.pid i hi' h0
    have hz := hk.zero0 hi' h0
    refine ⟨fun _ w6 => Below w5.heap.size w5 w6, ?_, ?_⟩
    · rintro _ _ w6 b6
      refine ⟨fun x w7 => ∃ k : Nat, x = ((k : Int), ()) ∧ k ≤ i ∧ Below w5.heap.size w5 w7, fun x _ => (64 - x.1).toNat, ⟨(0, ()), rfl, 0, rfl, by omega, b6⟩, ?_⟩
      rintro _ x w7 ⟨k, rfl, hki, b7⟩
      dsimp only
      have b27 := b25.trans (b7.mono (by omega))
      have k7 := below_tab (T := 31) (t := t) b27 clt k2
      refine c_dec (fun hl2 => ?_) (fun hg2 => ?_)
      · have hk' : k < i := by omega
        have nx2 : IntKind.i64.wrap ((k : Int) + 1) = ((k + 1 : Nat) : Int) := by rw [wrap_in (by omega) (by omega)]; omega
        have go2 : ∃ t' : Int × Unit, ([.int .i64 (IntKind.i64.wrap ((k : Int) + (1 : Int)))] : List Value) = tv [(6, .int .i64)] t' ∧ (∃ k : Nat, t' = ((k : Int), ()) ∧ k ≤ i ∧ Below w5.heap.size w5 w7.drew) ∧ (64 - t'.1).toNat < (64 - (k : Int)).toNat :=
          ⟨(((k + 1 : Nat) : Int), ()), by rw [nx2]; rfl, ⟨k + 1, rfl, by omega, b7.drew⟩, by dsimp only; omega⟩
        simp only [Addr.add_lit, Nat.zero_add, Int.toNat_natCast]
        refine ⟨⟨by omega, by omega⟩, (t.s k).st, TabAt.st (w := w7.drew) k7 (by omega), c_ne (fun hs => ?_) (fun _ => go2)⟩
        refine ⟨⟨by omega, by omega⟩, (t.s k).pid, TabAt.pid (w := w7.drew) k7 (by omega), (t.s i).pid, Blk.cell (w := w7.drew) (below_blk b7 k5.lt k5) rfl, c_eq (fun he => ?_) (fun _ => go2)⟩
        exact absurd (hk.inj k i (by omega) hi' hs h0 he) (by omega)
      · refine ⟨_, enc_size t, row_whole k7, (c37 hk hi' h0 w7).mono ?_⟩
        rintro e w8 ⟨v, rfl, rfl, b8⟩
        exact ⟨_, rfl, go _ (b27.trans (b8.mono b27.size))⟩
    · refine ⟨(t.s i).pid, Blk.cell (w := w5.drew) k5 rfl, c_dec (fun hh => by omega) (fun _ => ?_)⟩
      refine ⟨(t.s i).pid, Blk.cell (w := w5.drew) k5 rfl, t.next, by simp only [Addr.add_lit, Nat.zero_add]; exact TabAt.next (w := w5.drew) k5t, c_dec (fun hh => by omega) (fun _ => ?_)⟩
      refine ⟨⟨by omega, by omega⟩, (t.s 0).pid, by simp only [Addr.add_lit]; exact TabAt.pid (w := w5.drew) (i := 0) k5t (by omega), c_ne (fun hh => absurd (hk.root hz).1 hh) (fun _ => ?_)⟩
      refine ⟨(t.s i).st, Blk.cell (w := w5.drew) k5 rfl, c_eq (fun h2 => ?_) (fun _ => ⟨(), rfl, (Below.refl _ _).drew⟩)⟩
      refine ⟨(t.s i).kil, Blk.cell (w := w5.drew) (i := 5) k5 rfl, c_b (fun hh => ?_) (fun _ => ⟨(), rfl, (Below.refl _ _).drew⟩)⟩
      have := ((hk.loc i hi' h0).slp h2).1
      rw [hh] at this; cases this
set_option maxRecDepth 10000 in
theorem law5 (x : Option Addr) (n c : Nat) (w : World) (ho : OpsAt w x n) : Calls Try.prog 5 #[.slice x n c] w (Ret fun v w' => v = .bool true ∧ Below w.heap.size w w') := by
  refine W5_ok _ _ _ w _ ?_
  refine (c14 w).mono ?_
  rintro e w1 ⟨v, rfl, b, rfl, h1, l1, b1⟩
  have z1 := b1.size
  have hlt := tab_lt h1
  refine ⟨_, rfl, ?_⟩
  show Calls _ _ _ _ _
  refine (c17 h1 ok_new).mono ?_
  rintro e w2 ⟨v, rfl, rfl, b2⟩
  have z2 := b2.size
  refine ⟨_, rfl, c_nb (fun hh => by cases hh) (fun _ => ?_)⟩
  refine ⟨fun y w3 => ∃ (i : Nat) (t : Tab), y = ((i : Int), ()) ∧ i ≤ 400 ∧ Ok t ∧ TabAt 63 w3 b t ∧ Below w.heap.size w w3, fun y _ => (400 - y.1).toNat,
    ⟨(0, ()), rfl, 0, tNew, rfl, by omega, ok_new, below_tab b2 hlt h1, b1.trans (b2.mono z1)⟩, ?_⟩
  rintro _ y w3 ⟨i, t, rfl, hi, hk, h3, b3⟩
  dsimp only
  refine c_dec (fun hl => ?_) (fun _ => ⟨rfl, b3⟩)
  refine c_dec (fun hl2 => ?_) (fun _ => ⟨rfl, b3⟩)
  obtain ⟨a, rfl, ha, o, hr⟩ := (ho.below b3) i (by omega)
  have nx : IntKind.i64.wrap ((i : Int) + 1) = ((i + 1 : Nat) : Int) := by rw [wrap_in (by omega) (by omega)]; omega
  refine ⟨⟨by omega, by omega⟩, o.a, rfl, by rw [Int.toNat_natCast]; exact hr, (c15 h3 hk o).mono ?_⟩
  rintro e w4 ⟨v, rfl, rfl, h4, m4⟩
  have z3 := b3.size
  have z4 := m4.size
  have hk4 := ok_do hk o
  have b4 := b3.trans (m4.below z3 l1)
  refine ⟨rfl, (c17 h4 hk4).mono ?_⟩
  rintro e w5 ⟨v, rfl, rfl, b5⟩
  refine ⟨_, rfl, c_nb (fun hh => by cases hh) (fun _ => ?_)⟩
  exact ⟨(((i + 1 : Nat) : Int), ()), by rw [nx]; rfl, ⟨i + 1, _, rfl, by omega, hk4, below_tab b5 (tab_lt h4) h4, b4.trans (b5.mono (by omega))⟩, by dsimp only; omega⟩
end Go.Proofs.Ythihjppjollekaa
