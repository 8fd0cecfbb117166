/- Both tables of a state, as the laws make them; no condition. -/
import Derived.Test.YthihjppjollekaaFg
set_option linter.unusedVariables false
namespace Go.Proofs.Ythihjppjollekaa
open Go.RowKit Go.Hx

set_option maxRecDepth 10000 in
theorem c66 {g g' : Array Value} {at_ : Int} {w : World} (h : Flt w g at_) (h' : Flt w g' at_) : Calls Try.prog 66 #[.agg g, .agg g'] w (Ret fun v w' => v = .bool true ∧ Below w.heap.size w w') := by
  obtain ⟨k, c, cs, rfl, q1, q2, q3⟩ := h
  obtain ⟨k', c', cs', rfl, p1, p2, p3⟩ := h'
  refine W66_ok _ _ w _ ?_
  refine newW_intro fun a1 w1 k1 l1 b1 => newW_intro fun a2 w2 k2 l2 b2 => ?_
  have z1 := b1.size
  have b12 := b1.trans (b2.mono z1)
  have k1 := below_blk b2 k1.lt k1
  have q1 := below_blk b12 q1.lt q1
  have p1 := below_blk b12 p1.lt p1
  simp only [Addr.add_lit, Nat.zero_add]
  refine ⟨4, k1.cell rfl, 4, k2.cell rfl, c_ne (fun h => absurd rfl h) (fun _ => ⟨_, _, _, k1.cell rfl, _, _, _, k2.cell rfl, c_ne (fun h => absurd rfl h) (fun _ => ?_)⟩)⟩
  refine ⟨fun x w3 => Below w2.heap.size w2 w3 ∧ (x = (0, ()) ∨ x = (1, ())), fun x _ => (2 - x.1).toNat, ⟨(0, ()), rfl, Below.refl _ _, Or.inl rfl⟩, ?_⟩
  rintro _ x w3 ⟨b3, rfl | rfl⟩
  · dsimp only
    have k13 := below_blk b3 k1.lt k1
    have k23 := below_blk b3 k2.lt k2
    have q13 := below_blk b3 q1.lt q1
    have p13 := below_blk b3 p1.lt p1
    refine ⟨_, _, _, k13.cell rfl, c_dec (fun _ => ?_) (fun h => absurd (by decide) h)⟩
    refine ⟨_, _, _, Blk.cell (w := w3.drew) k13 rfl, ?_⟩
    simp only [nlW, Addr.add_lit, Nat.zero_add]
    refine ⟨by decide, strP, Blk.cell (w := w3.drew) q13 q2, _, _, _, Blk.cell (w := w3.drew) k23 rfl, ?_⟩
    simp only [Addr.add_lit, Nat.zero_add]
    refine ⟨by decide, strP, Blk.cell (w := w3.drew) p13 p2, ?_⟩
    have he : strEq strP strP = true := by unfold strEq; simp
    rw [he]
    refine c_nb (fun h => by cases h) (fun _ => ⟨_, _, _, Blk.cell (w := w3.drew) k13 rfl, ?_⟩)
    simp only [Addr.add_lit, Nat.zero_add]
    refine ⟨by decide, at_, Blk.cell (w := w3.drew) q13 q3, _, _, _, Blk.cell (w := w3.drew) k23 rfl, ?_⟩
    simp only [Addr.add_lit, Nat.zero_add]
    refine ⟨by decide, at_, Blk.cell (w := w3.drew) p13 p3, c_ne (fun h => absurd rfl h) (fun _ => ?_)⟩
    exact ⟨(1, ()), by rw [wrap_in (by omega) (by omega)]; rfl, ⟨b3.drew, Or.inr rfl⟩, by decide⟩
  · dsimp only
    have k13 := below_blk b3 k1.lt k1
    exact ⟨_, _, _, k13.cell rfl, c_dec (fun h => absurd h (by decide)) (fun _ => ⟨by trivial, b12.trans (b3.mono b12.size)⟩)⟩
theorem c33 {f : Nat} {g : Array Value} {at_ : Int} {w : World} (hf : Blk w f (fltA at_) 105) (h : Flt w g at_) : Calls Try.prog 33 #[.iface 103 (.pointer (some ⟨f, 0, none⟩)), .agg g] w (Ret fun v w' => v = .bool true ∧ Below w.heap.size w w') := by
  refine W33_ok _ _ w _ ?_
  have hg : ∃ (k c : Nat), g = #[.slice (some ⟨k, 0, none⟩) 1 c, .int .i64 4] := by obtain ⟨k, c, cs, h1, _⟩ := h; exact ⟨k, c, h1⟩
  refine newW_intro fun a1 w1 k1 l1 b1 => (c65 (below_blk b1 hf.lt hf)).mono ?_
  have z1 := b1.size
  have y1 := k1.lt
  rintro e w2 ⟨v, rfl, g2, rfl, hF, b2⟩
  have z2 := b2.size
  obtain ⟨k2, c2, cs2, hg2, _⟩ := id hF
  refine ⟨g2, true, rfl, newW_intro fun a4 w3 k3 l3 b3 => ?_⟩
  have z3 := b3.size
  have y3 := k3.lt
  refine stA_intro (g := g2) (o := 0) k3 (by rw [hg2]; rfl) (by simp) (by rw [hg2]; exact one2) fun w4 k4 m4 s4 => ?_
  rw [ovw_all (by rw [hg2]; rfl)] at k4
  have b24 : Below w2.heap.size w2 w4 := b3.trans (m4.below z3 l3)
  have b14 := b2.trans (b24.mono z2)
  have b04 := b1.trans (b14.mono z1)
  have k14 := below_blk b14 y1 k1
  refine c_b (fun _ => ⟨g, by obtain ⟨k, c, rfl⟩ := hg; rfl, row_whole k14, g2, by rw [hg2]; rfl, row_whole k4, (c66 (h.below b04) (hF.below b24)).mono ?_⟩) (fun h => by cases h)
  rintro e w5 ⟨v, rfl, rfl, b5⟩
  exact ⟨_, rfl, rfl, b04.trans (b5.mono b04.size)⟩
/-- What a law's 'from' gives. -/
theorem bld39' (b r : Nat) : bldP Try.prog 39 [(0, .pointer (some ⟨b, 0, none⟩)), (1, .pointer (some ⟨r, 0, none⟩))] (.agg #[.pointer (some ⟨b, 0, none⟩), .pointer (some ⟨r, 0, none⟩)]) := fun w => by kernel_rfl
set_option maxRecDepth 10000 in
theorem c12 (t : Tab) (w : World) : Calls Try.prog 12 #[.agg t.enc] w (Ret fun v w' => Below w.heap.size w w' ∧
    ((v = .tuple #[.pointer none, .bool true]) ∨ (∃ pb b r, v = .tuple #[.pointer (some ⟨pb, 0, none⟩), .bool true] ∧ Ok t ∧ PairAt w' pb b r t ∧ w.heap.size ≤ pb ∧ w.heap.size ≤ b ∧ w.heap.size ≤ r))) := by
  refine W12_ok _ w _ ?_
  refine newW_intro fun c w1 k1 l1 b1 => ?_
  have z1 := b1.size
  have y1 := k1.lt
  refine ⟨t.enc, enc_size t, row_whole k1, (c31 t w1).mono ?_⟩
  rintro e w2 ⟨v, rfl, hv, b2⟩
  have z2 := b2.size
  have k2 := below_blk b2 y1 k1
  have b02 := b1.trans (b2.mono z1)
  unfold FromP at hv
  cases hat : fromAt t with
  | some at_ =>
    rw [hat] at hv
    obtain ⟨f, rfl, hf, lf⟩ := hv
    refine ⟨_, _, rfl, t.enc, enc_size t, row_whole k2, (c32 t w2).mono ?_⟩
    rintro e w3 ⟨v, rfl, hv, b3⟩
    have b03 := b02.trans (b3.mono b02.size)
    unfold FromR at hv
    rw [hat] at hv
    subst hv
    refine ⟨_, _, rfl, c_b (fun _ => c_b (fun _ => (c34 at_ w3).mono ?_) (fun h => by cases h)) (fun h => by cases h)⟩
    rintro e w4 ⟨v, rfl, g, rfl, hF, b4⟩
    have b04 := b03.trans (b4.mono b03.size)
    have z3 := b3.size
    refine ⟨g, rfl, (c33 (below_blk (b3.trans (b4.mono z3)) hf.lt hf) hF).mono ?_⟩
    rintro e w5 ⟨v, rfl, rfl, b5⟩
    exact ⟨_, rfl, b04.trans (b5.mono b04.size), Or.inl rfl⟩
  | none =>
    rw [hat] at hv
    obtain ⟨b, rfl, hb, lb⟩ := hv
    have hk := fromOk hat
    refine ⟨_, _, rfl, t.enc, enc_size t, row_whole k2, (c32 t w2).mono ?_⟩
    rintro e w3 ⟨v, rfl, hv, b3⟩
    have b03 := b02.trans (b3.mono b02.size)
    have z3 := b3.size
    unfold FromR at hv
    rw [hat] at hv
    obtain ⟨r, rfl, hr, lr⟩ := hv
    refine ⟨_, _, rfl, c_b (fun h => by cases h) (fun _ => ⟨fun x w4 => x = (false, ()) ∧ w4 = w3, ?_, ?_⟩)⟩
    · rintro _ _ w4 ⟨rfl, rfl⟩
      refine c_b (fun h => by cases h) (fun _ => ⟨_, bld39' b r, newW_intro fun pb w5 k5 l5 b5 => ⟨b03.trans (b5.mono b03.size), Or.inr ⟨pb, b, r, rfl, hk, ⟨k5, below_blk b5 (Nat.lt_of_lt_of_le (tab_lt hb) z3) (below_blk b3 (tab_lt hb) hb), below_blk b5 (Blk.lt hr) hr⟩, by omega, by omega, by omega⟩⟩⟩)
    · exact c_b (fun h => by cases h) (fun _ => ⟨true, rfl, (false, ()), rfl, rfl, rfl⟩)
end Go.Proofs.Ythihjppjollekaa
