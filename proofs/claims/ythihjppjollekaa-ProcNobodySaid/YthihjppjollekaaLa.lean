/- The law ProcNobody, walked; no condition. -/
import Derived.Test.YthihjppjollekaaCf
set_option linter.unusedVariables false
namespace Go.Proofs.Ythihjppjollekaa
open Go.RowKit Go.Hx

theorem bsl64 (b : Nat) : bslP Try.prog 64 2 [(0, .pointer none), (1, .pointer (some ⟨b, 0, none⟩))] #[.pointer none, .pointer (some ⟨b, 0, none⟩)] 36 := fun w => by kernel_rfl
set_option maxRecDepth 100000 in
theorem bld63z : bldP Try.prog 63 [] (.agg tZero.enc) := fun w => by kernel_rfl
theorem law8 (n k c s : Int) (w : World) : Calls Try.prog 8 #[.int .i64 n, .agg #[.int .i64 k, .int .i64 c], .int .i32 s] w (Ret fun v w' => v = .bool true ∧ Below w.heap.size w w') := by
  refine W8_ok _ _ _ w _ ?_
  refine newW_intro fun b1 w1 k1 l1 e1 => ⟨_, bld63z, newW_intro fun b2 w2 k2 l2 e2 => ⟨_, bsl64 b2, newW_intro fun b3 w3 k3 l3 e3 => ?_⟩⟩
  have z1 := e1.size
  have z2 := e2.size
  have z3 := e3.size
  have y1 := k1.lt
  have y2 := k2.lt
  have e12 := e1.trans (e2.mono e1.size)
  have e13 := e12.trans (e3.mono e12.size)
  have k13 := below_blk e3 (by omega) (below_blk e2 k1.lt k1)
  have k23 : TabAt 63 w3 b2 tZero := below_blk e3 k2.lt k2
  refine ⟨fun x w' => ∃ i : Nat, i ≤ 2 ∧ x = ((i : Int), ()) ∧ Below w3.heap.size w3 w' , fun x _ => (2 - x.1).toNat, ⟨(0, ()), rfl, 0, by omega, rfl, Below.refl _ _⟩, ?_⟩
  rintro _ x w' ⟨i, hi, rfl, q⟩
  dsimp only
  refine c_dec (fun hlt => ?_) (fun hge => ?_)
  · simp only [nlW, Addr.add_lit, Nat.zero_add, Int.toNat_natCast, Nat.mul_one]
    refine ⟨⟨by omega, by omega⟩, ?_⟩
    have hp : ∃ x, w'.cell? ⟨b3, i, none⟩ = some (.pointer x) ∧ NoT x w' := by
      have kk := below_blk q k3.lt k3
      match i, hlt with
      | 0, _ => exact ⟨_, kk.cell rfl, Or.inl rfl⟩
      | 1, _ => exact ⟨_, kk.cell rfl, Or.inr ⟨b2, tZero, rfl, below_tab q (tab_lt k23) k23, rfl⟩⟩
    obtain ⟨x, hx, hN⟩ := hp
    have kb := below_blk q k13.lt k13
    have kbl := kb.lt
    refine ⟨x, hx, (c24z hN n).mono ?_⟩
    rintro e v1 ⟨v, rfl, rfl, f1⟩
    have N1 := hN.below f1
    have g1 := f1.size
    refine ⟨_, _, _, rfl, (c19z N1 n).mono ?_⟩
    rintro e v2 ⟨v, rfl, rfl, f2⟩
    have N2 := N1.below f2
    have g2 := f2.size
    refine ⟨_, _, rfl, (c20z N2 n s).mono ?_⟩
    rintro e v3 ⟨v, rfl, rfl, f3⟩
    have N3 := N2.below f3
    have g3 := f3.size
    refine ⟨_, _, rfl, (c22z N3 n).mono ?_⟩
    rintro e v4 ⟨v, rfl, rfl, f4⟩
    have N4 := N3.below f4
    have g4 := f4.size
    refine ⟨_, _, rfl, ?_⟩
    have f14 := f1.trans ((f2.mono (by omega)).trans ((f3.mono (by omega)).trans (f4.mono (by omega : w'.heap.size ≤ v3.heap.size))))
    refine c_ne (fun h => absurd rfl h) fun _ => c_ne (fun h => absurd rfl h) fun _ => c_ne (fun h => absurd rfl h) fun _ => c_ne (fun h => absurd rfl h) fun _ => ?_
    refine c_b (fun h => absurd h (by simp)) fun _ => c_b (fun h => absurd h (by simp)) fun _ => c_ne (fun h => absurd rfl h) fun _ => c_ne (fun h => absurd rfl h) fun _ => c_b (fun h => absurd h (by simp)) fun _ => ?_
    refine ⟨_, rfl, row_whole (below_blk f14 kbl kb), (c25z N4 n _).mono ?_⟩
    rintro e v5 ⟨v, rfl, rfl, f5⟩
    have N5 := N4.below f5
    have g5 := f5.size
    have f15 := f14.trans (f5.mono (by omega))
    refine ⟨_, rfl, c_ne (fun h => absurd rfl h) fun _ => ⟨_, rfl, row_whole (below_blk f15 kbl kb), (c16z N5 _).mono ?_⟩⟩
    rintro e v6 ⟨v, rfl, rfl, f6⟩
    have N6 := N5.below f6
    have g6 := f6.size
    have f16 := f15.trans (f6.mono (by omega))
    refine ⟨_, rfl, c_ne (fun h => absurd rfl h) fun _ => (c26z N6 n).mono ?_⟩
    rintro e v7 ⟨v, rfl, rfl, f7⟩
    have N7 := N6.below f7
    have g7 := f7.size
    have f17 := f16.trans (f7.mono (by omega))
    refine ⟨_, rfl, c_ne (fun h => absurd rfl h) fun _ => (c23z N7 n).mono ?_⟩
    rintro e v8 ⟨v, rfl, rfl, f8⟩
    have N8 := N7.below f8
    have g8 := f8.size
    have f18 := f17.trans (f8.mono (by omega))
    refine ⟨_, rfl, c_ne (fun h => absurd rfl h) fun _ => (c21z N8 n).mono ?_⟩
    rintro e v9 ⟨v, rfl, rfl, f9⟩
    have N9 := N8.below f9
    have g9 := f9.size
    have f19 := f18.trans (f9.mono (by omega))
    refine ⟨_, rfl, c_ne (fun h => absurd rfl h) fun _ => (c27z N9).mono ?_⟩
    rintro e v10 ⟨v, rfl, rfl, f10⟩
    have N10 := N9.below f10
    have g10 := f10.size
    have f110 := f19.trans (f10.mono (by omega))
    refine ⟨_, rfl, c_b (fun h => absurd h (by simp)) fun _ => (c18z N10 n).mono ?_⟩
    rintro e v11 ⟨v, rfl, rfl, f11⟩
    have N11 := N10.below f11
    have g11 := f11.size
    have f111 := f110.trans (f11.mono (by omega))
    refine ⟨_, rfl, _, bld28, _, eq_Pr _ _, c_nb (fun h => absurd h (by simp)) fun _ => (c13z N11).mono ?_⟩
    rintro e v12 ⟨v, rfl, rfl, f12⟩
    have g12 := f12.size
    have f112 := f111.trans (f12.mono (by omega))
    refine ⟨_, rfl, _, bld31, _, eq_Tab _ _, c_nb (fun h => absurd h (by simp [Tab.same])) fun _ => ?_⟩
    refine ⟨(((i + 1 : Nat) : Int), ()), ?_, ⟨i + 1, by omega, rfl, q.trans (f112.mono q.size)⟩, by dsimp only; omega⟩
    rw [wrap_in (by omega) (by omega)]; rfl
  · exact ⟨rfl, e13.trans (q.mono e13.size)⟩
end Go.Proofs.Ythihjppjollekaa
