/- Contracts of the document's own answers on the table of processes, the longer ones; no condition. -/
import Derived.Test.YthihjppjollekaaFa
set_option linter.unusedVariables false
namespace Go.Proofs.Ythihjppjollekaa
open Go.RowKit Go.Hx
section
variable {b : Nat} {t : Tab} {w : World}
theorem Ok.parself {t : Tab} (h : Ok t) {i : Nat} (hi : i < 64) (h0 : i ≠ 0) (hs : (t.s i).st ≠ 0) : (t.s i).par ≠ i := fun e => by
  obtain ⟨p, hp, g1, g2, g3, g4⟩ := h.par i hi h0 hs
  have : p = i := by omega
  subst this
  omega
theorem c48 (h : TabAt 102 w b t) (hk : Ok t) (parent : Int) :
    Calls Try.prog 48 #[.pointer (some ⟨b, 0, none⟩), .int .i64 parent] w (Ret fun v w' => v = v3 (tAdd t parent) ∧ TabAt 102 w' b (tAdd t parent).2.2.2 ∧ Mod b w w') := by
  refine W48_ok _ _ w _ ?_
  have hn := hk.ne0
  have hn1 := hk.n1
  have hn2 := hk.n2
  refine (c59 h).mono ?_
  rintro e w' ⟨v, rfl, rfl, rfl⟩
  refine ⟨_, rfl, c_eq (fun e => absurd e hn) (fun _ => (c68 h 0).mono ?_)⟩
  rintro e w' ⟨v, rfl, rfl, rfl⟩
  have h0 : t.has 0 ↔ (t.s 0).st ≠ 0 := ⟨fun e => e.2.2, fun e => ⟨by omega, by omega, e⟩⟩
  have hany := any_iff hk
  refine ⟨_, rfl, fun x w2 => x = (if (t.s 0).st ≠ 0 then parent else 0, ()) ∧ ¬ ((t.s 0).st ≠ 0 ∧ (¬ t.has parent ∨ (t.s parent.toNat).st = 3)) ∧ w2 = w', ?_, ?_⟩
  · rintro _ _ w2 ⟨rfl, hok, rfl⟩
    have hok' : ¬ ((fs fun i => decide ((t.s i).st ≠ 0)).isSome = true ∧ (¬ t.has parent ∨ (t.s parent.toNat).st = 3)) := by rw [hany]; simpa using hok
    refine ⟨t.next, by simp only [Addr.add_lit, Nat.zero_add]; exact h.next, c_dec (fun hp => ?_) (fun hp => (c69 h hk).mono ?_)⟩
    · have e : tAdd t parent = (-1, -1, 262, t) := by unfold tAdd; rw [if_neg hok', if_pos hp]
      rw [e]; exact ⟨rfl, h, Mod.refl _ _⟩
    · rintro e w3 ⟨v, rfl, rfl, rfl⟩
      refine ⟨_, rfl, ?_⟩
      cases hi : fs fun i => decide (t.s i = Pr.zero) with
      | none =>
        have e : tAdd t parent = (-1, -1, 263, t) := by unfold tAdd; rw [if_neg hok', if_neg hp, hi]
        rw [e]
        exact c_dec (fun _ => ⟨rfl, h, Mod.refl _ _⟩) (fun hh => absurd (by decide) hh)
      | some i =>
        have hi' := (fs_spec hi).1
        have e : tAdd t parent = ((i : Int), t.next, 0, { (t.set i ⟨t.next, 1, if (t.s 0).st ≠ 0 then parent else 0, 0, 0, false, 0⟩) with next := t.next + 1 }) := by
          unfold tAdd; rw [if_neg hok', if_neg hp, hi, hany]; simp
        rw [e]
        dsimp only
        refine c_dec (fun hh => by omega) (fun _ => ?_)
        simp only [nlW, Addr.add_lit, Nat.zero_add, Int.toNat_natCast]
        refine ⟨t.next, h.next, t.next, h.next, ?_⟩
        rw [wrap_in (by omega) (by omega)]
        refine tab_stN h fun w4 h4 m4 s4 => ⟨_, bld28a _ _ _, ⟨by omega, by omega⟩, ?_⟩
        refine tab_stA h4 hi' _ fun w5 h5 m5 s5 => ⟨rfl, h5, m4.trans m5⟩
  · refine c_dec (fun hh => (c68 h parent).mono ?_) (fun hh => ⟨(0, ()), rfl, by rw [if_neg (fun e => hh (h0.2 e))], fun e => hh (h0.2 e.1), rfl⟩)
    rintro e w2 ⟨v, rfl, rfl, rfl⟩
    have hs0 := h0.1 hh
    refine ⟨_, rfl, fun x w3 => x = (decide (¬ t.has parent ∨ (t.s parent.toNat).st = 3), ()) ∧ w3 = w2, ?_, ?_⟩
    · rintro _ _ w3 ⟨rfl, rfl⟩
      refine c_dec (fun hb => ?_) (fun hb => ⟨(parent, ()), rfl, by rw [if_pos hs0], fun e => hb e.2, rfl⟩)
      have e : tAdd t parent = (-1, -1, 261, t) := by unfold tAdd; rw [if_pos ⟨by rw [hany]; simpa using hs0, hb⟩]
      rw [e]; exact ⟨rfl, h, Mod.refl _ _⟩
    · refine c_ndec (fun hb => ⟨(true, ()), rfl, by simp [hb], rfl⟩) (fun hb => ?_)
      have hs := has_lt hb
      obtain ⟨g1, g2, _⟩ := id hb
      simp only [nlW, Addr.add_lit, Nat.zero_add]
      refine ⟨⟨by omega, by omega⟩, _, h.st hs, ((t.s parent.toNat).st == 3, ()), rfl, ?_, by trivial⟩
      congr 1
      rw [Bool.eq_iff_iff]; simp [hb]
theorem eC_one (t : Tab) (p : Int) : eC t p 1 = (false, t) := by
  rw [eC, if_neg]; rfl
  simp [chB]
theorem c54 (h : TabAt 102 w b t) (hk : Ok t) (s st : Int) :
    Calls Try.prog 54 #[.pointer (some ⟨b, 0, none⟩), .int .i64 s, .int .i32 st] w (Ret fun v w' => v = .tuple #[.bool (tEnd t s st).1, .int .i64 (tEnd t s st).2.1] ∧ TabAt 102 w' b (tEnd t s st).2.2 ∧ Mod b w w') := by
  refine W54_ok _ _ _ w _ ?_
  have hn := hk.ne0
  refine (c59 h).mono ?_
  rintro e w' ⟨v, rfl, rfl, rfl⟩
  refine ⟨_, rfl, c_eq (fun e => absurd e hn) (fun _ => (c68 h s).mono ?_)⟩
  rintro e w' ⟨v, rfl, rfl, rfl⟩
  refine ⟨_, rfl, c_ndec (fun hh => ?_) (fun hh => ?_)⟩
  · have e : tEnd t s st = (false, 260, t) := by unfold tEnd; rw [if_pos hh]
    rw [e]; exact ⟨rfl, h, Mod.refl _ _⟩
  have hs := has_lt hh
  obtain ⟨g1, g2, g3⟩ := id hh
  simp only [nlW, Addr.add_lit, Nat.zero_add]
  refine ⟨⟨by omega, by omega⟩, _, h.st hs, c_eq (fun hb => ?_) (fun hb => ?_)⟩
  · have e : tEnd t s st = (false, 265, t) := by unfold tEnd; rw [if_neg (by simpa using hh), if_pos hb]
    rw [e]; exact ⟨rfl, h, Mod.refl _ _⟩
  refine ⟨⟨by omega, by omega⟩, tab_stC h hs (by omega) { t.s s.toNat with st := 3 } rfl fun w2 h2 m2 s2 => ⟨_, bld26, ⟨by omega, by omega⟩, ?_⟩⟩
  refine tab_stCh h2 hs 0 0 fun w3 h3 m3 s3 => ⟨⟨by omega, by omega⟩, ?_⟩
  rw [set_same, set_set] at h3
  refine tab_stC h3 hs (by omega) { t.s s.toNat with st := 3, ck := 0, cn := 0, sts := st } (by rw [set_same]; rfl) fun w4 h4 m4 s4 => ?_
  rw [set_set] at h4
  have m14 := (m2.trans m3).trans m4
  have hpar : s ≠ 0 → (t.s s.toNat).par ≠ s := fun e e2 => hk.parself hs (by omega) g3 (by omega)
  generalize hu : t.set s.toNat { t.s s.toNat with st := 3, ck := 0, cn := 0, sts := st } = u at *
  have hus : s ≠ 0 → (u.s s.toNat).par ≠ s := fun e => by rw [← hu, set_same]; exact hpar e
  have e0 : tEnd t s st = if s = 0 then (false, 0, u) else ((eC u s 64).1, 0, (eC u s 64).2) := by
    unfold tEnd; rw [if_neg (by simpa using hh), if_neg hb, hu]
  refine ⟨fun x w5 => ∃ i : Nat, x = ((eC u s i).1, (i : Int), ()) ∧ 1 ≤ i ∧ i ≤ 64 ∧ TabAt 102 w5 b (eC u s i).2 ∧ Mod b w' w5 ∧ (s = 0 → i = 1), fun x _ => (64 - x.2.1).toNat, ⟨(false, 1, ()), rfl, 1, by rw [eC_one]; rfl, by omega, by omega, by rw [eC_one]; exact h4, m14, fun _ => rfl⟩, ?_⟩
  rintro _ x w5 ⟨i, rfl, hi1, hi, h5, m5, hi0⟩
  dsimp only
  refine c_dec (fun hl => c_ne (fun h0 => ?_) (fun h0 => ?_)) (fun hg => ?_)
  · have hi' : i < 64 := by omega
    have nx : IntKind.i64.wrap ((i : Int) + 1) = ((i + 1 : Nat) : Int) := by rw [wrap_in (by omega) (by omega)]; omega
    refine (c72 (p := s) h5 hi' (fun e1 e2 e3 => ?_)).mono ?_
    · have e4 : i = s.toNat := by omega
      rw [e4, eC_s, if_neg (by omega)]
      exact hus h0
    rintro e w6 ⟨v, rfl, rfl, rfl⟩
    refine ⟨_, rfl, c_b (fun hc => ?_) (fun hc => ?_)⟩
    · simp only [Int.toNat_natCast]
      refine ⟨⟨by omega, by omega⟩, tab_stC h5 hi' (by omega) { (eC u s i).2.s i with par := 0 } rfl fun w7 h7 m7 s7 => ?_⟩
      have e1 : eC u s (i + 1) = ((eC u s i).1 || decide (((eC u s i).2.s i).st = 3), (eC u s i).2.set i { (eC u s i).2.s i with par := 0 }) := by rw [eC, if_pos hc]
      refine c_b (fun hf => ?_) (fun hf => ?_)
      · refine ⟨((eC u s (i + 1)).1, ((i + 1 : Nat) : Int), ()), ?_, ⟨i + 1, rfl, by omega, by omega, by rw [e1]; exact h7, m5.trans m7, fun e => absurd e h0⟩, by dsimp only; omega⟩
        rw [nx, e1, hf]; rfl
      · refine ⟨⟨by omega, by omega⟩, _, h7.st hi', ((eC u s (i + 1)).1, ((i + 1 : Nat) : Int), ()), ?_, ⟨i + 1, rfl, by omega, by omega, by rw [e1]; exact h7, m5.trans m7, fun e => absurd e h0⟩, by dsimp only; omega⟩
        rw [nx, e1, hf, set_same]; rfl
    · have e1 : eC u s (i + 1) = eC u s i := by rw [eC, if_neg (by simp [hc])]
      refine ⟨((eC u s (i + 1)).1, ((i + 1 : Nat) : Int), ()), by rw [nx, e1]; rfl, ⟨i + 1, rfl, by omega, by omega, by rw [e1]; exact h5, m5, fun e => absurd e h0⟩, by dsimp only; omega⟩
  · have := hi0 h0
    subst this
    rw [e0, if_pos h0]
    rw [eC_one] at h5 ⊢
    exact ⟨rfl, h5, m5⟩
  · have : i = 64 := by omega
    subst this
    have h0 : s ≠ 0 := fun e => by have := hi0 e; omega
    rw [e0, if_neg h0]
    exact ⟨rfl, h5, m5⟩
theorem c55 (h : TabAt 102 w b t) (hk : Ok t) (p : Int) :
    Calls Try.prog 55 #[.pointer (some ⟨b, 0, none⟩), .int .i64 p] w (Ret fun v w' => v = .tuple #[.int .i64 (tZom t p).1, .bool (tZom t p).2] ∧ w' = w) := by
  refine W55_ok _ _ w _ ?_
  have hn := hk.ne0
  refine (c59 h).mono ?_
  rintro e w' ⟨v, rfl, rfl, rfl⟩
  refine ⟨_, rfl, c_eq (fun e => absurd e hn) (fun _ => (c68 h p).mono ?_)⟩
  rintro e w' ⟨v, rfl, rfl, rfl⟩
  refine ⟨_, rfl, c_ndec (fun hh => ?_) (fun hh => ?_)⟩
  · have e : tZom t p = (-1, false) := by unfold tZom; rw [if_pos hh]
    rw [e]; exact ⟨rfl, rfl⟩
  have hno1 : ∀ j, j < 1 → (chB t p j && decide ((t.s j).st = 3)) = false := fun j hj => by
    have : j = 0 := by omega
    rw [this]; simp [chB]
  refine ⟨fun x w5 => ∃ i : Nat, x = (anyC t p i, (i : Int), ()) ∧ 1 ≤ i ∧ i ≤ 64 ∧ (∀ j, j < i → (chB t p j && decide ((t.s j).st = 3)) = false) ∧ w5 = w', fun x _ => (64 - x.2.1).toNat, ⟨(false, 1, ()), rfl, 1, by simp [anyC, chB], by omega, by omega, hno1, rfl⟩, ?_⟩
  rintro _ x w5 ⟨i, rfl, hi1, hi, hno, rfl⟩
  dsimp only
  refine c_dec (fun hl => ?_) (fun hg => ?_)
  · have hi' : i < 64 := by omega
    have nx : IntKind.i64.wrap ((i : Int) + 1) = ((i + 1 : Nat) : Int) := by rw [wrap_in (by omega) (by omega)]; omega
    refine (c72 (p := p) h hi' (fun e1 e2 e3 => by rw [← e2]; exact hk.parself hi' e1 e3)).mono ?_
    rintro e w6 ⟨v, rfl, rfl, rfl⟩
    refine ⟨_, rfl, fun x w7 => x = (chB t p i && decide ((t.s i).st = 3), ()) ∧ w7 = w6, ?_, ?_⟩
    · rintro _ _ w7 ⟨rfl, rfl⟩
      refine c_b (fun hc => ?_) (fun hc => ?_)
      · have e : tZom t p = ((i : Int), true) := by unfold tZom; rw [if_neg (by simpa using hh), fs_some hi' hc hno]
        rw [e]; exact ⟨rfl, rfl⟩
      · have go : ∀ f : Bool, f = anyC t p (i + 1) → ∃ t' : Bool × Int × Unit, ([.bool f, .int .i64 (IntKind.i64.wrap ((i : Int) + (1 : Int)))] : List Value) = tv [(7, .bool), (8, .int .i64)] t' ∧ (∃ i : Nat, t' = (anyC t p i, (i : Int), ()) ∧ 1 ≤ i ∧ i ≤ 64 ∧ (∀ j, j < i → (chB t p j && decide ((t.s j).st = 3)) = false) ∧ w7 = w7) ∧ (64 - t'.2.1).toNat < (64 - (i : Int)).toNat := fun f hf =>
          ⟨(anyC t p (i + 1), ((i + 1 : Nat) : Int), ()), by rw [nx, hf]; rfl, ⟨i + 1, rfl, by omega, by omega, fun j hj => by
            by_cases e : j = i
            · subst e; exact hc
            · exact hno j (by omega), rfl⟩, by dsimp only; omega⟩
        exact c_b (fun hf => go _ (by rw [anyC_succ, hf]; rfl)) (fun hf => go _ (by rw [anyC_succ, hf]; rfl))
    · refine c_b (fun hc => ?_) (fun hc => ⟨(false, ()), rfl, by rw [hc]; rfl, rfl⟩)
      simp only [nlW, Addr.add_lit, Nat.zero_add, Int.toNat_natCast]
      refine ⟨⟨by omega, by omega⟩, _, h.st hi', ((t.s i).st == 3, ()), rfl, ?_, by trivial⟩
      rw [hc, Bool.true_and]; congr 1
  · have : i = 64 := by omega
    subst this
    have e : tZom t p = (-1, anyC t p 64) := by unfold tZom; rw [if_neg (by simpa using hh), fs_none hno, anyC_all]
    rw [e]; exact ⟨rfl, rfl⟩
theorem c29 (h : TabAt 102 w b t) (hn : t.next ≠ 0) : Calls Try.prog 29 #[.pointer (some ⟨b, 0, none⟩)] w (Ret fun v w' => v = .agg t.enc ∧ Below w.heap.size w w') := by
  refine W29_ok _ w _ ?_
  refine newW_intro fun c w1 k1 l1 b1 => ?_
  have hlt := Blk.lt h
  have h1 : TabAt 102 w1 b t := below_blk b1 hlt h
  refine (c59 h1).mono ?_
  rintro e w' ⟨v, rfl, rfl, rfl⟩
  refine ⟨_, rfl, c_eq (fun e => absurd e hn) (fun _ => ?_)⟩
  have hl : t.rowsA.size = 448 := by unfold Tab.rowsA; simp [rows_len]
  refine ⟨fun w => TabAt 102 w b t, h1, ?_⟩
  simp only [nlW, Addr.add_lit, Nat.zero_add]
  refine ⟨t.rowsA, hl, fun w' q => row_blk q fun j hj => ?_, t.next, fun w' q => q.next, _, bld31t t, ?_⟩
  · rw [hl] at hj
    rw [Nat.zero_add]
    show t.l.toArray[j]? = (rows t.s 0 64).toArray[j]?
    rw [List.getElem?_toArray, List.getElem?_toArray, Tab.l, List.getElem?_append_left (by rw [rows_len]; omega)]
  · refine stA_intro (w := w'.drew) (show Blk w'.drew c _ 31 from k1) (enc_size _) (by rw [zc31]; omega) (one_tab _) fun w2 h2 m2 s2 => ?_
    rw [ovw_all (by rw [zc31, enc_size])] at h2
    exact ⟨m2.blk (by omega) (show Blk w'.drew b _ 102 from h1), _, enc_size _, row_whole h2, by trivial, b1.drew.trans (m2.below b1.size l1)⟩
set_option maxRecDepth 100000 in
theorem bld102 : bldP Try.prog 102 [(1, .int .i64 (1 : Int))] (.agg tNew.enc) := fun w => by kernel_rfl
theorem c30 (w : World) : Calls Try.prog 30 #[] w (Ret fun v w' => ∃ b, v = .pointer (some ⟨b, 0, none⟩) ∧ TabAt 102 w' b tNew ∧ w.heap.size ≤ b ∧ Below w.heap.size w w') :=
  W30_ok w _ ⟨_, bld102, newW_intro fun b w1 h1 h2 h3 => ⟨b, rfl, h1, h2, h3⟩⟩
end
end Go.Proofs.Ythihjppjollekaa
