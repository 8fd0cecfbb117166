/- Contracts of the program's calls that end processes and tell the table; no condition. -/
import Derived.Test.YthihjppjollekaaCd
set_option linter.unusedVariables false
namespace Go.Proofs.Ythihjppjollekaa
open Go.RowKit Go.Hx

/-- Of the first F blocks all but b are as they were. -/
structure Md (F b : Nat) (w w' : World) : Prop where
  os : w'.os = w.os
  tape : w'.tape = w.tape
  output : w'.output = w.output
  size : F ≤ w'.heap.size
  block : ∀ k, k < F → k ≠ b → w'.heap[k]? = w.heap[k]?
theorem Md.trans {F b : Nat} {x y z : World} (h : Md F b x y) (k : Md F b y z) : Md F b x z :=
  ⟨k.os.trans h.os, k.tape.trans h.tape, k.output.trans h.output, k.size, fun i hi hb => (k.block i hi hb).trans (h.block i hi hb)⟩
theorem Md.of_mod {F b c : Nat} {w w' : World} (h : Mod c w w') (hF : F ≤ w.heap.size) (hc : c = b ∨ F ≤ c) : Md F b w w' :=
  ⟨h.os, h.tape, h.output, Nat.le_trans hF h.size, fun k hk hb => h.block k (by omega) (by omega)⟩
theorem Md.of_below {F b B : Nat} {w w' : World} (h : Below B w w') (hF : F ≤ B) (hw : F ≤ w.heap.size) : Md F b w w' :=
  ⟨h.os, h.tape, h.output, Nat.le_trans hw h.size, fun k hk hb => h.block k (by omega)⟩
theorem Md.mod {b : Nat} {w w' : World} (h : Md w.heap.size b w w') : Mod b w w' := ⟨h.os, h.tape, h.output, h.size, h.block⟩
theorem Md.blk {F b c : Nat} {w w' : World} (h : Md F b w w') (hc : c ≠ b) (hF : c < F) {cs : Array Value} {t : TypeId} (hb : Blk w c cs t) : Blk w' c cs t := by
  unfold Blk at *
  rw [h.block c hF hc]; exact hb

/-! ### Free -/
def tFree (t : Tab) (s : Int) : Int × Tab :=
  if ¬ t.has s ∨ s = 0 then (260, t) else
  if (t.s s.toNat).st ≠ 3 then (265, t) else (0, t.set s.toNat Pr.zero)
theorem c21 {b : Nat} {t : Tab} {w : World} (h : TabAt 63 w b t) (hn : t.next ≠ 0) (s : Int) :
    Calls Try.prog 21 #[.pointer (some ⟨b, 0, none⟩), .int .i64 s] w (Ret fun v w' => v = .int .i64 (tFree t s).1 ∧ TabAt 63 w' b (tFree t s).2 ∧ Mod b w w') := by
  refine W21_ok _ _ w _ ?_
  refine (c35 h).mono ?_
  rintro e w' ⟨v, rfl, rfl, rfl⟩
  refine ⟨_, rfl, c_eq (fun e => absurd e hn) (fun _ => ?_)⟩
  refine (c38 h s).mono ?_
  rintro e w' ⟨v, rfl, rfl, rfl⟩
  refine ⟨_, rfl, ?_⟩
  by_cases hh : t.has s
  · rw [atA_some hh]
    have hs := has_lt hh
    show cond (s == 0) _ _
    refine c_eq (fun h0 => ?_) (fun h0 => ?_)
    · have e : tFree t s = (260, t) := by unfold tFree; rw [if_pos (Or.inr h0)]
      rw [e]; exact ⟨rfl, h, Mod.refl _ _⟩
    · refine ⟨_, by simp only [Addr.add_lit]; exact h.st hs, c_ne (fun hb => ?_) (fun hb => ?_)⟩
      · have e : tFree t s = (265, t) := by unfold tFree; rw [if_neg (by simp [hh, h0]), if_pos hb]
        rw [e]; exact ⟨rfl, h, Mod.refl _ _⟩
      · have e : tFree t s = (0, t.set s.toNat Pr.zero) := by unfold tFree; rw [if_neg (by simp [hh, h0]), if_neg (by simpa using hb)]
        rw [e]
        exact ⟨_, bld28, tab_stA h hs _ fun w2 h2 m2 s2 => ⟨rfl, h2, m2⟩⟩
  · rw [atA_none hh]
    have e : tFree t s = (260, t) := by unfold tFree; rw [if_pos (Or.inl hh)]
    rw [e]; exact ⟨rfl, h, Mod.refl _ _⟩

/-! ### End -/
def eC (t : Tab) (p : Int) : Nat → Bool × Tab
  | 0 => (false, t)
  | i + 1 => if chB (eC t p i).2 p i = true then ((eC t p i).1 || decide (((eC t p i).2.s i).st = 3), (eC t p i).2.set i { (eC t p i).2.s i with par := 0 }) else eC t p i
def tEnd (t : Tab) (s st : Int) : Bool × Int × Tab :=
  if ¬ t.has s then (false, 260, t) else
  if (t.s s.toNat).st = 3 then (false, 265, t) else
  if s = 0 then (false, 0, t.set s.toNat { t.s s.toNat with st := 3, ck := 0, cn := 0, sts := st }) else
  ((eC (t.set s.toNat { t.s s.toNat with st := 3, ck := 0, cn := 0, sts := st }) s 64).1, 0, (eC (t.set s.toNat { t.s s.toNat with st := 3, ck := 0, cn := 0, sts := st }) s 64).2)
theorem c42 {F b bt bz : Nat} {t : Tab} {z : Bool} {w : World} (h : TabAt 63 w b t) (ht : Blk w bt #[.pointer (some ⟨b, 0, none⟩)] 36) (hz : Blk w bz #[.bool z] 4) (h1 : b ≠ bt) (h2 : b ≠ bz) (h3 : bt ≠ bz) (hF : F ≤ w.heap.size) (hz2 : F ≤ bz) {i : Nat} (hi : i < 64) :
    Calls Try.prog 42 #[.int .i64 i, .pointer (some ⟨bt, 0, none⟩), .pointer (some ⟨bz, 0, none⟩)] w (Ret fun v w' => v = .bool true ∧ TabAt 63 w' b (t.set i { t.s i with par := 0 }) ∧ Blk w' bt #[.pointer (some ⟨b, 0, none⟩)] 36 ∧ Blk w' bz #[.bool (z || decide ((t.s i).st = 3))] 4 ∧ Md F b w w') := by
  refine W42_ok _ _ _ w _ ?_
  refine ⟨_, ht.cell rfl, ?_⟩
  simp only [nlW, Addr.add_lit, Nat.zero_add, Int.toNat_natCast]
  refine ⟨⟨by omega, by omega⟩, ?_⟩
  refine tab_stC h hi (by omega) { t.s i with par := 0 } rfl fun w4 h4 m4 s4 => ?_
  have z4 := m4.blk (by omega) hz
  have t4 := m4.blk (by omega) ht
  refine ⟨_, z4.cell rfl, c_b (fun hb => ?_) (fun hb => ?_)⟩
  · refine stC_intro z4 (by simp) fun w5 h5 m5 s5 => ?_
    refine ⟨by trivial, m5.blk (by omega) h4, m5.blk (by omega) t4, ?_, (Md.of_mod m4 hF (Or.inl rfl)).trans (Md.of_mod m5 (by omega) (Or.inr hz2))⟩
    rw [hb]; exact h5
  · refine ⟨_, t4.cell rfl, ?_⟩
    simp only [Addr.add_lit, Nat.zero_add]
    refine ⟨⟨by omega, by omega⟩, _, h4.st hi, ?_⟩
    refine stC_intro z4 (by simp) fun w5 h5 m5 s5 => ?_
    refine ⟨by trivial, m5.blk (by omega) h4, m5.blk (by omega) t4, ?_, (Md.of_mod m4 hF (Or.inl rfl)).trans (Md.of_mod m5 (by omega) (Or.inr hz2))⟩
    rw [set_same] at h5
    rw [hb]; exact h5
theorem c20 {b : Nat} {t : Tab} {w : World} (h : TabAt 63 w b t) (hn : t.next ≠ 0) (s st : Int) :
    Calls Try.prog 20 #[.pointer (some ⟨b, 0, none⟩), .int .i64 s, .int .i32 st] w (Ret fun v w' => v = .tuple #[.bool (tEnd t s st).1, .int .i64 (tEnd t s st).2.1] ∧ TabAt 63 w' b (tEnd t s st).2.2 ∧ Mod b w w') := by
  refine W20_ok _ _ _ w _ ?_
  refine newW_intro fun c w1 k1 l1 b1 => ?_
  have hlt := tab_lt h
  have h1 := below_tab b1 (tab_lt h) h
  refine ⟨_, k1.cell rfl, (c35 h1).mono ?_⟩
  rintro e w' ⟨v, rfl, rfl, rfl⟩
  refine ⟨_, rfl, c_eq (fun e => absurd e hn) (fun _ => ?_)⟩
  refine ⟨_, k1.cell rfl, (c38 h1 s).mono ?_⟩
  rintro e w' ⟨v, rfl, rfl, rfl⟩
  refine ⟨_, rfl, ?_⟩
  by_cases hh : t.has s
  · rw [atA_some hh]
    have hs := has_lt hh
    simp only [nlW, Addr.add_lit, Option.isNone, cond]
    refine ⟨_, h1.st hs, c_eq (fun hb => ?_) (fun hb => ?_)⟩
    · have e : tEnd t s st = (false, 265, t) := by unfold tEnd; rw [if_neg (by simpa using hh), if_pos hb]
      rw [e]; exact ⟨rfl, h1, Mod.of_below b1⟩
    · refine (c36 h1 hs).mono ?_
      rintro e w2 ⟨v, rfl, rfl, h2, m2, s2⟩
      refine ⟨rfl, ?_⟩
      refine tab_stC h2 hs (by omega) { upP (t.s s.toNat) with st := 3 } (by rw [set_same]; rfl) fun w3 h3 m3 s3 => ?_
      rw [set_set] at h3
      refine tab_stC h3 hs (by omega) { t.s s.toNat with st := 3, ck := 0, cn := 0, sts := st } (by rw [set_same]; rfl) fun w4 h4 m4 s4 => ?_
      rw [set_set] at h4
      have m14 := (m2.trans m3).trans m4
      have k4 := m14.blk (by omega) k1
      have z14 := m14.size
      have z1 := b1.size
      refine newW_intro fun cz w5 k5 l5 b5 => ?_
      refine stC_intro k5 (by simp) fun w6 k6 m6 s6 => ?_
      have z5 := b5.size
      have k4lt := k4.lt
      have h4lt := tab_lt h4
      have h6 := m6.blk (by omega) (below_tab b5 (tab_lt h4) h4)
      have hc6 := m6.blk (by omega) (below_blk b5 k4.lt k4)
      have m16 : Md w.heap.size b w w6 := (Md.of_below b1 (Nat.le_refl _) (Nat.le_refl _)).trans ((Md.of_mod m14 (by omega) (Or.inl rfl)).trans ((Md.of_below b5 (by omega) (by omega)).trans (Md.of_mod m6 (by omega) (Or.inr (by omega)))))
      have k6' : Blk w6 cz #[.bool false] 4 := k6
      refine c_ne (fun h0 => ?_) (fun h0 => ?_)
      · have e : tEnd t s st = ((eC (t.set s.toNat { t.s s.toNat with st := 3, ck := 0, cn := 0, sts := st }) s 64).1, 0, (eC (t.set s.toNat { t.s s.toNat with st := 3, ck := 0, cn := 0, sts := st }) s 64).2) := by
          unfold tEnd; rw [if_neg (by simpa using hh), if_neg hb, if_neg h0]
        rw [e]
        generalize t.set s.toNat { t.s s.toNat with st := 3, ck := 0, cn := 0, sts := st } = u at *
        refine ⟨_, hc6.cell rfl, (c41 (T := fun i => (eC u s i).2) (K := fun i w' => TabAt 63 w' b (eC u s i).2 ∧ Blk w' c #[.pointer (some ⟨b, 0, none⟩)] 36 ∧ Blk w' cz #[.bool (eC u s i).1] 4 ∧ Md w.heap.size b w w')
          (Qe := fun w' => TabAt 63 w' b (eC u s 64).2 ∧ Blk w' c #[.pointer (some ⟨b, 0, none⟩)] 36 ∧ Blk w' cz #[.bool (eC u s 64).1] 4 ∧ Md w.heap.size b w w')
          (fun i w _ q => q.1) ⟨h6, hc6, k6', m16⟩ (fun _ q => q) (fun i w' hi q hc => ?_) (fun i w' hi q hc => ?_)).mono ?_⟩
        · rw [eC, if_neg (by simp [hc])]; exact q
        · obtain ⟨q1, q2, q3, q4⟩ := q
          refine calV_of (by kernel_rfl) ((c42 (F := w.heap.size) q1 q2 q3 (by omega) (by omega) (by omega) q4.size (by omega) hi).mono ?_)
          rintro e w7 ⟨v, rfl, rfl, g1, g2, g3, g4⟩
          refine ⟨_, rfl, Or.inl ⟨rfl, ?_⟩⟩
          rw [eC, if_pos hc]
          exact ⟨g1, g2, g3, q4.trans g4⟩
        · rintro e w7 ⟨v, rfl, rfl, g1, g2, g3, g4⟩
          exact ⟨rfl, _, g3.cell rfl, rfl, g1, g4.mod⟩
      · have e : tEnd t s st = (false, 0, t.set s.toNat { t.s s.toNat with st := 3, ck := 0, cn := 0, sts := st }) := by
          unfold tEnd; rw [if_neg (by simpa using hh), if_neg hb, if_pos h0]
        rw [e]
        exact ⟨_, k6'.cell rfl, rfl, h6, m16.mod⟩
  · rw [atA_none hh]
    have e : tEnd t s st = (false, 260, t) := by unfold tEnd; rw [if_pos hh]
    rw [e]; exact ⟨rfl, h1, Mod.of_below b1⟩

/-! ### Zombie -/
def tZom (t : Tab) (p : Int) : Int × Bool :=
  if ¬ t.has p then (-1, false) else
  match fs fun i => chB t p i && decide ((t.s i).st = 3) with
  | some i => (i, true)
  | none => (-1, (fs fun i => chB t p i).isSome)
/-- Is there a child among the first? -/
def anyC (t : Tab) (p : Int) (i : Nat) : Bool := (List.range i).any (chB t p)
theorem anyC_succ (t : Tab) (p : Int) (i : Nat) : anyC t p (i + 1) = (anyC t p i || chB t p i) := by
  unfold anyC; rw [List.range_succ, List.any_append]; simp
theorem anyC_all (t : Tab) (p : Int) : anyC t p 64 = (fs fun i => chB t p i).isSome := by
  rw [Bool.eq_iff_iff, anyC, List.any_eq_true]
  unfold fs
  rw [List.find?_isSome]
theorem c43 {F b bt bs ba : Nat} {t : Tab} {a : Bool} {w : World} (h : TabAt 63 w b t) (ha : Blk w ba #[.bool a] 4) (ht : Blk w bt #[.pointer (some ⟨b, 0, none⟩)] 36) (hs : Blk w bs #[.int .i64 (-1)] 3)
    (h1 : b ≠ ba) (h2 : b ≠ bs) (h3 : ba ≠ bt) (h4 : ba ≠ bs) (h5 : bt ≠ bs) (hF : F ≤ w.heap.size) (hF1 : F ≤ ba) (hF2 : F ≤ bs) {i : Nat} (hi : i < 64) :
    Calls Try.prog 43 #[.int .i64 i, .pointer (some ⟨ba, 0, none⟩), .pointer (some ⟨bt, 0, none⟩), .pointer (some ⟨bs, 0, none⟩)] w (Ret fun v w' => v = .bool (!decide ((t.s i).st = 3)) ∧ TabAt 63 w' b t ∧ Blk w' ba #[.bool true] 4 ∧ Blk w' bt #[.pointer (some ⟨b, 0, none⟩)] 36 ∧ Blk w' bs #[.int .i64 (if (t.s i).st = 3 then (i : Int) else -1)] 3 ∧ Md F b w w') := by
  refine W43_ok _ _ _ _ w _ ?_
  refine stC_intro ha (by simp) fun w1 a1 m1 s1 => ?_
  have g1 : TabAt 63 w1 b t := m1.blk (by omega) h
  have t1 := m1.blk (by omega) ht
  have b1 := m1.blk (by omega) hs
  have d1 := Md.of_mod (F := F) (b := b) m1 hF (Or.inr hF1)
  refine ⟨_, t1.cell rfl, ?_⟩
  simp only [nlW, Addr.add_lit, Nat.zero_add, Int.toNat_natCast]
  refine ⟨⟨by omega, by omega⟩, _, g1.st hi, c_eq (fun hb => ?_) (fun hb => ?_)⟩
  · refine stC_intro b1 (by simp) fun w2 b2 m2 s2 => ?_
    refine ⟨_, b2.cell rfl, ?_, m2.blk (by omega) g1, m2.blk (by omega) a1, m2.blk (by omega) t1, ?_, d1.trans (Md.of_mod m2 (by omega) (Or.inr hF2))⟩
    · simp [hb]
    · rw [if_pos hb]; exact b2
  · refine ⟨_, b1.cell rfl, ?_, g1, a1, t1, ?_, d1⟩
    · simp [hb]
    · rw [if_neg hb]; exact b1
theorem Md.same {b : Nat} {t : Tab} {w w' : World} (m : Md w.heap.size b w w') (h : TabAt 63 w b t) (h' : TabAt 63 w' b t) : Below w.heap.size w w' :=
  ⟨m.os, m.tape, m.output, m.size, fun k hk => by
    by_cases e : k = b
    · rw [e]; exact (show w'.heap[b]? = _ from h').trans (show w.heap[b]? = _ from h).symm
    · exact m.block k hk e⟩
theorem c22 {b : Nat} {t : Tab} {w : World} (h : TabAt 63 w b t) (hn : t.next ≠ 0) (p : Int) :
    Calls Try.prog 22 #[.pointer (some ⟨b, 0, none⟩), .int .i64 p] w (Ret fun v w' => v = .tuple #[.int .i64 (tZom t p).1, .bool (tZom t p).2] ∧ Below w.heap.size w w') := by
  refine W22_ok _ _ w _ ?_
  refine newW_intro fun c1 w1 k1 l1 b1 => newW_intro fun c2 w2 k2 l2 b2 => newW_intro fun c3 w3 k3 l3 b3 => ?_
  have hlt := tab_lt h
  have z1 := b1.size
  have z2 := b2.size
  have z3 := b3.size
  have y1 := k1.lt
  have y2 := k2.lt
  have y3 := k3.lt
  have bb3 := b1.trans ((b2.mono b1.size).trans (b3.mono (by omega)))
  have h3 := below_tab bb3 (tab_lt h) h
  have k13 := below_blk b3 (by omega) (below_blk b2 k1.lt k1)
  have k23 := below_blk b3 k2.lt k2
  refine stC_intro k23 (by simp) fun w4 k24 m4 s4 => ?_
  have h4 : TabAt 63 w4 b t := m4.blk (by omega) h3
  have k14 := m4.blk (by omega) k13
  have k34 := m4.blk (by omega) k3
  have d4 : Md w.heap.size b w w4 := (Md.of_below bb3 (Nat.le_refl _) (Nat.le_refl _)).trans (Md.of_mod m4 (by omega) (Or.inr (by omega)))
  have k24' : Blk w4 c2 #[.int .i64 (-1)] 3 := k24
  refine ⟨fun x w5 => x = (decide (¬ t.has p), ()) ∧ w5 = w4, ?_, ?_⟩
  · rintro _ _ w5 ⟨rfl, rfl⟩
    refine c_dec (fun hh => ?_) (fun hh => ?_)
    · have e : tZom t p = (-1, false) := by unfold tZom; rw [if_pos hh]
      rw [e]
      refine ⟨_, k24'.cell rfl, stC_intro k24' (by simp) fun w6 k26 m6 s6 => ?_⟩
      refine stC_intro (m6.blk (by omega) k34) (by simp) fun w7 k37 m7 s7 => ?_
      refine ⟨_, (m7.blk (by omega) k26).cell rfl, _, k37.cell rfl, rfl, ?_⟩
      exact ((d4.trans (Md.of_mod m6 (by omega) (Or.inr (by omega)))).trans (Md.of_mod m7 (by omega) (Or.inr (by omega)))).same h (m7.blk (by omega) (m6.blk (by omega) h4))
    · have hh' : t.has p := by simpa using hh
      refine ⟨_, k14.cell rfl, (c41 (T := fun _ => t) (K := fun i w' => TabAt 63 w' b t ∧ Blk w' c1 #[.pointer (some ⟨b, 0, none⟩)] 36 ∧ Blk w' c2 #[.int .i64 (-1)] 3 ∧ Blk w' c3 #[.bool (anyC t p i)] 4 ∧ Md w.heap.size b w w' ∧ ∀ j, j < i → (chB t p j && decide ((t.s j).st = 3)) = false)
        (Qe := fun w' => TabAt 63 w' b t ∧ Blk w' c2 #[.int .i64 (tZom t p).1] 3 ∧ Blk w' c3 #[.bool (tZom t p).2] 4 ∧ Md w.heap.size b w w')
        (fun i w _ q => q.1) ⟨h4, k14, k24', k34, d4, fun j hj => by omega⟩ (fun w' q => ?_) (fun i w' hi q hc => ?_) (fun i w' hi q hc => ?_)).mono ?_⟩
      · obtain ⟨q1, q2, q3, q4, q5, q6⟩ := q
        have e : tZom t p = (-1, (fs fun i => chB t p i).isSome) := by unfold tZom; rw [if_neg (by simpa using hh'), fs_none q6]
        rw [e, ← anyC_all]
        exact ⟨q1, q3, q4, q5⟩
      · obtain ⟨q1, q2, q3, q4, q5, q6⟩ := q
        refine ⟨q1, q2, q3, ?_, q5, fun j hj => ?_⟩
        · rw [anyC_succ, hc, Bool.or_false]; exact q4
        · by_cases e : j = i
          · subst e; rw [hc]; rfl
          · exact q6 j (by omega)
      · obtain ⟨q1, q2, q3, q4, q5, q6⟩ := q
        refine calV_of (by kernel_rfl) ((c43 (F := w.heap.size) q1 q4 q2 q3 (by omega) (by omega) (by omega) (by omega) (by omega) q5.size (by omega) (by omega) hi).mono ?_)
        rintro e w7 ⟨v, rfl, rfl, g1, g2, g3, g4, g5⟩
        refine ⟨_, rfl, ?_⟩
        by_cases hz : (t.s i).st = 3
        · refine Or.inr ⟨by simp [hz], g1, ?_, ?_, q5.trans g5⟩
          · rw [if_pos hz] at g4
            have e : tZom t p = ((i : Int), true) := by unfold tZom; rw [if_neg (by simpa using hh'), fs_some hi (by simp [hc, hz]) q6]
            rw [e]; exact g4
          · have e : tZom t p = ((i : Int), true) := by unfold tZom; rw [if_neg (by simpa using hh'), fs_some hi (by simp [hc, hz]) q6]
            rw [e]; exact g2
        · refine Or.inl ⟨by simp [hz], g1, g3, ?_, ?_, q5.trans g5, fun j hj => ?_⟩
          · rw [if_neg hz] at g4; exact g4
          · rw [anyC_succ, hc, Bool.or_true]; exact g2
          · by_cases e : j = i
            · subst e; simp [hz]
            · exact q6 j (by omega)
      · rintro e w6 ⟨v, rfl, rfl, g1, g2, g3, g4⟩
        have y6 := g4.size
        have u2 := g2.lt
        refine ⟨rfl, fun w => Blk w c2 #[.int .i64 (tZom t p).1] 3 ∧ Blk w c3 #[.bool (tZom t p).2] 4, ⟨g2, g3⟩, _, fun w' q => q.1.cell rfl, _, fun w' q => q.2.cell rfl, ?_⟩
        refine stC_intro (w := w6.drew) (show Blk w6.drew c2 _ 3 from g2) (by simp) fun w7 k27 m7 s7 => ?_
        have k37 := m7.blk (by omega) (show Blk w6.drew c3 _ 4 from g3)
        refine ⟨⟨k27, k37⟩, stC_intro k37 (by simp) fun w8 k38 m8 s8 => ?_⟩
        have k28 := m8.blk (by omega) k27
        have d7 : Md w.heap.size b w6 w7 := Md.of_mod (w := w6) (c := c2) ⟨m7.os, m7.tape, m7.output, m7.size, m7.block⟩ (by omega) (Or.inr (by omega))
        have s7' : w7.heap.size = w6.heap.size := s7
        refine ⟨⟨k28, k38⟩, _, k28.cell rfl, _, k38.cell rfl, rfl, ?_⟩
        exact ((g4.trans d7).trans (Md.of_mod m8 (by omega) (Or.inr (by omega)))).same h (m8.blk (by omega) (m7.blk (by omega) (show Blk w6.drew b _ 63 from g1)))
  · refine ⟨_, k14.cell rfl, (c35 h4).mono ?_⟩
    rintro e w' ⟨v, rfl, rfl, rfl⟩
    refine ⟨_, rfl, c_eq (fun e => absurd e hn) (fun _ => ?_)⟩
    refine ⟨_, k14.cell rfl, (c38 h4 p).mono ?_⟩
    rintro e w' ⟨v, rfl, rfl, rfl⟩
    refine ⟨_, rfl, (_, ()), ?_, rfl, rfl⟩
    by_cases hh : t.has p
    · rw [atA_some hh]; simp [hh, tv, Kd.V]
    · rw [atA_none hh]; simp [hh, tv, Kd.V]

/-! ### State -/
theorem foldl_ovw (off : Nat) : ∀ (l : List Value) (k : Nat) (cs : Array Value), ((l.zipIdx k).foldl (fun cs (p : Value × Nat) => cs.setIfInBounds (off + p.2) p.1) cs) = ovw cs (off + k) l
  | [], _, _ => rfl
  | v :: r, k, cs => by rw [List.zipIdx_cons, List.foldl_cons, foldl_ovw off r (k + 1), ovw, Nat.add_assoc]
theorem fill_cons {place : Nat → Option (Nat × Nat)} {cells : Array Value} {i : Nat} {v : Value} {rest : List (Nat × Value)} {off size : Nat} (hp : place i = some (off, size)) (hs : v.cells.size = size) (ho : off + size ≤ cells.size) :
    Instr.fill place cells ((i, v) :: rest) = Instr.fill place (ovw cells off v.cells.toList) rest := by
  rw [Instr.fill, hp]
  dsimp only
  rw [if_neg (by simp [hs]; omega)]
  congr 1
  rw [← Array.foldl_toList, Array.toList_zipIdx]
  exact foldl_ovw off _ 0 _
end Go.Proofs.Ythihjppjollekaa
