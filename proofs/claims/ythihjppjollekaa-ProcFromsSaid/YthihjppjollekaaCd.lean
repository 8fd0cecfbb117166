/- Contracts of the program's calls that turn the table of processes; no condition. -/
import Derived.Test.YthihjppjollekaaCc
set_option linter.unusedVariables false
namespace Go.Proofs.Ythihjppjollekaa
open Go.RowKit Go.Hx

theorem calV_mono {f : Value} {args : List Value} {w : World} {R R' : Ending → World → Prop} (hR : ∀ e w, R e w → R' e w) (hc : calV Try.prog f args w R) : calV Try.prog f args w R' := by
  unfold calV at *
  split at hc
  · exact cond_mono (fun h => Calls.mono h hR) id hc
  · exact hc
theorem atA_some {b : Nat} {t : Tab} {s : Int} (h : t.has s) : atA b t s = some ⟨b, s.toNat * 7, none⟩ := if_pos h
theorem atA_none {b : Nat} {t : Tab} {s : Int} (h : ¬ t.has s) : atA b t s = none := if_neg h
theorem has_lt {t : Tab} {s : Int} (h : t.has s) : s.toNat < 64 := by obtain ⟨a, b, _⟩ := h; omega

/-! ### Sleep -/
def tSleep (t : Tab) (s k n : Int) : Int × Tab :=
  if ¬ t.has s then (260, t) else
  if (t.s s.toNat).st ≠ 1 ∨ (t.s s.toNat).kil = true then (265, t) else
  if chanB k n = false then (264, t) else (0, t.set s.toNat { t.s s.toNat with st := 2, ck := k, cn := n })
theorem c25 {b : Nat} {t : Tab} {w : World} (h : TabAt 63 w b t) (hn : t.next ≠ 0) (s k n : Int) :
    Calls Try.prog 25 #[.pointer (some ⟨b, 0, none⟩), .int .i64 s, .agg #[.int .i64 k, .int .i64 n]] w (Ret fun v w' => v = .int .i64 (tSleep t s k n).1 ∧ TabAt 63 w' b (tSleep t s k n).2 ∧ Mod b w w') := by
  refine W25_ok _ _ _ w _ ?_
  refine newW_intro fun c w1 k1 l1 b1 => ?_
  have h1 := below_tab b1 (tab_lt h) h
  have hlt := tab_lt h
  refine (c35 h1).mono ?_
  rintro e w' ⟨v, rfl, rfl, rfl⟩
  refine ⟨_, rfl, c_eq (fun e => absurd e hn) (fun _ => ?_)⟩
  refine (c38 h1 s).mono ?_
  rintro e w' ⟨v, rfl, rfl, rfl⟩
  refine ⟨_, rfl, ?_⟩
  by_cases hh : t.has s
  · rw [atA_some hh]
    have hs := has_lt hh
    refine ⟨fun x w2 => x = (decide ((t.s s.toNat).st ≠ 1 ∨ (t.s s.toNat).kil = true), ()) ∧ w2 = w', ?_, ?_⟩
    · rintro _ _ w2 ⟨rfl, rfl⟩
      refine c_dec (fun hb => ?_) (fun hb => ?_)
      · have e : tSleep t s k n = (265, t) := by unfold tSleep; rw [if_neg (by simpa using hh), if_pos hb]
        rw [e]
        exact ⟨rfl, h1, Mod.of_below b1⟩
      · refine ⟨_, rfl, row_whole k1, (c47 k n _).mono ?_⟩
        rintro e w3 ⟨v, rfl, rfl, b3⟩
        have h3 := below_tab b3 (tab_lt h1) h1
        have k3 := below_blk b3 k1.lt k1
        have b13 := b1.trans (b3.mono b1.size)
        refine ⟨_, rfl, c_nb (fun hc => ?_) (fun hc => ?_)⟩
        · have e : tSleep t s k n = (264, t) := by unfold tSleep; rw [if_neg (by simpa using hh), if_neg hb, if_pos hc]
          rw [e]
          exact ⟨rfl, h3, Mod.of_below b13⟩
        · have e : tSleep t s k n = (0, t.set s.toNat { t.s s.toNat with st := 2, ck := k, cn := n }) := by unfold tSleep; rw [if_neg (by simpa using hh), if_neg hb, if_neg (by simp [hc])]
          rw [e]
          refine ⟨fun w => Blk w c #[.int .i64 k, .int .i64 n] 26, k3, _, rfl, fun w' hw => row_whole hw, ?_⟩
          simp only [nlW, Addr.add_lit]
          refine tab_stC (T := 63) (w := w3.drew) (b := b) (t := t) h3 hs (by omega) { t.s s.toNat with st := 2 } rfl fun w4 h4 m4 s4 => ?_
          refine ⟨m4.blk (by omega) (show Blk w3.drew c _ 26 from k3), ?_⟩
          refine tab_stCh h4 hs k n fun w5 h5 m5 s5 => ?_
          rw [set_same, set_set] at h5
          have m45 := m4.trans m5
          exact ⟨m45.blk (by omega) (show Blk w3.drew c _ 26 from k3), by trivial, h5, (Mod.of_below b13).trans ⟨m45.os, m45.tape, m45.output, m45.size, m45.block⟩⟩
    · simp only [nlW, Addr.add_lit]
      refine ⟨_, h1.st hs, c_ne (fun hb => ?_) (fun hb => ?_)⟩
      · exact ⟨(true, ()), rfl, by simp [hb], by trivial⟩
      · refine ⟨_, h1.kil hs, (_, ()), rfl, ?_, by trivial⟩
        simp [hb]
  · rw [atA_none hh]
    have e : tSleep t s k n = (260, t) := by unfold tSleep; rw [if_pos hh]
    rw [e]
    exact ⟨rfl, h1, Mod.of_below b1⟩

/-! ### Wake -/
def wk (t : Tab) (k n : Int) : Nat → Int × Tab
  | 0 => (0, t)
  | i + 1 => if ((wk t k n i).2.s i).st = 2 ∧ ((wk t k n i).2.s i).ck = k ∧ ((wk t k n i).2.s i).cn = n then ((wk t k n i).1 + 1, (wk t k n i).2.set i (upP ((wk t k n i).2.s i))) else wk t k n i
theorem wk_in (t : Tab) (k n : Int) : ∀ i, 0 ≤ (wk t k n i).1 ∧ (wk t k n i).1 ≤ i
  | 0 => by simp [wk]
  | i + 1 => by
    have := wk_in t k n i
    rw [wk]
    split
    · exact ⟨by dsimp only; omega, by dsimp only; omega⟩
    · exact ⟨by omega, by omega⟩
theorem c16 {b : Nat} {t : Tab} {w : World} (h : TabAt 63 w b t) (hn : t.next ≠ 0) (k n : Int) :
    Calls Try.prog 16 #[.pointer (some ⟨b, 0, none⟩), .agg #[.int .i64 k, .int .i64 n]] w (Ret fun v w' => v = .int .i64 (wk t k n 64).1 ∧ TabAt 63 w' b (wk t k n 64).2 ∧ Mod b w w') := by
  refine W16_ok _ _ w _ ?_
  refine newW_intro fun c w1 k1 l1 b1 => ?_
  have h1 := below_tab b1 (tab_lt h) h
  have hlt := tab_lt h
  refine (c35 h1).mono ?_
  rintro e w' ⟨v, rfl, rfl, rfl⟩
  refine ⟨_, rfl, c_eq (fun e => absurd e hn) (fun _ => ?_)⟩
  refine ⟨fun x w2 => ∃ i : Nat, i ≤ 64 ∧ x = ((wk t k n i).1, (i : Int), ()) ∧ TabAt 63 w2 b (wk t k n i).2 ∧ Blk w2 c #[.int .i64 k, .int .i64 n] 26 ∧ Mod b w w2, fun x _ => (64 - x.2.1).toNat,
    ⟨(0, 0, ()), rfl, 0, by omega, rfl, h1, k1, Mod.of_below b1⟩, ?_⟩
  rintro _ x w2 ⟨i, hi, rfl, q1, q2, q3⟩
  dsimp only
  refine c_dec (fun hlt' => ?_) (fun hge => ?_)
  · have hi' : i < 64 := by omega
    simp only [nlW, Addr.add_lit, Nat.zero_add, Int.toNat_natCast]
    have q := wk_in t k n i
    have nx : IntKind.i64.wrap ((i : Int) + 1) = ((i + 1 : Nat) : Int) := by rw [wrap_in (by omega) (by omega)]; omega
    refine ⟨⟨by omega, by omega⟩, fun x w3 => x = (decide (((wk t k n i).2.s i).st = 2 ∧ ((wk t k n i).2.s i).ck = k ∧ ((wk t k n i).2.s i).cn = n), ()) ∧ w3 = w2.drew, ?_, ?_⟩
    · rintro _ _ w3 ⟨rfl, rfl⟩
      refine c_dec (fun hb => ?_) (fun hb => ?_)
      · refine (c36 (w := w2.drew) (show TabAt 63 w2.drew b _ from q1) hi').mono ?_
        rintro e w4 ⟨v, rfl, rfl, q4, m4, s4⟩
        refine ⟨rfl, ((wk t k n i).1 + 1, ((i + 1 : Nat) : Int), ()), ?_, ⟨i + 1, by omega, ?_, ?_, ?_, ?_⟩, ?_⟩
        · rw [nx, wrap_in (by omega) (by omega)]; rfl
        · rw [wk, if_pos hb]
        · rw [wk, if_pos hb]; exact q4
        · exact m4.blk (by omega) (show Blk w2.drew c _ 26 from q2)
        · exact q3.drew.trans m4
        · dsimp only; omega
      · refine ⟨((wk t k n i).1, ((i + 1 : Nat) : Int), ()), ?_, ⟨i + 1, by omega, ?_, ?_, ?_, ?_⟩, ?_⟩
        · rw [nx]; rfl
        · rw [wk, if_neg hb]
        · rw [wk, if_neg hb]; exact q1
        · exact q2
        · exact q3.drew
        · dsimp only; omega
    · refine ⟨_, TabAt.st (w := w2.drew) q1 hi', c_eq (fun hb => ?_) (fun hb => ?_)⟩
      · refine ⟨_, rfl, TabAt.chan (w := w2.drew) q1 hi', _, rfl, row_whole (w := w2.drew) q2, decide (((wk t k n i).2.s i).ck = k ∧ ((wk t k n i).2.s i).cn = n), eq_Chan _ _ _ _, (decide (((wk t k n i).2.s i).ck = k ∧ ((wk t k n i).2.s i).cn = n), ()), rfl, ?_, rfl⟩
        congr 1
        rw [Bool.eq_iff_iff]; simp [hb]
      · exact ⟨(false, ()), rfl, by simp [hb], rfl⟩
  · have : i = 64 := by omega
    subst this
    exact ⟨rfl, q1, q3⟩

/-! ### WakeOne -/
def tOne (t : Tab) (s : Int) : Int × Tab :=
  if ¬ t.has s then (260, t) else
  if (t.s s.toNat).st ≠ 2 then (265, t) else (0, t.set s.toNat (upP (t.s s.toNat)))
theorem c26 {b : Nat} {t : Tab} {w : World} (h : TabAt 63 w b t) (hn : t.next ≠ 0) (s : Int) :
    Calls Try.prog 26 #[.pointer (some ⟨b, 0, none⟩), .int .i64 s] w (Ret fun v w' => v = .int .i64 (tOne t s).1 ∧ TabAt 63 w' b (tOne t s).2 ∧ Mod b w w') := by
  refine W26_ok _ _ w _ ?_
  refine (c35 h).mono ?_
  rintro e w' ⟨v, rfl, rfl, rfl⟩
  refine ⟨_, rfl, c_eq (fun e => absurd e hn) (fun _ => ?_)⟩
  refine (c38 h s).mono ?_
  rintro e w' ⟨v, rfl, rfl, rfl⟩
  refine ⟨_, rfl, ?_⟩
  by_cases hh : t.has s
  · rw [atA_some hh]
    have hs := has_lt hh
    simp only [nlW, Addr.add_lit, Option.isNone, cond]
    refine ⟨_, h.st hs, c_ne (fun hb => ?_) (fun hb => ?_)⟩
    · have e : tOne t s = (265, t) := by unfold tOne; rw [if_neg (by simpa using hh), if_pos hb]
      rw [e]
      exact ⟨rfl, h, Mod.refl _ _⟩
    · have e : tOne t s = (0, t.set s.toNat (upP (t.s s.toNat))) := by unfold tOne; rw [if_neg (by simpa using hh), if_neg (by simpa using hb)]
      rw [e]
      refine (c36 h hs).mono ?_
      rintro e w2 ⟨v, rfl, rfl, h2, m2, s2⟩
      exact ⟨rfl, rfl, h2, m2⟩
  · rw [atA_none hh]
    have e : tOne t s = (260, t) := by unfold tOne; rw [if_pos hh]
    rw [e]
    exact ⟨rfl, h, Mod.refl _ _⟩

/-! ### Kill -/
theorem c44 {b bt bp : Nat} {t : Tab} {n : Int} {w : World} (h : TabAt 63 w b t) (ht : Blk w bt #[.pointer (some ⟨b, 0, none⟩)] 36) (hp : Blk w bp #[.int .i64 n] 3) {i : Nat} (hi : i < 64) :
    Calls Try.prog 44 #[.int .i64 i, .pointer (some ⟨bt, 0, none⟩), .pointer (some ⟨bp, 0, none⟩)] w (Ret fun v w' => v = .bool (decide ((t.s i).st ≠ 0 ∧ (t.s i).pid = n)) ∧ Below w.heap.size w w') := by
  refine W44_ok _ _ _ w _ ?_
  refine ⟨fun w' => TabAt 63 w' b t ∧ Blk w' bt #[.pointer (some ⟨b, 0, none⟩)] 36 ∧ Blk w' bp #[.int .i64 n] 3, ⟨h, ht, hp⟩, _, fun w' q => q.2.1.cell rfl, ?_⟩
  refine (c38 (w := w.drew) h i).mono ?_
  rintro e w' ⟨v, rfl, rfl, rfl⟩
  refine ⟨_, rfl, ⟨h, ht, hp⟩, ?_⟩
  by_cases hs : (t.s i).st = 0
  · rw [atA_none (by unfold Tab.has; simp [hs])]
    refine ⟨?_, (Below.refl _ _).drew⟩
    simp [hs]
  · have hh : t.has i := ⟨by omega, by omega, by simpa using hs⟩
    rw [atA_some hh]
    refine ⟨_, fun w' q => q.2.1.cell rfl, ?_⟩
    simp only [nlW, Addr.add_lit, Nat.zero_add, Int.toNat_natCast]
    refine ⟨⟨by omega, by omega⟩, _, fun w' q => q.1.pid hi, _, fun w' q => q.2.2.cell rfl, ?_, (Below.refl _ _).drew⟩
    congr 1
    rw [Bool.eq_iff_iff]; simp [hs]
def tKill (t : Tab) (n : Int) : Int × Tab :=
  match fs fun i => decide ((t.s i).st ≠ 0 ∧ (t.s i).pid = n) with
  | none => (266, t)
  | some i => (0, if (t.s i).st = 3 then t else t.set i (if (t.s i).st = 2 then upP { t.s i with kil := true } else { t.s i with kil := true }))
theorem c23 {b : Nat} {t : Tab} {w : World} (h : TabAt 63 w b t) (hn : t.next ≠ 0) (n : Int) :
    Calls Try.prog 23 #[.pointer (some ⟨b, 0, none⟩), .int .i64 n] w (Ret fun v w' => v = .int .i64 (tKill t n).1 ∧ TabAt 63 w' b (tKill t n).2 ∧ Mod b w w') := by
  refine W23_ok _ _ w _ ?_
  refine newW_intro fun c1 w1 k1 l1 b1 => newW_intro fun c2 w2 k2 l2 b2 => ?_
  have b12 := b1.trans (b2.mono b1.size)
  have hlt := tab_lt h
  have h2 := below_tab b12 (tab_lt h) h
  have k1' := below_blk b2 k1.lt k1
  refine ⟨_, k1'.cell rfl, (c35 h2).mono ?_⟩
  rintro e w' ⟨v, rfl, rfl, rfl⟩
  refine ⟨_, rfl, c_eq (fun e => absurd e hn) (fun _ => ?_)⟩
  refine (c39 (p := fun i => decide ((t.s i).st ≠ 0 ∧ (t.s i).pid = n)) (fun i w' hi hb' => calV_of (by kernel_rfl) (c44 (below_tab hb' (tab_lt h2) h2) (below_blk hb' k1'.lt k1') (below_blk hb' k2.lt k2) hi))).mono ?_
  rintro e w3 ⟨v, rfl, rfl, b3⟩
  have h3 := below_tab b3 (tab_lt h2) h2
  have k3 := below_blk b3 k1'.lt k1'
  have b13 := b12.trans (b3.mono b12.size)
  unfold fsV
  split
  · rename_i i hi
    have hi' := (fs_spec hi).1
    refine ⟨_, _, rfl, ?_⟩
    refine ⟨_, k3.cell rfl, ?_⟩
    simp only [nlW, Addr.add_lit, Nat.zero_add, Int.toNat_natCast]
    refine ⟨⟨by omega, by omega⟩, fun _ w4 => TabAt 63 w4 b (if (t.s i).st = 3 then t else t.set i { t.s i with kil := true }) ∧ Mod b w w4, ?_, ?_⟩
    · rintro _ _ w4 ⟨q1, q2⟩
      refine ⟨_, q1.st hi', ?_⟩
      by_cases h3' : (t.s i).st = 3
      · rw [if_pos h3'] at q1 ⊢
        have e : tKill t n = (0, t) := by unfold tKill; rw [hi]; dsimp only; rw [if_pos h3']
        rw [e]
        exact c_eq (fun hh => by omega) (fun _ => ⟨rfl, q1, q2⟩)
      · rw [if_neg h3'] at q1 ⊢
        rw [set_same]
        refine c_eq (fun hh => ?_) (fun hh => ?_)
        · have e : tKill t n = (0, t.set i (upP { t.s i with kil := true })) := by unfold tKill; rw [hi]; dsimp only; rw [if_neg h3', if_pos hh]
          rw [e]
          refine (c36 q1 hi').mono ?_
          rintro e w5 ⟨v, rfl, rfl, h5, m5, s5⟩
          rw [set_same, set_set] at h5
          exact ⟨rfl, rfl, h5, q2.trans m5⟩
        · have e : tKill t n = (0, t.set i { t.s i with kil := true }) := by unfold tKill; rw [hi]; dsimp only; rw [if_neg h3', if_neg hh]
          rw [e]
          exact ⟨rfl, q1, q2⟩
    · refine ⟨_, h3.st hi', c_ne (fun hh => ?_) (fun hh => ?_)⟩
      · rw [if_neg hh]
        refine tab_stC h3 hi' (by omega) { t.s i with kil := true } rfl fun w4 h4 m4 s4 => ⟨(), rfl, h4, (Mod.of_below b13).trans m4⟩
      · rw [if_pos hh]
        exact ⟨(), rfl, h3, Mod.of_below b13⟩
  · rename_i hi
    have e : tKill t n = (266, t) := by unfold tKill; rw [hi]
    rw [e]
    exact ⟨_, _, rfl, rfl, h3, Mod.of_below b13⟩

/-! ### children -/
def chB (t : Tab) (p : Int) (i : Nat) : Bool := decide ((i : Int) ≠ p ∧ i ≠ 0 ∧ (t.s i).st ≠ 0 ∧ (t.s i).par = p)
theorem c41 {b : Nat} {p : Int} {f : Value} {T : Nat → Tab} {K : Nat → World → Prop} {Qe : World → Prop} {w : World}
    (hK : ∀ i w, i < 64 → K i w → TabAt 63 w b (T i)) (h0 : K 0 w) (hend : ∀ w, K 64 w → Qe w)
    (hno : ∀ i w, i < 64 → K i w → chB (T i) p i = false → K (i + 1) w)
    (hyes : ∀ i w, i < 64 → K i w → chB (T i) p i = true → calV Try.prog f [.int .i64 i] w (Ret fun v w' => v = .bool true ∧ K (i + 1) w' ∨ v = .bool false ∧ Qe w')) :
    Calls Try.prog 41 #[.pointer (some ⟨b, 0, none⟩), .int .i64 p, f] w (Ret fun v w' => v = .tuple #[] ∧ Qe w') := by
  refine W41_ok _ _ _ w _ ?_
  refine ⟨fun x w2 => ∃ i : Nat, i ≤ 64 ∧ x = ((i : Int), ()) ∧ K i w2, fun x _ => (64 - x.1).toNat, ⟨(0, ()), rfl, 0, by omega, rfl, h0⟩, ?_⟩
  rintro _ x w2 ⟨i, hi, rfl, q⟩
  dsimp only
  refine c_dec (fun hlt => ?_) (fun hge => ?_)
  · have hi' : i < 64 := by omega
    have nx : IntKind.i64.wrap ((i : Int) + 1) = ((i + 1 : Nat) : Int) := by rw [wrap_in (by omega) (by omega)]; omega
    have go : ∀ w3, K (i + 1) w3 → ∃ t' : Int × Unit, ([.int .i64 (IntKind.i64.wrap ((i : Int) + (1 : Int)))] : List Value) = tv [(7, .int .i64)] t' ∧ (∃ j : Nat, j ≤ 64 ∧ t' = ((j : Int), ()) ∧ K j w3) ∧ (64 - t'.1).toNat < (64 - (i : Int)).toNat := fun w3 hk =>
      ⟨(((i + 1 : Nat) : Int), ()), by rw [nx]; rfl, ⟨i + 1, by omega, rfl, hk⟩, by dsimp only; omega⟩
    have h2 := hK i w2 hi' q
    refine c_ne (fun h1 => ?_) (fun h1 => go _ (hno i w2 hi' q (by simp [chB, h1])))
    refine (c38 h2 i).mono ?_
    rintro e w' ⟨v, rfl, rfl, rfl⟩
    refine ⟨_, rfl, ?_⟩
    by_cases hs : ((T i).s i).st = 0
    · rw [atA_none (by unfold Tab.has; simp [hs])]
      exact go _ (hno i w' hi' q (by simp [chB, hs]))
    · rw [atA_some (show (T i).has i from ⟨by omega, by omega, by simpa using hs⟩)]
      show cond ((i : Int) != 0) _ _
      refine c_ne (fun h3 => ?_) (fun h3 => go _ (hno i w' hi' q (by simp [chB]; omega)))
      simp only [nlW, Addr.add_lit, Nat.zero_add, Int.toNat_natCast]
      refine ⟨⟨by omega, by omega⟩, _, h2.par hi', c_eq (fun h4 => ?_) (fun h4 => go _ (hno i w' hi' q (by simp [chB, h4])))⟩
      refine calV_mono ?_ (hyes i w' hi' q (by unfold chB; simp [hs, h4, h1]; omega))
      rintro e w4 ⟨v, rfl, ⟨rfl, hk⟩ | ⟨rfl, hq⟩⟩
      · exact ⟨_, rfl, go _ hk⟩
      · exact ⟨_, rfl, by trivial, hq⟩
  · have : i = 64 := by omega
    subst this
    exact ⟨rfl, hend _ q⟩
end Go.Proofs.Ythihjppjollekaa
