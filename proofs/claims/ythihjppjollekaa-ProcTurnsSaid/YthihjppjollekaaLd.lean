/- The law ProcTurns, walked: going round, everybody who can run is picked once; no condition. -/
import Derived.Test.YthihjppjollekaaGb
set_option linter.unusedVariables false
namespace Go.Proofs.Ythihjppjollekaa
open Go.RowKit Go.Hx

/-- How many of the first say yes. -/
def cntF (f : Nat → Bool) : Nat → Nat
  | 0 => 0
  | n + 1 => cntF f n + cond (f n) 1 0
theorem cntF_le (f : Nat → Bool) : ∀ n, cntF f n ≤ n
  | 0 => Nat.le_refl _
  | n + 1 => by have := cntF_le f n; rw [cntF]; cases f n <;> simp <;> omega
theorem cntF_add (f : Nat → Bool) (a : Nat) : ∀ b, cntF f (a + b) = cntF f a + cntF (fun i => f (a + i)) b
  | 0 => rfl
  | b + 1 => by rw [← Nat.add_assoc, cntF, cntF, cntF_add f a b]; omega
theorem cntF_congr {f g : Nat → Bool} : ∀ {n : Nat}, (∀ i, i < n → f i = g i) → cntF f n = cntF g n
  | 0, _ => rfl
  | n + 1, h => by rw [cntF, cntF, cntF_congr (fun i hi => h i (by omega)), h n (by omega)]
theorem cntF_none {f : Nat → Bool} : ∀ {n : Nat}, (∀ i, i < n → f i = false) → cntF f n = 0
  | 0, _ => rfl
  | n + 1, h => by rw [cntF, cntF_none (fun i hi => h i (by omega)), h n (by omega)]; rfl
theorem cntF_skip {f : Nat → Bool} {a b : Nat} (h : a ≤ b) (hn : ∀ i, a ≤ i → i < b → f i = false) : cntF f b = cntF f a := by
  obtain ⟨c, rfl⟩ := Nat.exists_eq_add_of_le h
  have h0 : cntF (fun i => f (a + i)) c = 0 := cntF_none fun i hi => hn _ (by omega) (by omega)
  rw [cntF_add, h0]; rfl
theorem cntF_mono (f : Nat → Bool) {a b : Nat} (h : a ≤ b) : cntF f a ≤ cntF f b := by
  obtain ⟨c, rfl⟩ := Nat.exists_eq_add_of_le h
  rw [cntF_add]; omega
theorem cntF_lt {f : Nat → Bool} {a b d : Nat} (h1 : a ≤ d) (h2 : d < b) (h : f d = true) : cntF f a < cntF f b := by
  have e1 := cntF_mono f h1
  have e2 := cntF_mono f (show d + 1 ≤ b from h2)
  rw [cntF, h] at e2
  simp only [cond_true] at e2
  omega
theorem cntF_ex {f : Nat → Bool} {a b : Nat} (h : a ≤ b) (hlt : cntF f a < cntF f b) : ∃ d, a ≤ d ∧ d < b ∧ f d = true := by
  apply Classical.byContradiction
  intro hn
  have := cntF_skip h (f := f) fun i h1 h2 => by
    cases e : f i
    · rfl
    · exact absurd ⟨i, h1, h2, e⟩ hn
  omega
/-- The slot d places behind the one behind L. -/
def slotA (L d : Nat) : Nat := (L + 1 + d) % 64
theorem cnt_round (R : Nat → Bool) {L : Nat} (hL : L < 64) : cntF (fun d => R (slotA L d)) 64 = cntF R 64 := by
  have h1 : cntF (fun d => R (slotA L d)) 64 = cntF (fun d => R (slotA L d)) ((63 - L) + (L + 1)) := by congr 1; omega
  have h2 : cntF R 64 = cntF R ((L + 1) + (63 - L)) := by congr 1; omega
  rw [h1, h2, cntF_add (fun d => R (slotA L d)) (63 - L) (L + 1), cntF_add R (L + 1) (63 - L), Nat.add_comm]
  congr 1
  · refine cntF_congr fun i hi => ?_
    show R (slotA L (63 - L + i)) = R i
    rw [show slotA L (63 - L + i) = i by unfold slotA; omega]
  · refine cntF_congr fun i hi => ?_
    show R (slotA L i) = R (L + 1 + i)
    rw [show slotA L i = L + 1 + i by unfold slotA; omega]
/-- 64 numbers in a row. -/
def iArr (f : Nat → Int) : Array Value := ((List.range 64).map fun i => Value.int .i64 (f i)).toArray
theorem iArr_size (f : Nat → Int) : (iArr f).size = 64 := by simp [iArr]
theorem iArr_get (f : Nat → Int) {i : Nat} (hi : i < 64) : (iArr f)[i]? = some (.int .i64 (f i)) := by
  simp [iArr, hi]
theorem iArr_set (f : Nat → Int) {i : Nat} (hi : i < 64) (n : Int) : (iArr f).setIfInBounds i (.int .i64 n) = iArr fun j => if j = i then n else f j := by
  apply Array.ext_getElem?
  intro j
  by_cases hj : j < 64
  · rw [iArr_get _ hj]
    by_cases e : j = i
    · subst e
      rw [Array.getElem?_setIfInBounds, if_pos rfl, if_pos (by rw [iArr_size]; exact hj), if_pos rfl]
    · rw [Array.getElem?_setIfInBounds_ne (by omega), iArr_get _ hj, if_neg e]
  · rw [Array.getElem?_eq_none (by simp [iArr_size]; omega), Array.getElem?_eq_none (by rw [iArr_size]; omega)]
theorem zc52 : zc Try.prog 52 = iArr fun _ => 0 := by kernel_rfl
/-- The pick, in the round from L. -/
theorem pick_round {t : Tab} {l last : Int} {D : Nat} (h0 : D = 0 → last = l) (h1 : 0 < D → last = (slotA (pkL l).toNat (D - 1) : Nat)) :
    pick t last = match fs (fun i => decide ((t.s (slotA (pkL l).toNat (D + i))).st = 1)) with
      | some i => .tuple #[.int .i64 (slotA (pkL l).toNat (D + i) : Nat), .bool true]
      | none => .tuple #[.int .i64 (-1), .bool false] := by
  have e : ∀ i, ((pkL last).toNat + 1 + i) % 64 = slotA (pkL l).toNat (D + i) := fun i => by
    have hp := pkL_in l
    by_cases hD : D = 0
    · subst hD; rw [h0 rfl]; unfold slotA; omega
    · have h2 := h1 (by omega)
      have h3 : slotA (pkL l).toNat (D - 1) < 64 := by unfold slotA; omega
      have h4 : pkL last = last := by unfold pkL; rw [if_neg (by omega)]
      rw [h4, h2, Int.toNat_natCast]
      unfold slotA
      omega
  unfold pick
  simp only [e]
  cases fs (fun i => decide ((t.s (slotA (pkL l).toNat (D + i))).st = 1)) <;> rfl
set_option maxRecDepth 10000 in
theorem law6 (x : Option Addr) (n c : Nat) (l : Int) (w : World) (ho : OpsAt w x n) : Calls Try.prog 6 #[.slice x n c, .int .i64 l] w (Ret fun v w' => v = .bool true ∧ Below w.heap.size w w') := by
  refine W6_ok _ _ _ _ w _ ?_
  refine (c14 w).mono ?_
  rintro e w2 ⟨v, rfl, b, rfl, h2, l2, b2⟩
  have z2 := b2.size
  refine ⟨_, rfl, ?_⟩
  show ∃ _, _
  refine ⟨fun _ w3 => ∃ t, Ok t ∧ TabAt 63 w3 b t ∧ Below w.heap.size w w3, ?_, ?_⟩
  · rintro _ _ w3 ⟨t, hk, h3, b3⟩
    have z3 := b3.size
    have hn := hk.ne0
    have blt := tab_lt h3
    refine ⟨fun x w4 => ∃ i : Nat, x = ((cntF (fun j => decide ((t.s j).st = 1)) i : Int), (i : Int), ()) ∧ i ≤ 64 ∧ Below w3.heap.size w3 w4, fun x _ => (64 - x.2.1).toNat, ⟨(0, 0, ()), rfl, 0, rfl, by omega, Below.refl _ _⟩, ?_⟩
    rintro _ x w4 ⟨i, rfl, hi, b4⟩
    dsimp only
    have z4 := b4.size
    have h4 := below_tab b4 blt h3
    refine c_dec (fun hl => ?_) (fun hg => ?_)
    · have hi' : i < 64 := by omega
      have nx : IntKind.i64.wrap ((i : Int) + 1) = ((i + 1 : Nat) : Int) := by rw [wrap_in (by omega) (by omega)]; omega
      have hcl := cntF_le (fun j => decide ((t.s j).st = 1)) i
      refine (c18 h4 hn i).mono ?_
      rintro e w5 ⟨v, rfl, rfl, b5⟩
      rw [look_ok hk hi']
      have b35 := b4.trans (b5.mono z4)
      refine ⟨_, rfl, (t.s i).st, rfl, c_eq (fun hs => ?_) (fun hs => ?_)⟩
      · refine ⟨((cntF (fun j => decide ((t.s j).st = 1)) (i + 1) : Int), ((i + 1 : Nat) : Int), ()), ?_, ⟨i + 1, rfl, by omega, b35⟩, by dsimp only; omega⟩
        rw [nx, wrap_in (by omega) (by omega), cntF]; simp [hs, tv, Kd.V]
      · refine ⟨((cntF (fun j => decide ((t.s j).st = 1)) (i + 1) : Int), ((i + 1 : Nat) : Int), ()), ?_, ⟨i + 1, rfl, by omega, b35⟩, by dsimp only; omega⟩
        rw [nx, cntF]; simp [hs, tv, Kd.V]
    have hi64 : i = 64 := by omega
    subst hi64
    have hp := pkL_in l
    generalize hL : (pkL l).toNat = L at *
    have hL64 : L < 64 := by omega
    have hround := cnt_round (fun j => decide ((t.s j).st = 1)) hL64
    have hcl := cntF_le (fun j => decide ((t.s j).st = 1)) 64
    generalize hcan : cntF (fun j => decide ((t.s j).st = 1)) 64 = can at *
    have hR : ∀ d, slotA L d < 64 := fun d => by unfold slotA; omega
    refine newW_intro fun c2 w5 k5 l5 b5 => ?_
    rw [zc52] at k5
    have z5 := b5.size
    refine ⟨fun x w6 => ∃ (D : Nat) (last : Int) (sn : Nat → Int), x = (last, (cntF (fun d => decide ((t.s (slotA L d)).st = 1)) D : Int), ()) ∧ D ≤ 64 ∧ (D = 0 → last = l) ∧ (0 < D → last = (slotA (pkL l).toNat (D - 1) : Nat)) ∧
        Blk w6 c2 (iArr sn) 52 ∧ (∀ d, d < 64 → sn (slotA L d) = if d < D ∧ (t.s (slotA L d)).st = 1 then 1 else 0) ∧ TabAt 63 w6 b t ∧ Below w.heap.size w w6,
      fun x _ => ((can : Int) - x.2.1).toNat, ⟨(l, 0, ()), rfl, 0, l, fun _ => 0, rfl, by omega, fun _ => rfl, fun h => absurd h (by omega), k5, fun d _ => by simp, below_tab b5 (by omega) h4, b3.trans ((b4.mono z3).trans (b5.mono (by omega)))⟩, ?_⟩
    rintro _ x w6 ⟨D, last, sn, rfl, hD, hl0, hl1, k6, hsn, h6, b6⟩
    dsimp only
    have z6 := b6.size
    have hpick := pick_round (t := t) hl0 hl1
    rw [hL] at hpick
    refine c_dec (fun hl => ?_) (fun hg => ?_)
    · obtain ⟨d, hd1, hd2, hd3⟩ := cntF_ex (f := fun d => decide ((t.s (slotA L d)).st = 1)) hD (by omega)
      have hfs : ∃ i, fs (fun i => decide ((t.s (slotA L (D + i))).st = 1)) = some i ∧ D + i ≤ d := by
        cases e : fs (fun i => decide ((t.s (slotA L (D + i))).st = 1)) with
        | none =>
          have := fs_spec_none e (d - D) (by omega)
          rw [show D + (d - D) = d by omega] at this
          rw [this] at hd3; cases hd3
        | some i =>
          refine ⟨i, rfl, ?_⟩
          have hs := fs_spec e
          apply Classical.byContradiction
          intro hh
          have := hs.2.2 (d - D) (by omega)
          rw [show D + (d - D) = d by omega] at this
          rw [this] at hd3; cases hd3
      obtain ⟨i, hfi, hid⟩ := hfs
      have hs := fs_spec hfi
      have hst : (t.s (slotA L (D + i))).st = 1 := by simpa using hs.2.1
      rw [hfi] at hpick
      dsimp only at hpick
      refine (c19 h6 hn last).mono ?_
      rintro e w7 ⟨v, rfl, hv, b7⟩
      rw [hpick] at hv
      subst hv
      have z7 := b7.size
      have hat := hR (D + i)
      have hs0 := hsn (D + i) (by omega)
      rw [if_neg (by omega)] at hs0
      have k7 := below_blk b7 k6.lt k6
      have c2lt := k6.lt
      refine ⟨_, _, rfl, c_nb (fun h => by cases h) (fun _ => c_dec (fun h => by omega) (fun _ => c_dec (fun h => by omega) (fun _ => ?_)))⟩
      simp only [Addr.add_lit, Nat.zero_add, Int.toNat_natCast, Nat.mul_one]
      refine ⟨⟨by omega, by omega⟩, sn (slotA L (D + i)), k7.cell (iArr_get sn hat), c_dec (fun h => by omega) (fun _ => ?_)⟩
      refine (c18 (below_tab b7 (tab_lt h6) h6) hn _).mono ?_
      rintro e w8 ⟨v, rfl, rfl, b8⟩
      rw [look_ok hk hat]
      have z8 := b8.size
      refine ⟨_, rfl, (t.s (slotA L (D + i))).st, rfl, c_ne (fun h => absurd hst h) (fun _ => ⟨⟨by omega, by omega⟩, sn (slotA L (D + i)), ?_, ⟨by omega, by omega⟩, ?_⟩)⟩
      · exact (below_blk b8 k7.lt k7).cell (iArr_get sn hat)
      have k8 := below_blk b8 k7.lt k7
      refine stC_intro k8 (by rw [iArr_size]; exact hat) fun w9 h9 m9 s9 => ?_
      rw [iArr_set sn hat] at h9
      have b68 := b7.trans (b8.mono z7)
      have hcD : cntF (fun d => decide ((t.s (slotA L d)).st = 1)) (D + i + 1) = cntF (fun d => decide ((t.s (slotA L d)).st = 1)) D + 1 := by
        rw [cntF, cntF_skip (a := D) (by omega) (fun j h1 h2 => by have := hs.2.2 (j - D) (by omega); rw [show D + (j - D) = j by omega] at this; exact this)]
        simp [hst]
      have h68 := below_tab b68 (tab_lt h6) h6
      have blt6 := tab_lt h6
      have hcn := cntF_le (fun d => decide ((t.s (slotA L d)).st = 1)) D
      refine ⟨((slotA L (D + i) : Nat), (cntF (fun d => decide ((t.s (slotA L d)).st = 1)) (D + i + 1) : Int), ()), ?_, ⟨D + i + 1, _, _, rfl, by omega, fun h => by omega, fun _ => ?_, h9, fun d hd => ?_, m9.blk (by omega) h68, b6.trans ((b68.mono z6).trans (m9.below (by omega) (by omega)))⟩, ?_⟩
      · rw [wrap_in (by omega) (by omega), hcD]; rfl
      · rw [hL]; rfl
      · by_cases e : d = D + i
        · subst e
          rw [if_pos rfl, hs0, if_pos ⟨by omega, hst⟩]; rfl
        · have hne : slotA L d ≠ slotA L (D + i) := by unfold slotA; omega
          rw [if_neg hne, hsn d hd]
          by_cases hlt : d < D
          · by_cases h1 : (t.s (slotA L d)).st = 1
            · rw [if_pos ⟨hlt, h1⟩, if_pos ⟨by omega, h1⟩]
            · rw [if_neg (fun h => h1 h.2), if_neg (fun h => h1 h.2)]
          · rw [if_neg (fun h => hlt h.1), if_neg]
            intro h
            have := hs.2.2 (d - D) (by omega)
            rw [show D + (d - D) = d by omega] at this
            simp [h.2] at this
      · rw [hcD]; dsimp only; omega
    · have hcD := cntF_mono (fun d => decide ((t.s (slotA L d)).st = 1)) hD
      have hceq : cntF (fun d => decide ((t.s (slotA L d)).st = 1)) D = can := by omega
      have hall : ∀ d, D ≤ d → d < 64 → ¬ (t.s (slotA L d)).st = 1 := fun d h1 h2 h3 => by
        have := cntF_lt (f := fun d => decide ((t.s (slotA L d)).st = 1)) h1 h2 (by simpa using h3)
        omega
      have hmod : ∀ d, slotA L d = slotA L (d % 64) := fun d => by unfold slotA; omega
      refine (c19 h6 hn last).mono ?_
      rintro e w7 ⟨v, rfl, hv, b7⟩
      rw [hpick] at hv
      subst hv
      have b07 := b6.trans (b7.mono z6)
      refine ?_
      cases e : fs (fun i => decide ((t.s (slotA L (D + i))).st = 1)) with
      | none =>
        refine ⟨_, _, rfl, c_eq (fun h0 => c_nb (fun _ => ⟨rfl, b07⟩) (fun h => by cases h)) (fun h0 => ?_)⟩
        exfalso
        obtain ⟨d, hd1, hd2, hd3⟩ := cntF_ex (f := fun d => decide ((t.s (slotA L d)).st = 1)) (a := 0) (b := 64) (by omega) (by rw [hround]; show 0 < can; omega)
        have := fs_spec_none e ((d + 64 * 64 - D) % 64) (by omega)
        rw [hmod, show (D + (d + 64 * 64 - D) % 64) % 64 = d by omega] at this
        rw [this] at hd3; cases hd3
      | some i =>
        have hs := fs_spec e
        have hst : (t.s (slotA L (D + i))).st = 1 := by simpa using hs.2.1
        rw [hmod] at hst
        have hd' : (D + i) % 64 < D := Classical.byContradiction fun h => hall _ (by omega) (by omega) hst
        have hat := hR (D + i)
        have hs1 := hsn ((D + i) % 64) (by omega)
        rw [if_pos ⟨hd', hst⟩, ← hmod] at hs1
        refine ⟨_, _, rfl, c_eq (fun h0 => ?_) (fun h0 => c_b (fun _ => ?_) (fun h => by cases h))⟩
        · exfalso
          have := cntF_lt (f := fun d => decide ((t.s (slotA L d)).st = 1)) (a := 0) (b := 64) (d := (D + i) % 64) (by omega) (by omega) (by simpa using hst)
          rw [hround] at this
          omega
        · simp only [Addr.add_lit, Nat.zero_add, Int.toNat_natCast, Nat.mul_one]
          refine ⟨⟨by omega, by omega⟩, sn (slotA L (D + i)), (below_blk b7 k6.lt k6).cell (iArr_get sn hat), ?_, b07⟩
          rw [hs1]; rfl
  · refine ⟨fun y w3 => ∃ (i : Nat) (t : Tab), y = ((i : Int), ()) ∧ i ≤ 400 ∧ Ok t ∧ TabAt 63 w3 b t ∧ Below w.heap.size w w3, fun y _ => (400 - y.1).toNat,
      ⟨(0, ()), rfl, 0, tNew, rfl, by omega, ok_new, h2, b2⟩, ?_⟩
    rintro _ y w3 ⟨i, t, rfl, hi, hk, h3, b3⟩
    dsimp only
    refine c_dec (fun hl => ?_) (fun _ => ⟨(), rfl, t, hk, h3, b3⟩)
    refine c_dec (fun hl2 => ?_) (fun _ => ⟨(), rfl, t, hk, h3, b3⟩)
    obtain ⟨a, rfl, ha, o, hr⟩ := (ho.below b3) i (by omega)
    have nx : IntKind.i64.wrap ((i : Int) + 1) = ((i + 1 : Nat) : Int) := by rw [wrap_in (by omega) (by omega)]; omega
    refine ⟨⟨by omega, by omega⟩, o.a, rfl, by rw [Int.toNat_natCast]; exact hr, (c15 h3 hk o).mono ?_⟩
    rintro e w4 ⟨v, rfl, rfl, h4, m4⟩
    have z3 := b3.size
    have z4 := m4.size
    exact ⟨rfl, (((i + 1 : Nat) : Int), ()), by rw [nx]; rfl, ⟨i + 1, _, rfl, by omega, ok_do hk o, h4, b3.trans (m4.below z3 (by omega))⟩, by dsimp only; omega⟩
end Go.Proofs.Ythihjppjollekaa
