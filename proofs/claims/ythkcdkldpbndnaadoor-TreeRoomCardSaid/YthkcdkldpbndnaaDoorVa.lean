/- One tree: what holds of directories, names and counts, and that each change keeps it. No condition. -/
import Derived.Test.YthkcdkldpbndnaaDoorMM
set_option linter.unusedVariables false
namespace Go.Proofs.YthkcdkldpbndnaaDoor
open Go.RowKit Go.Hx
/-! ### Sums -/
def sumN (f : Nat → Nat) : Nat → Nat
  | 0 => 0
  | n + 1 => sumN f n + f n
theorem sumN_same {f g : Nat → Nat} : ∀ {n : Nat}, (∀ k, k < n → f k = g k) → sumN f n = sumN g n
  | 0, _ => rfl
  | n + 1, h => by
    unfold sumN
    rw [sumN_same fun k hk => h k (by omega), h n (by omega)]
theorem sumN_one {f g : Nat → Nat} {d δ : Nat} : ∀ {n : Nat}, d < n → f d = g d + δ → (∀ k, k ≠ d → f k = g k) → sumN f n = sumN g n + δ
  | 0, h, _, _ => by omega
  | n + 1, h, hd, ho => by
    unfold sumN
    by_cases hn : d = n
    · subst hn
      rw [sumN_same fun k hk => ho k (by omega), hd]; omega
    · rw [sumN_one (by omega) hd ho, ho n (Ne.symm hn)]; omega
theorem sumN_le {f : Nat → Nat} {d : Nat} : ∀ {n : Nat}, d < n → f d ≤ sumN f n
  | 0, h => by omega
  | n + 1, h => by
    unfold sumN
    by_cases hn : d = n
    · subst hn; omega
    · have := sumN_le (f := f) (n := n) (d := d) (by omega); omega
theorem sumN_zero {f : Nat → Nat} : ∀ {n : Nat}, sumN f n = 0 → ∀ k, k < n → f k = 0
  | 0, _, k, hk => by omega
  | n + 1, h, k, hk => by
    unfold sumN at h
    by_cases hn : k = n
    · subst hn; omega
    · exact sumN_zero (n := n) (by omega) k (by omega)
theorem sumN_pos {f : Nat → Nat} : ∀ {n : Nat}, 0 < sumN f n → ∃ k, k < n ∧ 0 < f k
  | 0, h => by
    unfold sumN at h; omega
  | n + 1, h => by
    unfold sumN at h
    by_cases hn : 0 < f n
    · exact ⟨n, by omega, hn⟩
    · obtain ⟨k, hk, hp⟩ := sumN_pos (f := f) (n := n) (by omega)
      exact ⟨k, by omega, hp⟩
/-! ### What holds -/
def isI (j : Nat) (e : Ent) : Bool := decide (e.1 = (j : Int))
def cntN (R : Nat → List Ent) (j : Nat) : Nat := sumN (fun i => (R i).countP (isI j)) 200
def GoodN (s : List UInt8) : Prop := s ≠ [] ∧ s ≠ [46] ∧ s ≠ [46, 46] ∧ (47 : UInt8) ∉ s
/-- ty, lk, rf: types, links, references; R: a directory's entries behind the first two; up: what its '..' names; x: one that is let go next. -/
structure VP (ty lk rf : Nat → Int) (R : Nat → List Ent) (up : Nat → Nat) (x : Nat) : Prop where
  z : ty 0 = 0
  root : ty 1 = 1 ∧ 1 ≤ lk 1 ∧ up 1 = 1
  none : ∀ i, ty i ≠ 1 ∨ lk i = 0 → R i = []
  ent : ∀ i e, e ∈ R i → (2 ≤ e.1 ∧ e.1 < 200) ∧ ty e.1.toNat ≠ 0 ∧ GoodN e.2
  uniq : ∀ i, ((R i).map Prod.snd).Nodup
  file : ∀ j, ty j ≠ 0 → ty j ≠ 1 → lk j = (cntN R j : Int)
  dirl : ∀ i, ty i = 1 → lk i ≠ 0 → lk i = 1 + (((R i).countP fun e => decide (ty e.1.toNat = 1) : Nat) : Int)
  one : ∀ j, ty j = 1 → j ≠ 1 → cntN R j = if lk j = 0 then 0 else 1
  par : ∀ i e, e ∈ R i → ty e.1.toNat = 1 → up e.1.toNat = i
  rank : ∃ rk : Nat → Nat, ∀ i e, e ∈ R i → ty e.1.toNat = 1 → rk i < rk e.1.toNat
  held : ∀ j, j ≠ 1 → j ≠ x → ty j ≠ 0 → lk j = 0 → 1 ≤ rf j
  big : ∀ j, 200 ≤ j → ty j = 0
section
variable {ty lk rf : Nat → Int} {R : Nat → List Ent} {up : Nat → Nat} {x : Nat}
theorem isI_eq {j : Nat} {e : Ent} : isI j e = true ↔ e.1 = (j : Int) := by unfold isI; rw [decide_eq_true_eq]
theorem cnt_le {i j : Nat} (hi : i < 200) : (R i).countP (isI j) ≤ cntN R j := sumN_le (f := fun i => (R i).countP (isI j)) hi
theorem VP.lt (h : VP ty lk rf R up x) {i : Nat} {e : Ent} (he : e ∈ R i) : i < 200 := by
  rcases Nat.lt_or_ge i 200 with h1 | h1
  · exact h1
  · rw [h.none i (.inl (by rw [h.big i h1]; decide))] at he
    cases he
theorem VP.live (h : VP ty lk rf R up x) {i : Nat} {e : Ent} (he : e ∈ R i) : ty i = 1 ∧ lk i ≠ 0 := by
  constructor
  · exact Classical.byContradiction fun hn => by rw [h.none i (.inl hn)] at he; cases he
  · exact fun hn => by rw [h.none i (.inr hn)] at he; cases he
theorem VP.cnt_pos (h : VP ty lk rf R up x) {i : Nat} {e : Ent} (he : e ∈ R i) : 0 < cntN R e.1.toNat := by
  have h1 : 0 < (R i).countP (isI e.1.toNat) := List.countP_pos_iff.2 ⟨e, he, isI_eq.2 (by have := (h.ent i e he).1; omega)⟩
  have := cnt_le (R := R) (j := e.1.toNat) (h.lt he)
  omega
theorem VP.names0 (h : VP ty lk rf R up x) {j : Nat} (hc : cntN R j = 0) : ∀ i e, e ∈ R i → e.1 ≠ (j : Int) := fun i e he e' => by
  have := h.cnt_pos he
  rw [e', Int.toNat_natCast] at this
  omega
theorem VP.cnt_ty0 (h : VP ty lk rf R up x) {j : Nat} (hj : ty j = 0) : cntN R j = 0 := by
  rcases Nat.eq_zero_or_pos (cntN R j) with h1 | h1
  · exact h1
  · obtain ⟨i, hi, hp⟩ := sumN_pos h1
    obtain ⟨e, he, hI⟩ := List.countP_pos_iff.1 hp
    have := (h.ent i e he).2.1
    rw [isI_eq.1 hI, Int.toNat_natCast] at this
    exact absurd hj this
/-- Who is named by an entry. -/
theorem VP.cnt_root (h : VP ty lk rf R up x) : cntN R 1 = 0 := by
  rcases Nat.eq_zero_or_pos (cntN R 1) with h1 | h1
  · exact h1
  · obtain ⟨i, hi, hp⟩ := sumN_pos h1
    obtain ⟨e, he, hI⟩ := List.countP_pos_iff.1 hp
    have := (h.ent i e he).1
    rw [isI_eq.1 hI] at this
    omega
theorem VP.named (h : VP ty lk rf R up x) {i : Nat} {e : Ent} (he : e ∈ R i) : 1 ≤ lk e.1.toNat ∧ (ty e.1.toNat = 1 → e.1.toNat ≠ i) := by
  have hE := h.ent i e he
  have hc := h.cnt_pos he
  by_cases ht : ty e.1.toNat = 1
  · have h1 := h.one _ ht (by omega)
    have h2 : lk e.1.toNat ≠ 0 := fun h0 => by rw [if_pos h0] at h1; omega
    have h3 := h.dirl _ ht h2
    refine ⟨by omega, fun _ e' => ?_⟩
    obtain ⟨rk, hr⟩ := h.rank
    have := hr i e he ht
    rw [e'] at this
    omega
  · have := h.file _ hE.2.1 ht
    exact ⟨by omega, fun h' => absurd h' ht⟩
/-- References turn, data turn. -/
theorem VP.refs (h : VP ty lk rf R up x) {rf' : Nat → Int} (hh : ∀ j, j ≠ 1 → j ≠ x → ty j ≠ 0 → lk j = 0 → 1 ≤ rf' j) : VP ty lk rf' R up x :=
  ⟨h.z, h.root, h.none, h.ent, h.uniq, h.file, h.dirl, h.one, h.par, h.rank, hh, h.big⟩
/-- One goes. -/
theorem VP.go (h : VP ty lk rf R up x) {ty' lk' rf' : Nat → Int} {up' : Nat → Nat} (hx1 : x ≠ 1) (hx : lk x = 0) (h1 : ty' x = 0) (h2 : ∀ j, j ≠ x → ty' j = ty j) (h3 : ∀ j, j ≠ x → lk' j = lk j) (h4 : ∀ j, j ≠ x → rf' j = rf j) (h5 : ∀ j, j ≠ x → up' j = up j) : VP ty' lk' rf' R up' 0 := by
  have hR : R x = [] := h.none x (.inr hx)
  have hc : ty x ≠ 0 → cntN R x = 0 := fun hne => by
    by_cases ht : ty x = 1
    · rw [h.one x ht hx1, if_pos hx]
    · have := h.file x hne ht
      omega
  have hno : ∀ i e, e ∈ R i → e.1.toNat ≠ x := fun i e he e' => by
    have hE := h.ent i e he
    by_cases hne : ty x = 0
    · exact hE.2.1 (by rw [e']; exact hne)
    · have := h.cnt_pos he
      rw [e', hc hne] at this
      omega
  refine ⟨?_, ?_, fun i hi => ?_, fun i e he => ?_, h.uniq, fun j hj0 hj1 => ?_, fun i hi hl => ?_, fun j hj hj1 => ?_, fun i e he ht => ?_, ?_, fun j hj1 hj0 hj hl => ?_, fun j hj => ?_⟩
  · by_cases e : (0 : Nat) = x
    · rw [e]; exact h1
    · rw [h2 0 e]; exact h.z
  · rw [h2 1 (Ne.symm hx1), h3 1 (Ne.symm hx1), h5 1 (Ne.symm hx1)]
    exact h.root
  · by_cases e : i = x
    · rw [e]; exact hR
    · rw [h2 i e, h3 i e] at hi
      exact h.none i hi
  · have hE := h.ent i e he
    rw [h2 _ (hno i e he)]
    exact hE
  · by_cases e : j = x
    · rw [e] at hj0; exact absurd h1 hj0
    · rw [h2 j e] at hj0 hj1
      rw [h3 j e]
      exact h.file j hj0 hj1
  · by_cases e : i = x
    · rw [e, h1] at hi; exact absurd hi (by decide)
    · rw [h2 i e] at hi
      rw [h3 i e] at hl ⊢
      rw [h.dirl i hi hl]
      congr 2
      refine List.countP_congr fun e he => ?_
      rw [h2 _ (hno i e he)]
  · by_cases e : j = x
    · rw [e, h1] at hj; exact absurd hj (by decide)
    · rw [h2 j e] at hj
      rw [h3 j e]
      exact h.one j hj hj1
  · rw [h2 _ (hno i e he)] at ht
    rw [h5 _ (hno i e he)]
    exact h.par i e he ht
  · obtain ⟨rk, hr⟩ := h.rank
    exact ⟨rk, fun i e he ht => hr i e he (by rw [h2 _ (hno i e he)] at ht; exact ht)⟩
  · by_cases e : j = x
    · rw [e, h1] at hj; exact absurd rfl hj
    · rw [h2 j e] at hj
      rw [h3 j e] at hl
      rw [h4 j e]
      exact h.held j hj1 e hj hl
  · by_cases e : j = x
    · rw [e]; exact h1
    · rw [h2 j e]; exact h.big j hj
/-- A new name: of a new inode, or one more of one that is no directory. -/
theorem VP.enter (h : VP ty lk rf R up 0) {ty' lk' rf' : Nat → Int} {R' : Nat → List Ent} {up' : Nat → Nat} {i d : Nat} {nm : List UInt8} {T : Int} (hd : ty d = 1 ∧ lk d ≠ 0) (hi : 2 ≤ i ∧ i < 200) (hT : T ≠ 0)
    (hnew : ty i = 0 ∨ (ty i ≠ 1 ∧ T = ty i)) (hdir : T = 1 → ty i = 0) (hnm : GoodN nm) (hfr : nm ∉ (R d).map Prod.snd)
    (h1 : ∀ j, ty' j = if j = i then T else ty j) (h2 : ∀ j, j ≠ i → lk' j = lk j + if j = d ∧ T = 1 then 1 else 0) (h2i : lk' i = (if ty i = 0 then 0 else lk i) + 1) (h3 : ∀ j, j ≠ i → rf' j = rf j)
    (h4 : ∀ j, j ≠ d → j ≠ i → R' j = R j) (h4d : (R' d).Perm (((i : Int), nm) :: R d)) (h4i : i ≠ d → R' i = []) (h5 : ∀ j, j ≠ i → up' j = up j) (h5i : T = 1 → up' i = d) : VP ty' lk' rf' R' up' 0 := by
  have hdlt : d < 200 := Classical.byContradiction fun hn => by
    have := h.big d (by omega)
    rw [hd.1] at this
    exact absurd this (by decide)
  have hid : i ≠ d := fun e => by
    rw [e] at hnew
    rcases hnew with h' | ⟨h', _⟩
    · rw [hd.1] at h'; exact absurd h' (by decide)
    · exact h' hd.1
  have hRi : R i = [] := h.none i (.inl (by
    rcases hnew with h' | ⟨h', _⟩
    · rw [h']; decide
    · exact h'))
  have hR : ∀ j, j ≠ d → R' j = R j := fun j hj => by
    by_cases e : j = i
    · rw [e, h4i hid, hRi]
    · exact h4 j hj e
  have hmem : ∀ j e, e ∈ R' j → e ∈ R j ∨ (j = d ∧ e = ((i : Int), nm)) := fun j e he => by
    by_cases hj : j = d
    · subst hj
      rcases List.mem_cons.1 (h4d.mem_iff.1 he) with h' | h'
      · exact .inr ⟨rfl, h'⟩
      · exact .inl h'
    · rw [hR j hj] at he
      exact .inl he
  have hcnt : ∀ j, cntN R' j = cntN R j + if j = i then 1 else 0 := fun j => by
    unfold cntN
    refine sumN_one hdlt ?_ fun k hk => by rw [hR k hk]
    rw [h4d.countP_eq, List.countP_cons]
    congr 1
    by_cases e : j = i
    · rw [if_pos e, if_pos (isI_eq.2 (by rw [e]))]
    · rw [if_neg e, if_neg fun hc => e (by have := isI_eq.1 hc; have : ((i : Nat) : Int) = (j : Int) := this; omega)]
  have htyE : ∀ k e, e ∈ R k → ty i = 0 → e.1.toNat ≠ i := fun k e he h0 e' => (h.ent k e he).2.1 (by rw [e']; exact h0)
  -- the type of a named one stays
  have htyS : ∀ k e, e ∈ R k → ty' e.1.toNat = ty e.1.toNat := fun k e he => by
    rw [h1]
    by_cases e' : e.1.toNat = i
    · rw [if_pos e', e']
      rcases hnew with h' | ⟨_, h'⟩
      · exact absurd e' (htyE k e he h')
      · exact h'
    · rw [if_neg e']
  have hi1 : ¬ (1 : Nat) = i := by omega
  have hi0 : ¬ (0 : Nat) = i := by omega
  have hz : ∀ j, j ≠ i → (lk' j = 0 ↔ lk j = 0) := fun j e => by
    rw [h2 j e]
    by_cases e2 : j = d
    · subst e2
      have hr := h.dirl j hd.1 hd.2
      by_cases hT1 : T = 1
      · rw [if_pos ⟨rfl, hT1⟩]; omega
      · rw [if_neg fun hc => hT1 hc.2, Int.add_zero]
    · rw [if_neg fun hc => e2 hc.1, Int.add_zero]
  refine ⟨?_, ?_, fun j hj => ?_, fun j e he => ?_, fun j => ?_, fun j hj0 hj1 => ?_, fun j hj hl => ?_, fun j hj hj1 => ?_, fun j e he ht => ?_, ?_, fun j hj1 hj0 hj hl => ?_, fun j hj => ?_⟩
  · rw [h1, if_neg hi0]; exact h.z
  · rw [h1, if_neg hi1, h2 1 (by omega), h5 1 (by omega)]
    have := h.root
    refine ⟨this.1, ?_, this.2.2⟩
    split <;> omega
  · by_cases e : j = i
    · rw [e]; exact h4i hid
    · by_cases e2 : j = d
      · subst e2
        rw [h1, if_neg e, h2 j e] at hj
        have hr := h.dirl j hd.1 hd.2
        rcases hj with h' | h'
        · exact absurd hd.1 h'
        · split at h' <;> omega
      · rw [hR j e2]
        rw [h1, if_neg e, h2 j e, if_neg fun hc => e2 hc.1, Int.add_zero] at hj
        exact h.none j hj
  · rcases hmem j e he with h' | ⟨rfl, rfl⟩
    · have hE := h.ent j e h'
      rw [htyS j e h']
      exact hE
    · refine ⟨⟨by show (2 : Int) ≤ (i : Int); omega, by show (i : Int) < 200; omega⟩, ?_, hnm⟩
      show ty' ((i : Int)).toNat ≠ 0
      rw [Int.toNat_natCast, h1, if_pos rfl]
      exact hT
  · by_cases e2 : j = d
    · subst e2
      refine ((h4d.map Prod.snd).nodup_iff).2 ?_
      rw [List.map_cons, List.nodup_cons]
      exact ⟨hfr, h.uniq j⟩
    · rw [hR j e2]; exact h.uniq j
  · rw [hcnt]
    by_cases e : j = i
    · subst e
      rw [h2i, if_pos rfl]
      by_cases h0 : ty j = 0
      · rw [if_pos h0, h.cnt_ty0 h0]; rfl
      · rw [if_neg h0]
        have := h.file j h0 (by
          rcases hnew with h' | ⟨h', _⟩
          · exact absurd h' h0
          · exact h')
        omega
    · rw [h1, if_neg e] at hj0 hj1
      rw [h2 j e, if_neg e, if_neg fun hc => hj1 (by rw [hc.1]; exact hd.1)]
      have := h.file j hj0 hj1
      omega
  · by_cases e : j = i
    · subst e
      rw [h1, if_pos rfl] at hj
      have h0 := hdir hj
      rw [h2i, if_pos h0, h4i hid]; rfl
    · rw [h1, if_neg e] at hj
      have hcp : ∀ k, (R k).countP (fun e => decide (ty' e.1.toNat = 1)) = (R k).countP (fun e => decide (ty e.1.toNat = 1)) := fun k => List.countP_congr fun e he => by rw [htyS k e he]
      by_cases e2 : j = d
      · subst e2
        rw [h2 j e, h4d.countP_eq, List.countP_cons, hcp]
        have hr := h.dirl j hd.1 hd.2
        have ei : ty' ((i : Int)).toNat = T := by rw [Int.toNat_natCast, h1, if_pos rfl]
        by_cases hT1 : T = 1
        · rw [if_pos ⟨rfl, hT1⟩, if_pos (by show decide (ty' ((i : Int)).toNat = 1) = true; rw [ei, hT1]; rfl)]
          omega
        · rw [if_neg fun hc => hT1 hc.2, if_neg (by show ¬ decide (ty' ((i : Int)).toNat = 1) = true; rw [ei]; simpa using hT1)]
          omega
      · rw [h2 j e, if_neg fun hc => e2 hc.1, Int.add_zero] at hl ⊢
        rw [hR j e2, hcp]
        exact h.dirl j hj hl
  · rw [hcnt]
    by_cases e : j = i
    · subst e
      rw [h1, if_pos rfl] at hj
      have h0 := hdir hj
      rw [if_pos rfl, h.cnt_ty0 h0, h2i, if_pos h0]; rfl
    · rw [h1, if_neg e] at hj
      rw [if_neg e, Nat.add_zero, h.one j hj hj1]
      by_cases hl : lk j = 0
      · rw [if_pos hl, if_pos ((hz j e).2 hl)]
      · rw [if_neg hl, if_neg fun hc => hl ((hz j e).1 hc)]
  · rcases hmem j e he with h' | ⟨rfl, rfl⟩
    · rw [htyS j e h'] at ht
      by_cases e' : e.1.toNat = i
      · rw [e'] at ht
        rcases hnew with h0 | ⟨h0, _⟩
        · exact absurd e' (htyE j e h' h0)
        · exact absurd ht h0
      · rw [h5 _ e']
        exact h.par j e h' ht
    · have ht : ty' ((i : Int)).toNat = 1 := ht
      rw [Int.toNat_natCast, h1, if_pos rfl] at ht
      show up' ((i : Int)).toNat = j
      rw [Int.toNat_natCast]
      exact h5i ht
  · obtain ⟨rk, hr⟩ := h.rank
    refine ⟨fun k => if k = i then rk d + 1 else rk k, fun j e he ht => ?_⟩
    rcases hmem j e he with h' | ⟨rfl, rfl⟩
    · rw [htyS j e h'] at ht
      have hj : j ≠ i := fun e' => by rw [e', hRi] at h'; cases h'
      have he' : e.1.toNat ≠ i := fun e' => by
        rw [e'] at ht
        rcases hnew with h0 | ⟨h0, _⟩
        · exact htyE j e h' h0 e'
        · exact h0 ht
      show (if j = i then rk d + 1 else rk j) < if e.1.toNat = i then rk d + 1 else rk e.1.toNat
      rw [if_neg hj, if_neg he']
      exact hr j e h' ht
    · show (if j = i then rk j + 1 else rk j) < if ((i : Int)).toNat = i then rk j + 1 else rk _
      rw [Int.toNat_natCast, if_neg (Ne.symm hid), if_pos rfl]
      omega
  · by_cases e : j = i
    · subst e
      rw [h2i] at hl
      have : 0 ≤ if ty j = 0 then 0 else lk j := by
        split
        · exact Int.le_refl _
        · rename_i h0
          have := h.file j h0 (by
            rcases hnew with h' | ⟨h', _⟩
            · exact absurd h' h0
            · exact h')
          omega
      omega
    · rw [h1, if_neg e] at hj
      rw [h2 j e] at hl
      rw [h3 j e]
      refine h.held j hj1 hj0 hj ?_
      by_cases e2 : j = d
      · subst e2
        have hr := h.dirl j hd.1 hd.2
        split at hl <;> omega
      · rw [if_neg fun hc => e2 hc.1, Int.add_zero] at hl
        exact hl
  · rw [h1, if_neg (by omega)]
    exact h.big j hj
/-- A name goes. -/
theorem VP.leave (h : VP ty lk rf R up 0) {ty' lk' rf' : Nat → Int} {R' : Nat → List Ent} {up' : Nat → Nat} {d i : Nat} {nm : List UInt8} (he0 : ((i : Int), nm) ∈ R d) (hemp : ty i = 1 → R i = [])
    (h1 : ∀ j, ty' j = ty j) (h2 : ∀ j, j ≠ i → lk' j = lk j - if j = d ∧ ty i = 1 then 1 else 0) (h2i : lk' i = lk i - 1) (h3 : ∀ j, rf' j = rf j)
    (h4 : ∀ j, j ≠ d → R' j = R j) (h4d : (R d).Perm (((i : Int), nm) :: R' d)) (h5 : ∀ j, j ≠ i → up' j = up j) (h5i : ty i = 1 → lk i ≠ 1 → up' i = up i) : VP ty' lk' rf' R' up' i := by
  have hE := h.ent d _ he0
  have hN := h.named he0
  have hL := h.live he0
  have hdlt := h.lt he0
  have ei : ((((i : Int), nm) : Ent)).1.toNat = i := Int.toNat_natCast i
  rw [ei] at hE hN
  have hi2 : 2 ≤ i := by
    have : (2 : Int) ≤ (i : Int) := hE.1.1
    omega
  have hid : i ≠ d := fun e => by
    subst e
    have := hN.2 hL.1
    exact this rfl
  have hsub : ∀ j e, e ∈ R' j → e ∈ R j := fun j e he => by
    by_cases e2 : j = d
    · subst e2; exact h4d.mem_iff.2 (List.mem_cons_of_mem _ he)
    · rw [h4 j e2] at he; exact he
  have hcnt : ∀ j, cntN R j = cntN R' j + if j = i then 1 else 0 := fun j => by
    unfold cntN
    refine sumN_one hdlt ?_ fun k hk => by rw [h4 k hk]
    rw [h4d.countP_eq, List.countP_cons]
    congr 1
    by_cases e : j = i
    · rw [if_pos e, if_pos (isI_eq.2 (by rw [e]))]
    · rw [if_neg e, if_neg fun hc => e (by have := isI_eq.1 hc; have : ((i : Nat) : Int) = (j : Int) := this; omega)]
  have hlki : ty i = 1 → lk i = 1 := fun ht => by
    have := h.dirl i ht (by omega)
    rw [hemp ht] at this
    simpa using this
  have hcp : ∀ (l : List Ent), l.countP (fun e => decide (ty' e.1.toNat = 1)) = l.countP (fun e => decide (ty e.1.toNat = 1)) := fun l => List.countP_congr fun e he => by rw [h1]
  have hcd : ((R d).countP fun e => decide (ty e.1.toNat = 1)) = ((R' d).countP fun e => decide (ty e.1.toNat = 1)) + if ty i = 1 then 1 else 0 := by
    rw [h4d.countP_eq, List.countP_cons]
    congr 1
    by_cases ht : ty i = 1
    · rw [if_pos ht, if_pos (by rw [ei, ht]; rfl)]
    · rw [if_neg ht, if_neg (by rw [ei]; simpa using ht)]
  have hlkd : lk' d = lk d - if ty i = 1 then 1 else 0 := by
    rw [h2 d (Ne.symm hid)]
    by_cases ht : ty i = 1
    · rw [if_pos ⟨rfl, ht⟩, if_pos ht]
    · rw [if_neg fun hc => ht hc.2, if_neg ht]
  have hrd := h.dirl d hL.1 hL.2
  have hdpos : 1 ≤ lk' d := by
    rw [hlkd, hrd, hcd]
    split <;> omega
  refine ⟨by rw [h1]; exact h.z, ?_, fun j hj => ?_, fun j e he => ?_, fun j => ?_, fun j hj0 hj1 => ?_, fun j hj hl => ?_, fun j hj hj1 => ?_, fun j e he ht => ?_, ?_, fun j hj1 hjx hj hl => ?_, fun j hj => by rw [h1]; exact h.big j hj⟩
  · rw [h1, h5 1 (by omega)]
    refine ⟨h.root.1, ?_, h.root.2.2⟩
    by_cases e2 : 1 = d
    · rw [e2]; exact hdpos
    · rw [h2 1 (by omega), if_neg fun hc => e2 hc.1]
      have := h.root.2.1
      omega
  · rw [h1] at hj
    by_cases e2 : j = d
    · subst e2
      rcases hj with h' | h'
      · exact absurd hL.1 h'
      · omega
    · rw [h4 j e2]
      by_cases e : j = i
      · subst e
        by_cases ht : ty j = 1
        · exact hemp ht
        · exact h.none j (.inl ht)
      · rw [h2 j e, if_neg fun hc => e2 hc.1, Int.sub_zero] at hj
        exact h.none j hj
  · rw [h1]; exact h.ent j e (hsub j e he)
  · by_cases e2 : j = d
    · subst e2
      have := ((h4d.map Prod.snd).nodup_iff).1 (h.uniq j)
      rw [List.map_cons, List.nodup_cons] at this
      exact this.2
    · rw [h4 j e2]; exact h.uniq j
  · rw [h1] at hj0 hj1
    have hf := h.file j hj0 hj1
    have hc := hcnt j
    by_cases e : j = i
    · subst e
      rw [if_pos rfl] at hc
      rw [h2i]; omega
    · rw [if_neg e] at hc
      rw [h2 j e, if_neg fun hc' => hj1 (by rw [hc'.1]; exact hL.1)]
      omega
  · rw [h1] at hj
    rw [hcp]
    by_cases e2 : j = d
    · subst e2
      rw [hlkd, hrd, hcd]
      split <;> omega
    · rw [h4 j e2]
      by_cases e : j = i
      · subst e
        rw [h2i, hlki hj] at hl
        exact absurd rfl hl
      · rw [h2 j e, if_neg fun hc => e2 hc.1, Int.sub_zero] at hl ⊢
        exact h.dirl j hj hl
  · rw [h1] at hj
    have hc := hcnt j
    have ho := h.one j hj hj1
    by_cases e : j = i
    · subst e
      rw [if_pos rfl] at hc
      rw [hlki hj, if_neg (by decide)] at ho
      rw [h2i, hlki hj, if_pos (by decide)]
      omega
    · rw [if_neg e] at hc
      by_cases e2 : j = d
      · subst e2
        rw [if_neg hL.2] at ho
        rw [if_neg (by omega)]
        omega
      · have e3 : lk' j = lk j := by rw [h2 j e, if_neg fun hc => e2 hc.1, Int.sub_zero]
        rw [e3]
        omega
  · rw [h1] at ht
    have he' := hsub j e he
    by_cases e' : e.1.toNat = i
    · exfalso
      -- it is named once alone
      have hti : ty i = 1 := by rw [← e']; exact ht
      have h6 := h.one i hti (by omega)
      rw [hlki hti, if_neg (by decide)] at h6
      have h7 := hcnt i
      rw [if_pos rfl] at h7
      have h8 : cntN R' i = 0 := by omega
      have h9 := sumN_zero (f := fun k => (R' k).countP (isI i)) h8 j (h.lt he')
      have : 0 < (R' j).countP (isI i) := List.countP_pos_iff.2 ⟨e, he, isI_eq.2 (by have := (h.ent j e he').1; omega)⟩
      have h9 : (R' j).countP (isI i) = 0 := h9
      omega
    · rw [h5 _ e']
      exact h.par j e he' ht
  · obtain ⟨rk, hr⟩ := h.rank
    exact ⟨rk, fun j e he ht => hr j e (hsub j e he) (by rw [h1] at ht; exact ht)⟩
  · rw [h1] at hj
    rw [h3]
    rw [h2 j hjx] at hl
    have hz : j ≠ 0 := fun e => by rw [e] at hj; exact hj h.z
    refine h.held j hj1 hz hj ?_
    by_cases e2 : j = d
    · subst e2
      have : lk' j = 0 := by rw [h2 j hjx]; exact hl
      omega
    · rw [if_neg fun hc => e2 hc.1, Int.sub_zero] at hl
      exact hl
end
end Go.Proofs.YthkcdkldpbndnaaDoor
