/- Names are taken away round by round: what is left gets less. No condition. -/
import Derived.Test.YthkcdkldpbndnaaDoorVn
set_option linter.unusedVariables false
namespace Go.Proofs.YthkcdkldpbndnaaDoor
open Go.RowKit Go.Hx
theorem sumN_mono {f g : Nat → Nat} (h : ∀ k, f k ≤ g k) : ∀ n, sumN f n ≤ sumN g n
  | 0 => Nat.le_refl _
  | n + 1 => by
    unfold sumN
    have := sumN_mono h n
    have := h n
    omega
theorem sumN_lt {f g : Nat → Nat} {d : Nat} (h : ∀ k, f k ≤ g k) (hd : f d < g d) : ∀ {n : Nat}, d < n → sumN f n < sumN g n
  | 0, hn => by omega
  | n + 1, hn => by
    unfold sumN
    by_cases e : d = n
    · subst e
      have := sumN_mono h d
      omega
    · have := sumN_lt h hd (n := n) (by omega)
      have := h n
      omega
theorem sumN_ones {f : Nat → Nat} (h0 : f 0 = 0) (h1 : f 1 = 0) (h : ∀ k, f k ≤ 1) : ∀ n, sumN f (n + 2) ≤ n
  | 0 => by
    unfold sumN sumN sumN
    omega
  | n + 1 => by
    unfold sumN
    have := sumN_ones h0 h1 h n
    have := h (n + 2)
    omega
/-- One list is part of another. -/
def Less (l r : List Ent) : Prop := (∀ e ∈ l, e ∈ r) ∧ ∀ p : Ent → Bool, l.countP p ≤ r.countP p
theorem Less.refl (l : List Ent) : Less l l := ⟨fun _ h => h, fun _ => Nat.le_refl _⟩
theorem Less.trans {a b c : List Ent} (h : Less a b) (k : Less b c) : Less a c := ⟨fun e he => k.1 e (h.1 e he), fun p => Nat.le_trans (h.2 p) (k.2 p)⟩
theorem Less.nil (l : List Ent) : Less [] l := ⟨fun _ h => (by cases h), fun _ => Nat.zero_le _⟩
theorem Less.perm {a b : List Ent} {e : Ent} (h : b.Perm (e :: a)) : Less a b := ⟨fun x hx => h.mem_iff.2 (List.mem_cons_of_mem _ hx), fun p => by
  rw [h.countP_eq p, List.countP_cons]; omega⟩
structure NmX (nm : List UInt8) : Prop extends NmOk nm where
  ne1 : nm ≠ [46]
  ne2 : nm ≠ [46, 46]
section
variable {M : List ND}
theorem VT.nmx (h : VT M 0) {d : Nat} {e : Ent} (he : e ∈ RM M d) : NmX e.2 := by
  have hE := (h.vp.ent d e he).2.2
  exact ⟨h.nmok he, hE.2.1, hE.2.2.1⟩
theorem last_one {d : Nat} {nm : List UInt8} (h : NmX nm) (h0 : (lastM M (d : Int) nm).2.2 = 0) : lastM M (d : Int) nm = ((d : Int), nm, 0) := by
  have hd1 : nm ≠ [46] := h.ne1
  have hd2 : nm ≠ [46, 46] := h.ne2
  have hb : begD (d : Int) nm = d := by
    unfold begD
    rw [if_neg (by have := head_of (r := []) h.toNmOk; rwa [List.append_nil] at this), Int.toNat_natCast]
  unfold lastM at h0 ⊢
  by_cases hr : refM M (d : Int) nm ≠ 0
  · rw [if_pos hr] at h0
    exact absurd h0 hr
  · rw [if_neg hr] at h0 ⊢
    rw [names_one h.toNmOk] at h0 ⊢
    simp only [List.getLast?_singleton, List.dropLast_singleton] at h0 ⊢
    have hw : walkM M (begD (d : Int) nm) [] = ((d : Int), 0) := by
      rw [hb]; unfold walkM; rfl
    rw [hw, if_neg (fun hc => hc.elim hd1 hd2), if_neg (fun hc : ¬ (0 : Int) = 0 => hc rfl)] at h0 ⊢
    by_cases ht : (nd M ((d : Nat) : Int).toNat).typ ≠ 1
    · rw [if_pos ht] at h0
      exact absurd h0 (by decide)
    · rw [if_neg ht]
theorem VT.last_ent (h : VT M 0) {d : Nat} {e : Ent} (he : e ∈ RM M d) : (lastM M (d : Int) e.2).2.2 = 0 := by
  have hnm := h.nmx he
  have hL := h.vp.live he
  have hl : liveM M d := hL
  have hb : begD (d : Int) e.2 = d := by
    unfold begD
    rw [if_neg (by have := head_of (r := []) hnm.toNmOk; rwa [List.append_nil] at this), Int.toNat_natCast]
  have hr : refM M (d : Int) e.2 = 0 := by
    unfold refM
    rw [there_live h hl, okS_of (by have := hnm.len; omega) hnm.no0]; rfl
  unfold lastM
  rw [if_neg (by rw [hr]; decide), names_one hnm.toNmOk]
  simp only [List.getLast?_singleton, List.dropLast_singleton]
  have hw : walkM M (begD (d : Int) e.2) [] = ((d : Int), 0) := by
    rw [hb]; unfold walkM; rfl
  rw [if_neg (fun hc => hc.elim hnm.ne1 hnm.ne2), hw, if_neg (fun hc : ¬ (0 : Int) = 0 => hc rfl), if_neg (by rw [Int.toNat_natCast]; exact fun hn => hn hl.1)]
theorem unlD_nd {n d k x : Nat} (hM : M.length = 200) (hd : d < 200) (hx : x < 200) (hne : d ≠ x) (hdir : (nd M x).typ ≠ 1 → (nd M x).dir = []) :
    (∀ j, j ≠ d → j ≠ x → nd (unlD M n d k x).1 j = nd M j) ∧ (nd (unlD M n d k x).1 d).dir = (nd M d).dir.set k (0, []) ∧ (nd (unlD M n d k x).1 d).typ = (nd M d).typ ∧ ((nd (unlD M n d k x).1 x).typ = (nd M x).typ ∨ (nd (unlD M n d k x).1 x).typ = 0) ∧ (nd (unlD M n d k x).1 x).dir = [] := by
  have lt : ∀ {M' : List ND} {n' : Nat}, M'.length = 200 → (∀ j, j ≠ x → nd (letM M' n' x).1 j = nd M' j) ∧ (nd (letM M' n' x).1 x = nd M' x ∨ nd (letM M' n' x).1 x = ndZ) := fun {M' n'} hl => by
    unfold letM
    split
    · exact ⟨fun j hj => md_other (Ne.symm hj), .inr (md_self (by omega))⟩
    · exact ⟨fun _ _ => rfl, .inl rfl⟩
  have gen : ∀ {A B : ND} {n' : Nat}, A.dir = (nd M d).dir.set k (0, []) → A.typ = (nd M d).typ → B.typ = (nd M x).typ → B.dir = [] →
      (∀ j, j ≠ d → j ≠ x → nd (letM ((M.set d A).set x B) n' x).1 j = nd M j) ∧ (nd (letM ((M.set d A).set x B) n' x).1 d).dir = (nd M d).dir.set k (0, []) ∧ (nd (letM ((M.set d A).set x B) n' x).1 d).typ = (nd M d).typ ∧ ((nd (letM ((M.set d A).set x B) n' x).1 x).typ = (nd M x).typ ∨ (nd (letM ((M.set d A).set x B) n' x).1 x).typ = 0) ∧ (nd (letM ((M.set d A).set x B) n' x).1 x).dir = [] := fun {A B n'} a1 a2 b1 b2 => by
    obtain ⟨l1, l2⟩ := lt (M' := (M.set d A).set x B) (n' := n') (by rw [List.length_set, List.length_set]; exact hM)
    have g : ∀ j, nd ((M.set d A).set x B) j = if j = x then B else if j = d then A else nd M j := fun j => nd_two (by omega) (by omega)
    refine ⟨fun j h1 h2 => by rw [l1 j h2, g, if_neg h2, if_neg h1], ?_, ?_, ?_, ?_⟩
    · rw [l1 d hne, g, if_neg hne, if_pos rfl]; exact a1
    · rw [l1 d hne, g, if_neg hne, if_pos rfl]; exact a2
    · rcases l2 with l2 | l2
      · rw [l2, g, if_pos rfl]; exact .inl b1
      · rw [l2]; exact .inr rfl
    · rcases l2 with l2 | l2
      · rw [l2, g, if_pos rfl]; exact b2
      · rw [l2]; rfl
  unfold unlD
  by_cases ht : (nd M x).typ = 1
  · rw [if_pos ht]
    exact gen rfl rfl rfl rfl
  · rw [if_neg ht]
    exact gen rfl rfl rfl (hdir ht)
/-- What taking a name away leaves. -/
theorem VT.unl_step (h : VT M 0) (n : Nat) {d : Nat} {nm : List UInt8} (hnm : NmX nm) : (∀ j, Less (RM (unlinkM M n (d : Int) nm).1.1 j) (RM M j)) ∧ (∀ j, tyM (unlinkM M n (d : Int) nm).1.1 j = tyM M j ∨ tyM (unlinkM M n (d : Int) nm).1.1 j = 0) ∧
    (∀ e ∈ RM (unlinkM M n (d : Int) nm).1.1 d, e.2 = nm → tyM M e.1.toNat = 1 ∧ RM M e.1.toNat ≠ []) := by
  by_cases h0 : (lastM M (d : Int) nm).2.2 = 0
  · have hl := last_one hnm h0
    obtain ⟨d0, d1, dt, dm, n1, n2⟩ := lastM_ok h.ok h0
    unfold unlinkM
    rw [hl] at dt ⊢
    have dt : (nd M ((d : Nat) : Int).toNat).typ = 1 := dt
    rw [Int.toNat_natCast] at dt
    simp only [Int.toNat_natCast]
    rw [if_neg (by decide)]
    cases hk : (nd M d).dir.findIdx? (isEn nm) with
    | none =>
      refine ⟨fun j => Less.refl _, fun j => .inl rfl, fun e he hen => ?_⟩
      have he : e ∈ RM M d := he
      obtain ⟨k, h1, h2⟩ := h.lookup he
      rw [hen, hk] at h1
      cases h1
    | some k =>
      obtain ⟨x, hx, hm, hk2, hx2, hx200, hxt, hxl, hxd, hdl⟩ := h.entry dt hk hnm.ne1 hnm.ne2
      have ex : ((nd M d).dir.getD k (0, [])).1.toNat = x := by rw [List.getD_eq_getElem?_getD, hx]; exact Int.toNat_natCast x
      simp only [ex]
      by_cases hf : fullM (nd M x) = true
      · rw [if_pos hf]
        refine ⟨fun j => Less.refl _, fun j => .inl rfl, fun e he hen => ?_⟩
        have he : e ∈ RM M d := he
        have ee : e = ((x : Int), nm) := nodup_map_inj (h.vp.uniq d) he hm hen
        rw [ee]
        show tyM M ((x : Int)).toNat = 1 ∧ RM M ((x : Int)).toNat ≠ []
        rw [Int.toNat_natCast]
        unfold fullM at hf
        rw [Bool.and_eq_true, decide_eq_true_eq, List.any_eq_true] at hf
        obtain ⟨y, hy, hho⟩ := hf.2
        exact ⟨hf.1, fun hn => by
          have : y ∈ RM M x := List.mem_filter.2 ⟨hy, hho⟩
          rw [hn] at this; cases this⟩
      · rw [if_neg hf]
        have hdl := h.lt200 (d := d) (by rw [dt]; decide)
        have hne : d ≠ x := fun e => by
          by_cases ht : (nd M x).typ = 1
          · exact hxd ht e.symm
          · exact ht (by rw [← e]; exact dt)
        obtain ⟨g1, g2, g3, g4, g5⟩ := unlD_nd (M := M) (n := n) (k := k) h.ok.1 hdl hx200 hne (h.ok.2 x).dir
        have hperm : (RM M d).Perm (((x : Int), nm) :: RM (unlD M n d k x).1 d) := by
          have := hole_perm (M := M) hx hk2 (by show (x : Int) ≠ 0; omega)
          unfold RM at this ⊢
          rw [g2]
          exact this
        refine ⟨fun j => ?_, fun j => ?_, fun e he hen => ?_⟩
        · show Less (RM (unlD M n d k x).1 j) _
          by_cases e2 : j = x
          · subst e2
            have : RM (unlD M n d k j).1 j = [] := by unfold RM; rw [g5]; rfl
            rw [this]
            exact Less.nil _
          · by_cases e1 : j = d
            · subst e1
              exact Less.perm hperm
            · rw [RM_of (M := M) (by rw [g1 j e1 e2])]
              exact Less.refl _
        · show tyM (unlD M n d k x).1 j = _ ∨ tyM (unlD M n d k x).1 j = 0
          by_cases e2 : j = x
          · subst e2; exact g4
          · by_cases e1 : j = d
            · subst e1; exact .inl g3
            · unfold tyM
              rw [g1 j e1 e2]; exact .inl rfl
        · exfalso
          have he : e ∈ RM (unlD M n d k x).1 d := he
          have hu := (hperm.map Prod.snd).nodup_iff.1 (h.vp.uniq d)
          rw [List.map_cons, List.nodup_cons] at hu
          exact hu.1 (List.mem_map.2 ⟨e, he, hen⟩)
  · have e : unlinkM M n (d : Int) nm = ((M, n), (lastM M (d : Int) nm).2.2) := by
      unfold unlinkM
      rw [if_pos h0]
    rw [e]
    refine ⟨fun j => Less.refl _, fun j => .inl rfl, fun e' he hen => ?_⟩
    have he : e' ∈ RM M d := he
    exact absurd (by rw [← hen]; exact h.last_ent he) h0
/-! ### A round -/
def NoF (M : List ND) : Prop := ∀ d e, e ∈ RM M d → tyM M e.1.toNat = 1
def tM (M : List ND) : Nat := sumN (fun j => cntN (RM M) j) 200
structure Rnd (M0 M : List ND) (d k : Nat) : Prop where
  less : ∀ j, Less (RM M j) (RM M0 j)
  gone : ∀ d' k' e, (d' < d ∨ (d' = d ∧ k' < k)) → (RM M0 d')[k']? = some e → e ∈ RM M d' → tyM M e.1.toNat = 1 ∧ RM M0 e.1.toNat ≠ []
theorem Rnd.step {M0 M' : List ND} {d k n : Nat} {e : Ent} (h : Rnd M0 M d k) (vt : VT M 0) (he : (RM M0 d)[k]? = some e) (hnm : NmX e.2) (hM : M' = (unlinkM M n (d : Int) e.2).1.1) (vt' : VT M' 0) : Rnd M0 M' d (k + 1) := by
  subst hM
  obtain ⟨s1, s2, s3⟩ := vt.unl_step n (d := d) hnm
  refine ⟨fun j => (s1 j).trans (h.less j), fun d' k' e' hk he' hm => ?_⟩
  have hty : tyM M e'.1.toNat = 1 → tyM (unlinkM M n (d : Int) e.2).1.1 e'.1.toNat = 1 := fun ht => by
    rcases s2 e'.1.toNat with h1 | h1
    · rw [h1]; exact ht
    · exact absurd h1 (vt'.vp.ent d' e' hm).2.1
  by_cases hc : d' < d ∨ (d' = d ∧ k' < k)
  · obtain ⟨g1, g2⟩ := h.gone d' k' e' hc he' ((s1 d').1 e' hm)
    exact ⟨hty g1, g2⟩
  · have hd : d' = d := by omega
    have hk' : k' = k := by omega
    subst hd
    subst hk'
    rw [he] at he'
    cases he'
    obtain ⟨g1, g2⟩ := s3 e hm rfl
    exact ⟨hty g1, fun hn => g2 (by
      have := (h.less e.1.toNat).1
      rw [hn] at this
      exact List.eq_nil_iff_forall_not_mem.2 fun a ha => by have := this a ha; cases this)⟩
theorem Rnd.next {M0 : List ND} {d k : Nat} (h : Rnd M0 M d k) (hk : (RM M0 d).length ≤ k) : Rnd M0 M (d + 1) 0 :=
  ⟨h.less, fun d' k' e hc he hm => h.gone d' k' e (by
    rcases Nat.lt_or_ge d' d with h1 | h1
    · exact .inl h1
    · have := (List.getElem?_eq_some_iff.1 he).1
      have hd : d' = d := by omega
      subst hd
      exact .inr ⟨rfl, by omega⟩) he hm⟩
theorem Rnd.refl (M : List ND) (vt : VT M 0) : Rnd M M 1 0 := ⟨fun _ => Less.refl _, fun d' k' e hc he _ => by
  have : d' = 0 := by omega
  subst this
  rw [vt.vp.none 0 (.inl (by rw [vt.vp.z]; decide))] at he
  cases he⟩
theorem Rnd.fin {M0 : List ND} (h : Rnd M0 M 200 0) (vt : VT M 0) : ∀ d e, e ∈ RM M d → tyM M e.1.toNat = 1 ∧ RM M0 e.1.toNat ≠ [] := fun d e he => by
  obtain ⟨k, hk⟩ := List.mem_iff_getElem?.1 ((h.less d).1 e he)
  exact h.gone d k e (.inl (vt.vp.lt he)) hk he
theorem tM_le {M0 : List ND} (h : ∀ j, Less (RM M j) (RM M0 j)) (j : Nat) : cntN (RM M) j ≤ cntN (RM M0) j := sumN_mono (fun i => (h i).2 (isI j)) 200
theorem tM_198 (vt : VT M 0) (hn : NoF M) : tM M ≤ 198 := by
  refine sumN_ones (f := fun j => cntN (RM M) j) (vt.vp.cnt_ty0 vt.vp.z) vt.vp.cnt_root (fun j => ?_) 198
  show cntN (RM M) j ≤ 1
  by_cases ht : tyM M j = 1
  · by_cases h1 : j = 1
    · subst h1
      rw [vt.vp.cnt_root]; decide
    · rw [vt.vp.one j ht h1]
      split <;> decide
  · rcases Nat.eq_zero_or_pos (cntN (RM M) j) with h0 | h0
    · omega
    · obtain ⟨i, hi, hp⟩ := sumN_pos h0
      obtain ⟨e, he, hI⟩ := List.countP_pos_iff.1 hp
      have := hn i e he
      rw [isI_eq.1 hI, Int.toNat_natCast] at this
      exact absurd this ht
theorem leaf {rk : Nat → Nat} (hn : NoF M) (vt : VT M 0) (hr : ∀ i e, e ∈ RM M i → tyM M e.1.toNat = 1 → rk i < rk e.1.toNat) : ∀ (k d : Nat) (e : Ent), e ∈ RM M d → sumN rk 200 ≤ rk e.1.toNat + k → ∃ d' e', e' ∈ RM M d' ∧ RM M e'.1.toNat = []
  | k, d, e, he, hk => by
    cases hR : RM M e.1.toNat with
    | nil => exact ⟨d, e, he, hR⟩
    | cons e2 r =>
      have he2 : e2 ∈ RM M e.1.toNat := by rw [hR]; exact List.mem_cons_self ..
      have h1 := hr _ e2 he2 (hn _ e2 he2)
      have h2 : rk e2.1.toNat ≤ sumN rk 200 := sumN_le (by have := (vt.vp.ent _ e2 he2).1; omega)
      match k, hk with
      | 0, hk => omega
      | k + 1, hk => exact leaf hn vt hr k _ e2 he2 (by omega)
theorem tM_less {M0 : List ND} (h : Rnd M0 M 200 0) (vt0 : VT M0 0) (vt : VT M 0) (hn : NoF M0) {d : Nat} {e : Ent} (he : e ∈ RM M0 d) : tM M < tM M0 := by
  obtain ⟨rk, hrk⟩ := vt0.vp.rank
  obtain ⟨d', e', he', hl⟩ := leaf hn vt0 hrk (sumN rk 200) d e he (by omega)
  have hE := (vt0.vp.ent d' e' he').1
  refine sumN_lt (f := fun j => cntN (RM M) j) (g := fun j => cntN (RM M0) j) (d := e'.1.toNat) (tM_le h.less) ?_ (by omega)
  show cntN (RM M) e'.1.toNat < cntN (RM M0) e'.1.toNat
  have h1 := vt0.vp.cnt_pos he'
  have h2 : cntN (RM M) e'.1.toNat = 0 := by
    rcases Nat.eq_zero_or_pos (cntN (RM M) e'.1.toNat) with h0 | h0
    · exact h0
    · obtain ⟨i, hi, hp⟩ := sumN_pos h0
      obtain ⟨y, hy, hI⟩ := List.countP_pos_iff.1 hp
      have := (h.fin vt i y hy).2
      rw [isI_eq.1 hI, Int.toNat_natCast] at this
      exact absurd hl this
  omega
theorem tM_0 (vt : VT M 0) (h : tM M = 0) (d : Nat) : RM M d = [] := List.eq_nil_iff_forall_not_mem.2 fun e he => by
  have h1 := vt.vp.cnt_pos he
  have hE := (vt.vp.ent d e he).1
  have := sumN_zero (f := fun j => cntN (RM M) j) h e.1.toNat (by omega)
  have this : cntN (RM M) e.1.toNat = 0 := this
  omega
theorem tM_of (h : ∀ d, RM M d = []) : tM M = 0 := sumN_all0 fun j => sumN_all0 fun i => by rw [h i]; rfl
end
end Go.Proofs.YthkcdkldpbndnaaDoor
