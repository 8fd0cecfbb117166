/- One tree, of the inodes as plain data: Make, Link, Unlink, Drop keep it; a new tree is one. No condition. -/
import Derived.Test.YthkcdkldpbndnaaDoorVb
import Derived.Test.YthkcdkldpbndnaaDoorXa
set_option linter.unusedVariables false
namespace Go.Proofs.YthkcdkldpbndnaaDoor
open Go.RowKit Go.Hx
theorem nd_two {M : List ND} {a b j : Nat} {A B : ND} (ha : a < M.length) (hb : b < M.length) : nd ((M.set a A).set b B) j = if j = b then B else if j = a then A else nd M j := by
  by_cases h1 : j = b
  · subst h1
    rw [if_pos rfl, md_self (by rw [List.length_set]; exact hb)]
  · rw [if_neg h1, md_other (Ne.symm h1)]
    by_cases h2 : j = a
    · subst h2
      rw [if_pos rfl, md_self ha]
    · rw [if_neg h2, md_other (Ne.symm h2)]
section
variable {M : List ND}
theorem VT.ne0 (h : VT M 0) {i : Nat} (ht : (nd M i).typ ≠ 0) : i ≠ 0 := fun e => ht (by rw [e]; exact h.vp.z)
theorem newND_typ {i d : Nat} {T ma mi : Int} : (newND i d T ma mi).typ = T ∧ (newND i d T ma mi).links = 1 := by
  unfold newND
  by_cases h1 : T = 1
  · rw [if_pos h1]; exact ⟨h1.symm, rfl⟩
  · rw [if_neg h1]
    by_cases h3 : T = 3
    · rw [if_pos h3]; exact ⟨h3.symm, rfl⟩
    · rw [if_neg h3]; exact ⟨rfl, rfl⟩
theorem newND_dir {i d : Nat} {T ma mi : Int} : (newND i d T ma mi).dir = if T = 1 then [((i : Int), [46]), ((d : Int), [46, 46])] else [] := by
  unfold newND
  by_cases h1 : T = 1
  · rw [if_pos h1, if_pos h1]
  · rw [if_neg h1, if_neg h1]
    split <;> rfl
theorem VT.makeD (h : VT M 0) {i d : Nat} {nm : List UInt8} {T ma mi : Int} (hT : T = 1 ∨ T = 2 ∨ T = 3) (hd : (nd M d).typ = 1) (hl : (nd M d).links ≠ 0) (hf : ((nd M d).dir.findIdx? (isEn nm)).isSome = false) (hg : GoodN nm) (hi : 1 ≤ i ∧ i < 200) (h0 : (nd M i).typ = 0)
    (ok : MOk (makeD M i d nm T ma mi)) : VT (makeD M i d nm T ma mi) 0 := by
  have hlen := h.ok.1
  have hid : i ≠ d := fun e => by rw [e, hd] at h0; exact absurd h0 (by decide)
  have hdl : d < 200 := Classical.byContradiction fun hn => by
    have := h.vp.big d (by omega)
    have this : (nd M d).typ = 0 := this
    rw [hd] at this
    exact absurd this (by decide)
  have hi1 : i ≠ 1 := fun e => by
    have := h.vp.root.1
    have this : (nd M 1).typ = 1 := this
    rw [← e, h0] at this
    exact absurd this (by decide)
  obtain ⟨hp, r, hr⟩ := h.ent_perm (e := ((i : Int), nm)) hd hl (by show (i : Int) ≠ 0; omega)
  have g : ∀ j, nd (Go.Proofs.YthkcdkldpbndnaaDoor.makeD M i d nm T ma mi) j = if j = d then { nd M d with links := (nd M d).links + (if T = 1 then 1 else 0), dir := entM (nd M d).dir ((i : Int), nm) } else if j = i then newND i d T ma mi else nd M j := fun j => by
    unfold Go.Proofs.YthkcdkldpbndnaaDoor.makeD
    exact nd_two (by omega) (by omega)
  generalize Go.Proofs.YthkcdkldpbndnaaDoor.makeD M i d nm T ma mi = M' at *
  have gd : nd M' d = { nd M d with links := (nd M d).links + (if T = 1 then 1 else 0), dir := entM (nd M d).dir ((i : Int), nm) } := by rw [g, if_pos rfl]
  have gi : nd M' i = newND i d T ma mi := by rw [g, if_neg hid, if_pos rfl]
  have go : ∀ j, j ≠ d → j ≠ i → nd M' j = nd M j := fun j h1 h2 => by rw [g, if_neg h1, if_neg h2]
  have hupd : upM M' d = upM M d := by
    unfold upM
    rw [gd]
    show ((entM (nd M d).dir ((i : Int), nm)).getD 1 (0, [])).1.toNat = _
    rw [hr]
    obtain ⟨r0, hr0⟩ := h.dots d hd hl
    rw [hr0]
    show (((upM M d : Nat) : Int)).toNat = (((upM M d : Nat) : Int)).toNat
    rfl
  have hupi : T = 1 → upM M' i = d := fun h1 => by
    unfold upM
    rw [gi, newND_dir, if_pos h1]
    exact Int.toNat_natCast d
  refine ⟨ok, ?_, fun j hj hlj => ?_, fun j hj hlj => ?_, fun j => ?_⟩
  · refine h.vp.enter (i := i) (d := d) (nm := nm) (T := T) ⟨hd, hl⟩ ⟨by omega, hi.2⟩ (by omega) (.inl h0) (fun _ => h0) hg (h.fresh hf) (fun j => ?_) (fun j hj => ?_) ?_ (fun j hj => ?_) (fun j h1 h2 => RM_of (by rw [go j h1 h2])) ?_ (fun _ => ?_) (fun j hj => ?_) hupi
    · show (nd M' j).typ = _
      by_cases e : j = i
      · rw [e, gi, newND_typ.1, if_pos rfl]
      · rw [if_neg e]
        by_cases e2 : j = d
        · rw [e2, gd]; rfl
        · rw [go j e2 e]; rfl
    · show (nd M' j).links = (nd M j).links + _
      by_cases e2 : j = d
      · subst e2
        rw [gd]
        show (nd M j).links + _ = _
        by_cases h1 : T = 1
        · rw [if_pos h1, if_pos ⟨rfl, h1⟩]
        · rw [if_neg h1, if_neg fun hc => h1 hc.2]
      · rw [go j e2 hj, if_neg fun hc => e2 hc.1, Int.add_zero]
    · show (nd M' i).links = (if (nd M i).typ = 0 then 0 else (nd M i).links) + 1
      rw [gi, newND_typ.2, if_pos h0]; rfl
    · show (nd M' j).refs = (nd M j).refs
      by_cases e2 : j = d
      · subst e2; rw [gd]
      · rw [go j e2 hj]
    · have : RM M' d = ((entM (nd M d).dir ((i : Int), nm)).drop 2).filter fun e => !isHo e := by unfold RM; rw [gd]
      rw [this]
      exact hp
    · unfold RM
      rw [gi, newND_dir]
      split <;> rfl
    · by_cases e2 : j = d
      · rw [e2]; exact hupd
      · exact upM_of (by rw [go j e2 hj])
  · by_cases e2 : j = d
    · subst e2
      rw [hupd, gd]
      exact ⟨r, hr⟩
    · by_cases e : j = i
      · subst e
        rw [gi, newND_typ.1] at hj
        rw [hupi hj, gi, newND_dir, if_pos hj]
        exact ⟨[], rfl⟩
      · rw [upM_of (M := M) (by rw [go j e2 e])]
        rw [go j e2 e] at hj hlj ⊢
        exact h.dots j hj hlj
  · by_cases e2 : j = d
    · subst e2
      rw [gd] at hlj
      have hlj : (nd M j).links + (if T = 1 then 1 else 0) = 0 := hlj
      have := (h.ok.2 j).links
      exfalso
      split at hlj <;> omega
    · by_cases e : j = i
      · subst e
        rw [gi, newND_typ.2] at hlj
        exact absurd hlj (by decide)
      · rw [go j e2 e] at hj hlj ⊢
        exact h.dead j hj hlj
  · by_cases e2 : j = d
    · subst e2
      rw [gd]
      exact .inr (.inl hd)
    · by_cases e : j = i
      · subst e
        rw [gi, newND_typ.1]
        exact .inr hT
      · rw [go j e2 e]
        exact h.typs j
theorem VT.linkD (h : VT M 0) {i d : Nat} {nm : List UInt8} (hit : (nd M i).typ ≠ 0 ∧ (nd M i).typ ≠ 1) (hil : i < 200) (hd : (nd M d).typ = 1) (hl : (nd M d).links ≠ 0) (hf : ((nd M d).dir.findIdx? (isEn nm)).isSome = false) (hg : GoodN nm)
    (ok : MOk (linkD M i d nm)) : VT (linkD M i d nm) 0 := by
  have hlen := h.ok.1
  have hid : i ≠ d := fun e => by rw [e] at hit; exact hit.2 hd
  have hdl : d < 200 := Classical.byContradiction fun hn => by
    have := h.vp.big d (by omega)
    have this : (nd M d).typ = 0 := this
    rw [hd] at this
    exact absurd this (by decide)
  have hi0 := h.ne0 hit.1
  have hi1 : i ≠ 1 := fun e => by
    have := h.vp.root.1
    have this : (nd M 1).typ = 1 := this
    rw [← e] at this
    exact hit.2 this
  obtain ⟨hp, r, hr⟩ := h.ent_perm (e := ((i : Int), nm)) hd hl (by show (i : Int) ≠ 0; omega)
  have g : ∀ j, nd (Go.Proofs.YthkcdkldpbndnaaDoor.linkD M i d nm) j = if j = i then { nd M i with links := (nd M i).links + 1 } else if j = d then { nd M d with dir := entM (nd M d).dir ((i : Int), nm) } else nd M j := fun j => by
    unfold Go.Proofs.YthkcdkldpbndnaaDoor.linkD
    exact nd_two (by omega) (by omega)
  generalize Go.Proofs.YthkcdkldpbndnaaDoor.linkD M i d nm = M' at *
  have gi : nd M' i = { nd M i with links := (nd M i).links + 1 } := by rw [g, if_pos rfl]
  have gd : nd M' d = { nd M d with dir := entM (nd M d).dir ((i : Int), nm) } := by rw [g, if_neg (Ne.symm hid), if_pos rfl]
  have go : ∀ j, j ≠ d → j ≠ i → nd M' j = nd M j := fun j h1 h2 => by rw [g, if_neg h2, if_neg h1]
  have hupd : upM M' d = upM M d := by
    unfold upM
    rw [gd]
    show ((entM (nd M d).dir ((i : Int), nm)).getD 1 (0, [])).1.toNat = _
    rw [hr]
    obtain ⟨r0, hr0⟩ := h.dots d hd hl
    rw [hr0]
    show (((upM M d : Nat) : Int)).toNat = (((upM M d : Nat) : Int)).toNat
    rfl
  have hRi : RM M' i = [] := by
    unfold RM
    rw [gi]
    show (((nd M i).dir).drop 2).filter _ = []
    rw [(h.ok.2 i).dir hit.2]; rfl
  refine ⟨ok, ?_, fun j hj hlj => ?_, fun j hj hlj => ?_, fun j => ?_⟩
  · refine h.vp.enter (i := i) (d := d) (nm := nm) (T := (nd M i).typ) ⟨hd, hl⟩ ⟨by omega, hil⟩ hit.1 (.inr ⟨hit.2, rfl⟩) (fun e => absurd e hit.2) hg (h.fresh hf) (fun j => ?_) (fun j hj => ?_) ?_ (fun j hj => ?_) (fun j h1 h2 => RM_of (by rw [go j h1 h2])) ?_ (fun _ => hRi) (fun j hj => ?_) (fun e => absurd e hit.2)
    · show (nd M' j).typ = _
      by_cases e : j = i
      · rw [e, gi, if_pos rfl]
      · rw [if_neg e]
        by_cases e2 : j = d
        · rw [e2, gd]; rfl
        · rw [go j e2 e]; rfl
    · show (nd M' j).links = (nd M j).links + _
      rw [if_neg fun hc => hit.2 hc.2, Int.add_zero]
      by_cases e2 : j = d
      · subst e2; rw [gd]
      · rw [go j e2 hj]
    · show (nd M' i).links = (if (nd M i).typ = 0 then 0 else (nd M i).links) + 1
      rw [gi, if_neg hit.1]
    · show (nd M' j).refs = (nd M j).refs
      by_cases e2 : j = d
      · subst e2; rw [gd]
      · rw [go j e2 hj]
    · have : RM M' d = ((entM (nd M d).dir ((i : Int), nm)).drop 2).filter fun e => !isHo e := by unfold RM; rw [gd]
      rw [this]
      exact hp
    · by_cases e2 : j = d
      · rw [e2]; exact hupd
      · exact upM_of (by rw [go j e2 hj])
  · by_cases e2 : j = d
    · subst e2
      rw [hupd, gd]
      exact ⟨r, hr⟩
    · by_cases e : j = i
      · subst e
        rw [gi] at hj
        exact absurd hj hit.2
      · rw [upM_of (M := M) (by rw [go j e2 e])]
        rw [go j e2 e] at hj hlj ⊢
        exact h.dots j hj hlj
  · by_cases e2 : j = d
    · subst e2
      rw [gd] at hlj
      exact absurd hlj hl
    · by_cases e : j = i
      · subst e
        rw [gi] at hj
        exact absurd hj hit.2
      · rw [go j e2 e] at hj hlj ⊢
        exact h.dead j hj hlj
  · by_cases e : j = i
    · subst e
      rw [gi]; exact h.typs j
    · by_cases e2 : j = d
      · subst e2
        rw [gd]; exact .inr (.inl hd)
      · rw [go j e2 e]
        exact h.typs j
/-- What an unlinked entry names. -/
theorem VT.entry (h : VT M 0) {d k : Nat} {nm : List UInt8} (hd : (nd M d).typ = 1) (hk : (nd M d).dir.findIdx? (isEn nm) = some k) (h1 : nm ≠ [46]) (h2 : nm ≠ [46, 46]) :
    ∃ x : Nat, (nd M d).dir[k]? = some ((x : Int), nm) ∧ ((x : Int), nm) ∈ RM M d ∧ 2 ≤ k ∧ 2 ≤ x ∧ x < 200 ∧ (nd M x).typ ≠ 0 ∧ 1 ≤ (nd M x).links ∧ ((nd M x).typ = 1 → x ≠ d) ∧ 1 ≤ (nd M d).links := by
  obtain ⟨e, he, hI⟩ := findIdx_some hk
  unfold isEn at hI
  rw [decide_eq_true_eq] at hI
  have hne : (nd M d).dir ≠ [] := fun e' => by rw [e'] at he; simp at he
  have hl := h.live_of hd hne
  have hk2 : 2 ≤ k := Classical.byContradiction fun hn => by
    rcases (h.dir0 hd hl he (by omega)).2 with e' | e'
    · exact h1 (by rw [← hI.2]; exact e')
    · exact h2 (by rw [← hI.2]; exact e')
  have hm := mem_RM he hk2 hI.1
  have hE := h.vp.ent d e hm
  have hN := h.vp.named hm
  obtain ⟨x, hx⟩ : ∃ x : Nat, e.1 = (x : Int) := ⟨e.1.toNat, by omega⟩
  have ee : e = ((x : Int), nm) := Prod.ext hx hI.2
  subst ee
  rw [Int.toNat_natCast] at hE hN
  have := (h.ok.2 d).links
  exact ⟨x, he, hm, hk2, by omega, by omega, hE.2.1, hN.1, hN.2, by omega⟩
theorem hole_perm {d k : Nat} {e : Ent} (he : (nd M d).dir[k]? = some e) (hk : 2 ≤ k) (h0 : e.1 ≠ 0) : (RM M d).Perm (e :: (((nd M d).dir.set k (0, [])).drop 2).filter fun e => !isHo e) := by
  have h1 : ((nd M d).dir.drop 2).set (k - 2) (0, []) = ((nd M d).dir.set k (0, [])).drop 2 := (drop2_set hk).symm
  have hl := (List.getElem?_eq_some_iff.1 he).1
  have h2 : (((nd M d).dir.set k (0, [])).drop 2)[k - 2]? = some (0, []) := by
    rw [List.getElem?_drop, show 2 + (k - 2) = k by omega, List.getElem?_set_self hl]
  have h3 := filter_set (p := fun e : Ent => !isHo e) (b := e) h2 rfl (by unfold isHo; rw [decide_eq_false h0]; rfl)
  have h4 : (((nd M d).dir.set k (0, [])).drop 2).set (k - 2) e = (nd M d).dir.drop 2 := by
    rw [← drop2_set hk, set_back he]
  rw [h4] at h3
  exact h3
theorem VT.unl (h : VT M 0) {n d k x : Nat} {nm : List UInt8} (hd : (nd M d).typ = 1) (hk : (nd M d).dir.findIdx? (isEn nm) = some k) (h1 : nm ≠ [46]) (h2 : nm ≠ [46, 46]) (hx : (nd M d).dir[k]? = some ((x : Int), nm)) (hfull : fullM (nd M x) = false)
    (ok : MOk (unlD M n d k x).1) : VT (unlD M n d k x).1 0 := by
  have hlen := h.ok.1
  obtain ⟨x', hx', hm, hk2, hx2, hx200, hxt, hxl, hxd, hdl⟩ := h.entry hd hk h1 h2
  rw [hx] at hx'
  have e' : (x : Int) = (x' : Int) := congrArg Prod.fst (Option.some.inj hx')
  have e' : x' = x := by omega
  subst e'
  have hdlt := h.vp.lt hm
  have hxd' : x' ≠ d := fun e => by
    by_cases ht : (nd M x').typ = 1
    · exact hxd ht e
    · exact ht (by rw [e]; exact hd)
  have hemp : (nd M x').typ = 1 → RM M x' = [] := fun ht => by
    unfold fullM at hfull
    rw [decide_eq_true ht, Bool.true_and, List.any_eq_false] at hfull
    unfold RM
    rw [List.filter_eq_nil_iff]
    exact hfull
  have hperm := hole_perm (M := M) hx hk2 (by show (x' : Int) ≠ 0; omega)
  obtain ⟨r, hr⟩ := h.dots d hd (by omega)
  have hr' : ∃ r, (nd M d).dir.set k (0, []) = ((d : Int), [46]) :: (((upM M d : Nat) : Int), [46, 46]) :: r := by
    rw [hr]
    obtain ⟨j, rfl⟩ : ∃ j, k = j + 2 := ⟨k - 2, by omega⟩
    exact ⟨_, rfl⟩
  -- ahead of letting it go
  have key : ∀ M' : List ND, MOk M' → nd M' x' = { nd M x' with links := (nd M x').links - 1, dir := if (nd M x').typ = 1 then [] else (nd M x').dir } → nd M' d = { nd M d with dir := (nd M d).dir.set k (0, []), links := (nd M d).links - if (nd M x').typ = 1 then 1 else 0 } → (∀ j, j ≠ d → j ≠ x' → nd M' j = nd M j) → VT M' x' := by
    intro M' ok' gx gd go
    have hupd : upM M' d = upM M d := by
      unfold upM
      rw [gd]
      show (((nd M d).dir.set k (0, [])).getD 1 (0, [])).1.toNat = _
      obtain ⟨r', hr'⟩ := hr'
      rw [hr', hr]
      show (((upM M d : Nat) : Int)).toNat = (((upM M d : Nat) : Int)).toNat
      rfl
    have hlk1 : (nd M x').typ = 1 → (nd M x').links = 1 := fun ht => by
      have := h.vp.dirl x' ht (by show (nd M x').links ≠ 0; omega)
      rw [hemp ht] at this
      have this : lkM M x' = 1 := by simpa using this
      exact this
    have hdl' : ∀ hh : (nd M d).links - (if (nd M x').typ = 1 then 1 else 0) = 0, False := fun hh => by
      have hrd := h.vp.dirl d hd (by show (nd M d).links ≠ 0; omega)
      have hrd : (nd M d).links = 1 + (((RM M d).countP fun e => decide (tyM M e.1.toNat = 1) : Nat) : Int) := hrd
      by_cases ht : (nd M x').typ = 1
      · have : 0 < (RM M d).countP fun e => decide (tyM M e.1.toNat = 1) := List.countP_pos_iff.2 ⟨_, hm, by
          show decide (tyM M ((x' : Int)).toNat = 1) = true
          rw [Int.toNat_natCast]
          exact decide_eq_true ht⟩
        rw [if_pos ht] at hh
        omega
      · rw [if_neg ht] at hh
        omega
    refine ⟨ok', ?_, fun j hj hlj => ?_, fun j hj hlj => ?_, fun j => ?_⟩
    · refine h.vp.leave (d := d) (i := x') (nm := nm) hm hemp (fun j => ?_) (fun j hj => ?_) ?_ (fun j => ?_) (fun j hj => ?_) ?_ (fun j hj => ?_) (fun ht hne => absurd (hlk1 ht) hne)
      · show (nd M' j).typ = (nd M j).typ
        by_cases e : j = x'
        · rw [e, gx]
        · by_cases e2 : j = d
          · rw [e2, gd]
          · rw [go j e2 e]
      · show (nd M' j).links = (nd M j).links - _
        by_cases e2 : j = d
        · subst e2
          rw [gd]
          show (nd M j).links - _ = _
          by_cases ht : (nd M x').typ = 1
          · rw [if_pos ht, if_pos ⟨rfl, ht⟩]
          · rw [if_neg ht, if_neg fun hc => ht hc.2]
        · rw [go j e2 hj, if_neg fun hc => e2 hc.1, Int.sub_zero]
      · show (nd M' x').links = _
        rw [gx]; rfl
      · show (nd M' j).refs = (nd M j).refs
        by_cases e : j = x'
        · rw [e, gx]
        · by_cases e2 : j = d
          · rw [e2, gd]
          · rw [go j e2 e]
      · by_cases e : j = x'
        · subst e
          unfold RM
          rw [gx]
          by_cases ht : (nd M j).typ = 1
          · have h9 := hemp ht
            unfold RM at h9
            rw [h9, if_pos ht]; rfl
          · rw [if_neg ht]
        · exact RM_of (by rw [go j hj e])
      · have : RM M' d = (((nd M d).dir.set k (0, [])).drop 2).filter fun e => !isHo e := by unfold RM; rw [gd]
        rw [this]
        exact hperm
      · by_cases e2 : j = d
        · rw [e2]; exact hupd
        · exact upM_of (by rw [go j e2 hj])
    · by_cases e2 : j = d
      · subst e2
        rw [hupd, gd]
        exact hr'
      · by_cases e : j = x'
        · subst e
          rw [gx] at hj hlj
          have hlj : (nd M j).links - 1 ≠ 0 := hlj
          have := hlk1 hj
          omega
        · rw [upM_of (M := M) (by rw [go j e2 e])]
          rw [go j e2 e] at hj hlj ⊢
          exact h.dots j hj hlj
    · by_cases e2 : j = d
      · subst e2
        rw [gd] at hlj
        exact (hdl' hlj).elim
      · by_cases e : j = x'
        · subst e
          rw [gx] at hj ⊢
          exact if_pos hj
        · rw [go j e2 e] at hj hlj ⊢
          exact h.dead j hj hlj
    · by_cases e : j = x'
      · rw [e, gx]; exact h.typs x'
      · by_cases e2 : j = d
        · rw [e2, gd]; exact h.typs d
        · rw [go j e2 e]
          exact h.typs j
  have okx := h.ok.2 x'
  have okd := h.ok.2 d
  have hszs : ∀ (c : Int), ({ nd M d with dir := (nd M d).dir.set k (0, []), links := c } : ND).size = (nd M d).size := fun c => by
    unfold ND.size
    rw [if_pos hd, if_pos hd]
    show ((nd M d).dir.set k (0, [])).length * 16 = _
    rw [List.length_set]
  have okD : ∀ c : Int, 0 ≤ c ∧ c ≤ 32767 → NdOk { nd M d with dir := (nd M d).dir.set k (0, []), links := c } := fun c hc => ⟨hc, okd.refs, fun hz => by rw [hd] at hz; exact absurd hz (by decide), by rw [hszs]; exact okd.size, fun e he => by
      rcases List.mem_or_eq_of_mem_set he with he | rfl
      · exact okd.ents e he
      · exact hole_ok, fun hn => absurd hd hn, okd.dat⟩
  have hLd := okd.links
  have hLx := okx.links
  unfold unlD at ok ⊢
  by_cases ht : (nd M x').typ = 1
  · rw [if_pos ht] at ok ⊢
    refine (key ((M.set d { nd M d with dir := (nd M d).dir.set k (0, []), links := (nd M d).links - 1 }).set x' { nd M x' with links := (nd M x').links - 1, dir := [] }) ((h.ok.set (okD _ (by omega))).set ⟨by show 0 ≤ (nd M x').links - 1 ∧ (nd M x').links - 1 ≤ 32767; omega, okx.refs, fun hz => absurd hz hxt, ?_, fun e he => (by cases he), fun _ => rfl, okx.dat⟩) ?_ ?_ (fun j h1 h2 => ?_)).let_ ok
    · show (if (nd M x').typ = 1 then ([] : List Ent).length * 16 else _) ≤ 262144
      rw [if_pos ht]; decide
    · rw [nd_two (by omega) (by omega), if_pos rfl, if_pos ht]
    · rw [nd_two (by omega) (by omega), if_neg (Ne.symm hxd'), if_pos rfl, if_pos ht]
    · rw [nd_two (by omega) (by omega), if_neg h2, if_neg h1]
  · rw [if_neg ht] at ok ⊢
    have e0 : ({ nd M d with dir := (nd M d).dir.set k (0, []) } : ND) = { nd M d with dir := (nd M d).dir.set k (0, []), links := (nd M d).links } := rfl
    refine (key ((M.set d { nd M d with dir := (nd M d).dir.set k (0, []) }).set x' { nd M x' with links := (nd M x').links - 1 }) ((h.ok.set (by rw [e0]; exact okD _ hLd)).set ⟨by show 0 ≤ (nd M x').links - 1 ∧ (nd M x').links - 1 ≤ 32767; omega, okx.refs, fun hz => absurd hz hxt, okx.size, okx.ents, okx.dir, okx.dat⟩) ?_ ?_ (fun j h1 h2 => ?_)).let_ ok
    · rw [nd_two (by omega) (by omega), if_pos rfl, if_neg ht]
    · rw [nd_two (by omega) (by omega), if_neg (Ne.symm hxd'), if_pos rfl, if_neg ht, Int.sub_zero]
    · rw [nd_two (by omega) (by omega), if_neg h2, if_neg h1]
end
end Go.Proofs.YthkcdkldpbndnaaDoor
