/- One tree, of the inodes as plain data: each call keeps it. No condition. -/
import Derived.Test.YthkcdkldpbndnaaDoorVa
set_option linter.unusedVariables false
namespace Go.Proofs.YthkcdkldpbndnaaDoor
open Go.RowKit Go.Hx
def tyM (M : List ND) (i : Nat) : Int := (nd M i).typ
def lkM (M : List ND) (i : Nat) : Int := (nd M i).links
def rfM (M : List ND) (i : Nat) : Int := (nd M i).refs
/-- A directory's entries behind the first two. -/
def RM (M : List ND) (i : Nat) : List Ent := ((nd M i).dir.drop 2).filter fun e => !isHo e
def upM (M : List ND) (i : Nat) : Nat := ((nd M i).dir.getD 1 (0, [])).1.toNat
structure VT (M : List ND) (x : Nat) : Prop where
  ok : MOk M
  vp : VP (tyM M) (lkM M) (rfM M) (RM M) (upM M) x
  dots : ∀ i, (nd M i).typ = 1 → (nd M i).links ≠ 0 → ∃ r, (nd M i).dir = ((i : Int), [46]) :: (((upM M i : Nat) : Int), [46, 46]) :: r
  dead : ∀ i, (nd M i).typ = 1 → (nd M i).links = 0 → (nd M i).dir = []
  typs : ∀ i, (nd M i).typ = 0 ∨ (nd M i).typ = 1 ∨ (nd M i).typ = 2 ∨ (nd M i).typ = 3
theorem VP.up_ok {ty lk rf : Nat → Int} {R : Nat → List Ent} {up : Nat → Nat} {x : Nat} (h : VP ty lk rf R up x) {d : Nat} (hd : ty d = 1) (hl : lk d ≠ 0) : 1 ≤ up d ∧ up d < 200 ∧ ty (up d) = 1 ∧ lk (up d) ≠ 0 := by
  by_cases h1 : d = 1
  · subst h1
    have := h.root
    rw [this.2.2]
    exact ⟨by omega, by omega, this.1, by omega⟩
  · have hc := h.one d hd h1
    rw [if_neg hl] at hc
    obtain ⟨i, hi, hp⟩ := sumN_pos (f := fun i => (R i).countP (isI d)) (n := 200) (by unfold cntN at hc; omega)
    obtain ⟨e, he, hI⟩ := List.countP_pos_iff.1 hp
    have e1 : e.1.toNat = d := by rw [isI_eq.1 hI, Int.toNat_natCast]
    have h2 := h.par i e he (by rw [e1]; exact hd)
    rw [e1] at h2
    have h3 := h.live he
    rw [h2]
    refine ⟨?_, hi, h3⟩
    rcases Nat.eq_zero_or_pos i with h0 | h0
    · rw [h0, h.z] at h3; exact absurd h3.1 (by decide)
    · exact h0
section
variable {M : List ND} {x : Nat}
theorem filter_set {α : Type} {p : α → Bool} : ∀ {l : List α} {k : Nat} {a b : α}, l[k]? = some a → p a = false → p b = true → ((l.set k b).filter p).Perm (b :: l.filter p)
  | [], _, _, _, h, _, _ => by simp at h
  | y :: r, 0, a, b, h, ha, hb => by
    have h : y = a := by simpa using h
    subst h
    rw [List.set_cons_zero, List.filter_cons, if_pos hb, List.filter_cons, if_neg (by rw [ha]; decide)]
  | y :: r, k + 1, a, b, h, ha, hb => by
    have ih := filter_set (p := p) (l := r) (k := k) (by simpa using h) ha hb
    rw [List.set_cons_succ, List.filter_cons, List.filter_cons]
    split
    · exact (ih.cons y).trans (List.Perm.swap b y _)
    · exact ih
theorem set_back {α : Type} : ∀ {l : List α} {k : Nat} {a b : α}, l[k]? = some a → (l.set k b).set k a = l
  | l, k, a, b, h => by rw [List.set_set, set_same h]
theorem drop2_set {α : Type} {l : List α} {k : Nat} {a : α} (h : 2 ≤ k) : (l.set k a).drop 2 = (l.drop 2).set (k - 2) a := by
  rw [List.drop_set, if_neg (by omega)]
theorem VT.dir0 (h : VT M x) {d : Nat} (hd : (nd M d).typ = 1) (hl : (nd M d).links ≠ 0) {k : Nat} {e : Ent} (he : (nd M d).dir[k]? = some e) (hk : k < 2) : e.1 ≠ 0 ∧ (e.2 = [46] ∨ e.2 = [46, 46]) := by
  obtain ⟨r, hr⟩ := h.dots d hd hl
  have hu := h.vp.up_ok (d := d) hd hl
  have hd0 : d ≠ 0 := fun e => by
    have hz : (nd M 0).typ = 0 := h.vp.z
    rw [e, hz] at hd
    exact absurd hd (by decide)
  rw [hr] at he
  match k, hk with
  | 0, _ =>
    have he : some (((d : Nat) : Int), [46]) = some e := he
    cases he
    exact ⟨by show ((d : Nat) : Int) ≠ 0; omega, .inl rfl⟩
  | 1, _ =>
    have he : some (((upM M d : Nat) : Int), [46, 46]) = some e := he
    cases he
    exact ⟨by show ((upM M d : Nat) : Int) ≠ 0; omega, .inr rfl⟩
theorem VT.live_of (h : VT M x) {d : Nat} (hd : (nd M d).typ = 1) (hne : (nd M d).dir ≠ []) : (nd M d).links ≠ 0 := fun hl => hne (h.dead d hd hl)
theorem mem_RM {d k : Nat} {e : Ent} (he : (nd M d).dir[k]? = some e) (hk : 2 ≤ k) (h0 : e.1 ≠ 0) : e ∈ RM M d := by
  refine List.mem_filter.2 ⟨List.mem_iff_getElem?.2 ⟨k - 2, by rw [List.getElem?_drop, show 2 + (k - 2) = k by omega]; exact he⟩, ?_⟩
  unfold isHo
  rw [decide_eq_false h0]; rfl
theorem findIdx_some {α : Type} {p : α → Bool} {l : List α} {k : Nat} (h : l.findIdx? p = some k) : ∃ a, l[k]? = some a ∧ p a = true := by
  obtain ⟨hk, h1, _⟩ := List.findIdx?_eq_some_iff_getElem.1 h
  exact ⟨_, List.getElem?_eq_getElem hk, h1⟩
/-- An entry is laid down: a directory's entries behind the first two. -/
theorem VT.ent_perm (h : VT M x) {d : Nat} {e : Ent} (hd : (nd M d).typ = 1) (hl : (nd M d).links ≠ 0) (h0 : e.1 ≠ 0) :
    (((entM (nd M d).dir e).drop 2).filter fun e => !isHo e).Perm (e :: RM M d) ∧ ∃ r, entM (nd M d).dir e = ((d : Int), [46]) :: (((upM M d : Nat) : Int), [46, 46]) :: r := by
  have hp : (!isHo e) = true := by unfold isHo; rw [decide_eq_false h0]; rfl
  obtain ⟨r, hr⟩ := h.dots d hd hl
  unfold entM
  cases hf : (nd M d).dir.findIdx? isHo with
  | some k =>
    obtain ⟨a, ha, hho⟩ := findIdx_some hf
    have hk : 2 ≤ k := Classical.byContradiction fun hn => by
      have := (h.dir0 hd hl ha (by omega)).1
      unfold isHo at hho
      rw [decide_eq_true_eq] at hho
      exact this hho
    refine ⟨?_, ?_⟩
    · show (((nd M d).dir.set k e).drop 2).filter _ |>.Perm _
      rw [drop2_set hk]
      exact filter_set (a := a) (by rw [List.getElem?_drop, show 2 + (k - 2) = k by omega]; exact ha) (by rw [hho]; rfl) hp
    · refine ⟨r.set (k - 2) e, ?_⟩
      show (nd M d).dir.set k e = _
      rw [hr]
      obtain ⟨j, rfl⟩ : ∃ j, k = j + 2 := ⟨k - 2, by omega⟩
      rfl
  | none =>
    refine ⟨?_, r ++ [e], ?_⟩
    · show (((nd M d).dir ++ [e]).drop 2).filter _ |>.Perm _
      have e2 : ((nd M d).dir ++ [e]).drop 2 = (nd M d).dir.drop 2 ++ [e] := by rw [hr]; rfl
      rw [e2, List.filter_append, List.filter_cons, if_pos hp]
      exact List.perm_append_comm
    · show (nd M d).dir ++ [e] = _
      rw [hr]; rfl
theorem VT.fresh (h : VT M x) {d : Nat} {nm : List UInt8} (hf : ((nd M d).dir.findIdx? (isEn nm)).isSome = false) : nm ∉ (RM M d).map Prod.snd := fun hc => by
  obtain ⟨e, he, rfl⟩ := List.mem_map.1 hc
  have h1 := List.mem_filter.1 he
  have h2 := List.mem_of_mem_drop h1.1
  cases hq : (nd M d).dir.findIdx? (isEn e.2) with
  | some k => rw [hq] at hf; cases hf
  | none =>
    rw [List.findIdx?_eq_none_iff] at hq
    have h3 := hq e h2
    have h4 := h1.2
    unfold isHo at h4
    unfold isEn at h3
    rw [decide_eq_false_iff_not] at h3
    exact h3 ⟨fun e0 => by rw [decide_eq_true e0] at h4; exact absurd h4 (by decide), rfl⟩
theorem good_of {s nm : List UInt8} (h : nm ∈ names s) (h1 : nm ≠ [46]) (h2 : nm ≠ [46, 46]) : GoodN nm := ⟨(names_ok h).2.2.2, h1, h2, (names_ok h).2.2.1⟩
end
/-! ### The calls -/
section
variable {M : List ND} {x : Nat}
theorem RM_of {M M' : List ND} {i : Nat} (h : (nd M' i).dir = (nd M i).dir) : RM M' i = RM M i := by unfold RM; rw [h]
theorem upM_of {M M' : List ND} {i : Nat} (h : (nd M' i).dir = (nd M i).dir) : upM M' i = upM M i := by unfold upM; rw [h]
/-- Data or references turn. -/
theorem VT.turn (h : VT M 0) {i : Nat} {y : ND} (ok : MOk (M.set i y)) (ht : y.typ = (nd M i).typ) (hl : y.links = (nd M i).links) (hd : y.dir = (nd M i).dir) (hr : y.links = 0 → 1 ≤ (nd M i).refs → y.refs ≠ 0) : VT (M.set i y) 0 := by
  have g : ∀ j, (nd (M.set i y) j).typ = (nd M j).typ ∧ (nd (M.set i y) j).links = (nd M j).links ∧ (nd (M.set i y) j).dir = (nd M j).dir ∧ ((nd (M.set i y) j).refs = (nd M j).refs ∨ (nd (M.set i y) j = y ∧ j = i)) := fun j => by
    rw [md_set]
    split
    · rename_i hc
      rw [← hc.1]
      exact ⟨ht, hl, hd, .inr ⟨rfl, rfl⟩⟩
    · exact ⟨rfl, rfl, rfl, .inl rfl⟩
  have e1 : tyM (M.set i y) = tyM M := funext fun j => (g j).1
  have e2 : lkM (M.set i y) = lkM M := funext fun j => (g j).2.1
  have e3 : RM (M.set i y) = RM M := funext fun j => RM_of (g j).2.2.1
  have e4 : upM (M.set i y) = upM M := funext fun j => upM_of (g j).2.2.1
  refine ⟨ok, ?_, fun j => ?_, fun j => ?_, fun j => ?_⟩
  · rw [e1, e2, e3, e4]
    refine h.vp.refs fun j hj1 hj0 hj hl0 => ?_
    have hh := h.vp.held j hj1 hj0 hj hl0
    rcases (g j).2.2.2 with h' | ⟨h', rfl⟩
    · show 1 ≤ (nd (M.set i y) j).refs
      rw [h']; exact hh
    · show 1 ≤ (nd (M.set j y) j).refs
      have hok := (ok.2 j).refs
      rw [h'] at hok ⊢
      have hl0 : (nd M j).links = 0 := hl0
      have := hr (by rw [hl]; exact hl0) hh
      omega
  · rw [(g j).1, (g j).2.1, (g j).2.2.1, e4]; exact h.dots j
  · rw [(g j).1, (g j).2.1, (g j).2.2.1]; exact h.dead j
  · rw [(g j).1]; exact h.typs j
theorem VT.go (h : VT M x) (hx1 : x ≠ 1) (hx : (nd M x).links = 0) (ok : MOk (M.set x ndZ)) : VT (M.set x ndZ) 0 := by
  have hlen := h.ok.1
  have g : ∀ j, j ≠ x → nd (M.set x ndZ) j = nd M j := fun j hj => md_other (Ne.symm hj)
  have gx : nd (M.set x ndZ) x = ndZ := by
    rw [md_set]
    split
    · rfl
    · rename_i hc
      exact md_out (by
        rcases Nat.lt_or_ge x M.length with h' | h'
        · exact absurd ⟨rfl, h'⟩ hc
        · exact h')
  have hRx : RM M x = [] := h.vp.none x (.inr hx)
  have eR : RM (M.set x ndZ) = RM M := funext fun j => by
    by_cases e : j = x
    · rw [e, hRx]
      unfold RM
      rw [gx]; rfl
    · exact RM_of (by rw [g j e])
  refine ⟨ok, ?_, fun j hj hl => ?_, fun j hj hl => ?_, fun j => ?_⟩
  · rw [eR]
    refine h.vp.go hx1 hx ?_ (fun j hj => ?_) (fun j hj => ?_) (fun j hj => ?_) (fun j hj => ?_)
    · show (nd (M.set x ndZ) x).typ = 0
      rw [gx]; rfl
    · show (nd (M.set x ndZ) j).typ = _
      rw [g j hj]; rfl
    · show (nd (M.set x ndZ) j).links = _
      rw [g j hj]; rfl
    · show (nd (M.set x ndZ) j).refs = _
      rw [g j hj]; rfl
    · exact upM_of (by rw [g j hj])
  · by_cases e : j = x
    · rw [e, gx] at hj; exact absurd hj (by decide)
    · rw [upM_of (M := M) (by rw [g j e])]
      rw [g j e] at hj hl ⊢
      exact h.dots j hj hl
  · by_cases e : j = x
    · rw [e, gx]; rfl
    · rw [g j e] at hj hl ⊢
      exact h.dead j hj hl
  · by_cases e : j = x
    · rw [e, gx]; exact .inl rfl
    · rw [g j e]; exact h.typs j
theorem VT.root_ne (h : VT M x) {i : Nat} (hl : (nd M i).links = 0) : i ≠ 1 := fun e => by
  have h1 : 1 ≤ (nd M 1).links := h.vp.root.2.1
  rw [← e, hl] at h1
  exact absurd h1 (by decide)
theorem VT.let_ (h : VT M x) {n : Nat} (ok : MOk (letM M n x).1) : VT (letM M n x).1 0 := by
  unfold letM at ok ⊢
  by_cases hz : (nd M x).links = 0 ∧ (nd M x).refs = 0
  · rw [if_pos hz] at ok ⊢
    exact h.go (h.root_ne hz.1) hz.1 ok
  · rw [if_neg hz] at ok ⊢
    refine ⟨h.ok, ⟨h.vp.z, h.vp.root, h.vp.none, h.vp.ent, h.vp.uniq, h.vp.file, h.vp.dirl, h.vp.one, h.vp.par, h.vp.rank, fun j hj1 hj0 hj hl => ?_, h.vp.big⟩, h.dots, h.dead, h.typs⟩
    by_cases e : j = x
    · subst e
      have hl : (nd M j).links = 0 := hl
      have := (h.ok.2 j).refs
      show 1 ≤ (nd M j).refs
      omega
    · exact h.vp.held j hj1 e hj hl
theorem VT.hold (h : VT M 0) (i : Int) (ok : MOk (holdM M i).1) : VT (holdM M i).1 0 := by
  unfold holdM at ok ⊢
  split
  · exact h
  · split
    · exact h
    · rename_i h1 h2
      rw [if_neg h1, if_neg h2] at ok
      refine h.turn ok rfl rfl rfl fun _ hr => ?_
      show (nd M i.toNat).refs + 1 ≠ 0
      omega
theorem VT.trunc (h : VT M 0) (n : Nat) (i : Int) (ok : MOk (truncM M n i).1.1) : VT (truncM M n i).1.1 0 := by
  unfold truncM at ok ⊢
  split
  · exact h
  · split
    · exact h
    · rename_i h1 h2
      rw [if_neg h1, if_neg h2] at ok
      exact h.turn ok rfl rfl rfl fun _ hr => by
        show (nd M i.toNat).refs ≠ 0
        omega
theorem VT.write (h : VT M 0) (n : Nat) (i o : Int) (xs : List UInt8) (ok : MOk (writeM M n i o xs).1.1) : VT (writeM M n i o xs).1.1 0 := by
  unfold writeM at ok ⊢
  split
  · exact h
  · rename_i h1
    rw [if_neg h1] at ok
    exact h.turn ok rfl rfl rfl fun _ hr => by
      show (nd M i.toNat).refs ≠ 0
      omega
end
end Go.Proofs.YthkcdkldpbndnaaDoor
