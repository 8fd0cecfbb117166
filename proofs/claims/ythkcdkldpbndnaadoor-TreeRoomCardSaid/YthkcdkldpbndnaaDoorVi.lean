/- Whatever stands in a tree is found by the path that leads to it, as plain data. No condition. -/
import Derived.Test.YthkcdkldpbndnaaDoorVh
set_option linter.unusedVariables false
namespace Go.Proofs.YthkcdkldpbndnaaDoor
open Go.RowKit Go.Hx Go.WideShapes
theorem str_app (a b : List UInt8) : str a ++ str b = str (a ++ b) := by
  apply ByteArray.ext
  simp [str, ByteArray.data_append]
/-! ### Names of paths -/
theorem pieces_no {c : UInt8} : ∀ {s : List UInt8}, c ∉ s → pieces c s = [s]
  | [], _ => rfl
  | b :: r, h => by
    have hb : (b == c) = false := by
      rw [beq_eq_false_iff_ne]
      rintro rfl
      exact h (List.mem_cons_self ..)
    unfold pieces
    rw [hb, pieces_no fun hc => h (List.mem_cons_of_mem _ hc)]
    rfl
theorem pieces_cut {c : UInt8} : ∀ {a b : List UInt8}, c ∉ a → pieces c (a ++ c :: b) = a :: pieces c b
  | [], b, _ => by
    rw [List.nil_append]
    conv => lhs; unfold pieces
    rw [if_pos (by simp)]
  | x :: r, b, h => by
    have hb : (x == c) = false := by
      rw [beq_eq_false_iff_ne]
      rintro rfl
      exact h (List.mem_cons_self ..)
    rw [List.cons_append]
    conv => lhs; unfold pieces
    rw [hb, pieces_cut fun hc => h (List.mem_cons_of_mem _ hc)]
    rfl
theorem cuts_cons (x : List UInt8) (l : List (List UInt8)) : cuts (x :: l) = (if x = [] then [] else [x.take 14]) ++ cuts l := by
  unfold cuts
  rw [List.filter_cons]
  by_cases h : x = []
  · rw [if_pos h, if_neg (by simpa using h)]; rfl
  · rw [if_neg h, if_pos (by simpa using h)]; rfl
theorem okS_of {s : List UInt8} (h1 : s.length < 128) (h2 : (0 : UInt8) ∉ s) : okS s = true := by
  unfold okS
  rw [decide_eq_true h1, decide_eq_true (count_none (List.count_eq_zero.2 h2))]; rfl
theorem names_of {s : List UInt8} (h1 : s.length < 128) (h2 : (0 : UInt8) ∉ s) : names s = cuts (pieces 47 s) := by
  unfold names
  rw [if_pos (okS_of h1 h2)]
/-- A name as an entry has it. -/
structure NmOk (nm : List UInt8) : Prop where
  ne : nm ≠ []
  len : nm.length ≤ 14
  no0 : (0 : UInt8) ∉ nm
  noS : (47 : UInt8) ∉ nm
section
variable {nm : List UInt8}
theorem NmOk.cut (h : NmOk nm) : (if nm = [] then ([] : List (List UInt8)) else [nm.take 14]) = [nm] := by rw [if_neg h.ne, List.take_of_length_le h.len]
theorem names_one (h : NmOk nm) : names nm = [nm] := by
  have := h.len
  rw [names_of (by omega) h.no0, pieces_no h.noS, cuts_cons, h.cut]; rfl
theorem names_dot (h : NmOk nm) : names ([46, 47, 47] ++ nm) = [[46], nm] := by
  have hl := h.len
  rw [names_of (by rw [List.length_append]; simp; omega) (by
    intro hc
    rcases List.mem_append.1 hc with hc | hc
    · simp at hc
    · exact h.no0 hc)]
  have e1 : ([46, 47, 47] ++ nm : List UInt8) = [46] ++ 47 :: ([] ++ 47 :: nm) := rfl
  rw [e1, pieces_cut (by decide), pieces_cut (by simp), pieces_no h.noS, cuts_cons, cuts_cons, cuts_cons, h.cut]
  rfl
theorem names_more (h : NmOk nm) (h14 : nm.length = 14) : names (nm ++ [109, 111, 114, 101]) = [nm] := by
  have hno : (47 : UInt8) ∉ nm ++ [109, 111, 114, 101] := fun hc => by
    rcases List.mem_append.1 hc with hc | hc
    · exact h.noS hc
    · simp at hc
  rw [names_of (by rw [List.length_append]; simp; omega) (by
    intro hc
    rcases List.mem_append.1 hc with hc | hc
    · exact h.no0 hc
    · simp at hc), pieces_no hno, cuts_cons, if_neg (by simp), List.take_append_of_le_length (by omega), List.take_of_length_le (by omega)]
  rfl
theorem names_up (h : NmOk nm) : names (nm ++ [47, 46, 46]) = [nm, [46, 46]] := by
  have hl := h.len
  rw [names_of (by rw [List.length_append]; simp; omega) (by
    intro hc
    rcases List.mem_append.1 hc with hc | hc
    · exact h.no0 hc
    · simp at hc)]
  have e1 : (nm ++ [47, 46, 46] : List UInt8) = nm ++ 47 :: [46, 46] := rfl
  rw [e1, pieces_cut h.noS, pieces_no (by decide), cuts_cons, cuts_cons, h.cut]
  rfl
/-- A path of names. -/
def pathB (ns : List (List UInt8)) : List UInt8 := (ns.map fun n => 47 :: n).flatten
theorem pathB_cons (n : List UInt8) (ns : List (List UInt8)) : pathB (n :: ns) = 47 :: (n ++ pathB ns) := rfl
theorem pathB_no0 : ∀ {ns : List (List UInt8)}, (∀ n ∈ ns, NmOk n) → (0 : UInt8) ∉ pathB ns
  | [], _ => by simp [pathB]
  | n :: ns, h => by
    rw [pathB_cons]
    intro hc
    rcases List.mem_cons.1 hc with hc | hc
    · exact absurd hc (by decide)
    · rcases List.mem_append.1 hc with hc | hc
      · exact (h n (List.mem_cons_self ..)).no0 hc
      · exact pathB_no0 (fun m hm => h m (List.mem_cons_of_mem _ hm)) hc
theorem pieces_path : ∀ {n : List UInt8} {ns : List (List UInt8)}, NmOk n → (∀ m ∈ ns, NmOk m) → cuts (pieces 47 (n ++ pathB ns)) = n :: ns
  | n, [], h, _ => by
    have e : n ++ pathB [] = n := by simp [pathB]
    rw [e, pieces_no h.noS, cuts_cons, h.cut]; rfl
  | n, m :: ns, h, hs => by
    rw [pathB_cons, pieces_cut h.noS, cuts_cons, h.cut, pieces_path (hs m (List.mem_cons_self ..)) fun k hk => hs k (List.mem_cons_of_mem _ hk)]; rfl
theorem names_path {ns : List (List UInt8)} (h : ∀ n ∈ ns, NmOk n) (hl : (pathB ns).length < 128) : names (pathB ns) = ns := by
  rw [names_of hl (pathB_no0 h)]
  cases ns with
  | nil => rfl
  | cons n ns =>
    have e1 : pathB (n :: ns) = [] ++ 47 :: (n ++ pathB ns) := rfl
    rw [e1, pieces_cut (by simp), cuts_cons, pieces_path (h n (List.mem_cons_self ..)) fun k hk => h k (List.mem_cons_of_mem _ hk)]; rfl
end
/-! ### Walking -/
theorem nodup_map_inj {α β : Type} {f : α → β} : ∀ {l : List α}, (l.map f).Nodup → ∀ {a b : α}, a ∈ l → b ∈ l → f a = f b → a = b
  | [], _, a, _, ha, _, _ => by cases ha
  | x :: r, h, a, b, ha, hb, hf => by
    rw [List.map_cons, List.nodup_cons] at h
    rcases List.mem_cons.1 ha with rfl | ha
    · rcases List.mem_cons.1 hb with rfl | hb
      · rfl
      · exact absurd (List.mem_map.2 ⟨b, hb, hf.symm⟩) h.1
    · rcases List.mem_cons.1 hb with e | hb
      · exact absurd (List.mem_map.2 ⟨a, ha, by rw [hf, e]⟩) h.1
      · exact nodup_map_inj h.2 ha hb hf
section
variable {M : List ND}
theorem VT.nmok (h : VT M 0) {d : Nat} {e : Ent} (he : e ∈ RM M d) : NmOk e.2 := by
  have hE := h.vp.ent d e he
  have hok : EntOk e := (h.ok.2 d).ents e (List.mem_of_mem_drop (List.mem_filter.1 he).1)
  exact ⟨hE.2.2.1, hok.len, hok.no0, hE.2.2.2.2.2⟩
theorem VT.lookup (h : VT M 0) {d : Nat} {e : Ent} (he : e ∈ RM M d) : ∃ k, (nd M d).dir.findIdx? (isEn e.2) = some k ∧ (nd M d).dir[k]? = some e := by
  have hL := h.vp.live he
  have hE := h.vp.ent d e he
  have hmem := List.mem_of_mem_drop (List.mem_filter.1 he).1
  cases hf : (nd M d).dir.findIdx? (isEn e.2) with
  | none =>
    rw [List.findIdx?_eq_none_iff] at hf
    have := hf e hmem
    unfold isEn at this
    rw [decide_eq_false_iff_not] at this
    exact absurd ⟨by omega, rfl⟩ this
  | some k =>
    obtain ⟨a, ha, hI⟩ := findIdx_some hf
    unfold isEn at hI
    rw [decide_eq_true_eq] at hI
    have hk2 : 2 ≤ k := Classical.byContradiction fun hn => by
      rcases (h.dir0 hL.1 hL.2 ha (by omega)).2 with e' | e'
      · exact hE.2.2.2.1 (by rw [← hI.2]; exact e')
      · exact hE.2.2.2.2.1 (by rw [← hI.2]; exact e')
    have hm := mem_RM ha hk2 hI.1
    have := nodup_map_inj (h.vp.uniq d) hm he hI.2
    subst this
    exact ⟨k, rfl, ha⟩
theorem VT.walk_e (h : VT M 0) {d : Nat} {e : Ent} (he : e ∈ RM M d) (r : List (List UInt8)) : walkM M d (e.2 :: r) = walkM M e.1.toNat r := by
  have hL := h.vp.live he
  have ht : (nd M d).typ = 1 := hL.1
  obtain ⟨k, h1, h2⟩ := h.lookup he
  conv => lhs; unfold walkM
  rw [if_neg (by simpa using ht), h1]
  show walkM M ((nd M d).dir.getD k (0, [])).1.toNat r = _
  rw [List.getD_eq_getElem?_getD, h2]; rfl
theorem VT.walk_dot (h : VT M 0) {d : Nat} (hl : liveM M d) (r : List (List UInt8)) : walkM M d ([46] :: r) = walkM M d r := by
  obtain ⟨r0, hr⟩ := h.dots d hl.1 hl.2
  have hd0 : d ≠ 0 := h.ne0 (by rw [hl.1]; decide)
  have h1 : (nd M d).dir.findIdx? (isEn [46]) = some 0 := by
    rw [hr, List.findIdx?_cons]
    have : isEn [46] ((d : Int), [46]) = true := by
      unfold isEn
      exact decide_eq_true ⟨by show (d : Int) ≠ 0; omega, rfl⟩
    rw [if_pos this]
  conv => lhs; unfold walkM
  rw [if_neg (by simpa using hl.1), h1]
  show walkM M ((nd M d).dir.getD 0 (0, [])).1.toNat r = _
  rw [hr]
  show walkM M ((d : Int)).toNat r = _
  rw [Int.toNat_natCast]
theorem VT.walk_up (h : VT M 0) {d : Nat} (hl : liveM M d) (r : List (List UInt8)) : walkM M d ([46, 46] :: r) = walkM M (upM M d) r := by
  obtain ⟨r0, hr⟩ := h.dots d hl.1 hl.2
  have hu := h.vp.up_ok (d := d) hl.1 hl.2
  have h1 : (nd M d).dir.findIdx? (isEn [46, 46]) = some 1 := by
    rw [hr, List.findIdx?_cons]
    have e1 : isEn [46, 46] ((d : Int), [46]) = false := by
      unfold isEn
      exact decide_eq_false fun hc => absurd hc.2 (show ([46] : List UInt8) ≠ [46, 46] by decide)
    have e2 : isEn [46, 46] (((upM M d : Nat) : Int), [46, 46]) = true := by
      unfold isEn
      exact decide_eq_true ⟨by show ((upM M d : Nat) : Int) ≠ 0; omega, rfl⟩
    rw [if_neg (by rw [e1]; decide), List.findIdx?_cons, if_pos e2]; rfl
  conv => lhs; unfold walkM
  rw [if_neg (by simpa using hl.1), h1]
  show walkM M ((nd M d).dir.getD 1 (0, [])).1.toNat r = _
  rw [hr]
  show walkM M (((upM M d : Nat) : Int)).toNat r = _
  rw [Int.toNat_natCast]
theorem live_lt (h : VT M 0) {d : Nat} (hl : liveM M d) : d < 200 := Classical.byContradiction fun hn => by
  have := h.vp.big d (by omega)
  have this : (nd M d).typ = 0 := this
  rw [hl.1] at this
  exact absurd this (by decide)
theorem there_live (h : VT M 0) {d : Nat} (hl : liveM M d) : thereM M (d : Int) = true := by
  have h0 := h.ne0 (i := d) (by rw [hl.1]; decide)
  have h1 := live_lt h hl
  unfold thereM
  rw [Int.toNat_natCast, decide_eq_true (by omega : (0 : Int) < (d : Int)), decide_eq_true (by omega : (d : Int) < 200), hl.1]; rfl
theorem VT.find (h : VT M 0) {d : Nat} (hl : liveM M d) {s : List UInt8} (h1 : s.length < 128) (h2 : (0 : UInt8) ∉ s) (h3 : s.head? ≠ some 47) : findM M (d : Int) s = walkM M d (names s) := by
  unfold findM refM
  rw [there_live h hl, okS_of h1 h2]
  show (if (0 : Int) ≠ 0 then _ else _) = _
  rw [if_neg (by decide)]
  unfold begD
  rw [if_neg h3, Int.toNat_natCast]
theorem VT.find_root (h : VT M 0) {ns : List (List UInt8)} (hn : ∀ n ∈ ns, NmOk n) (hl : (pathB ns).length < 128) : findM M 1 (pathB ns) = walkM M 1 ns := by
  have hr := h.vp.root
  have hlive : liveM M 1 := ⟨hr.1, by have : 1 ≤ (nd M 1).links := hr.2.1; omega⟩
  have ht := there_live h hlive
  unfold findM refM
  have ht : thereM M 1 = true := ht
  rw [ht, okS_of hl (pathB_no0 hn)]
  show (if (0 : Int) ≠ 0 then _ else _) = _
  rw [if_neg (by decide), names_path hn hl]
  unfold begD
  split
  · rfl
  · rfl
theorem head_of {nm r : List UInt8} (h : NmOk nm) : (nm ++ r).head? ≠ some 47 := by
  have h1 := h.ne
  have h2 := h.noS
  cases nm with
  | nil => exact absurd rfl h1
  | cons a b =>
    intro hc
    have hc : a = 47 := by simpa using hc
    exact h2 (by rw [hc]; exact List.mem_cons_self ..)
/-- What the law asks of an entry. -/
theorem VT.finds (h : VT M 0) {d : Nat} {e : Ent} (he : e ∈ RM M d) : findM M (d : Int) e.2 = (e.1, 0) ∧ findM M (d : Int) ([46, 47, 47] ++ e.2) = (e.1, 0) ∧ (e.2.length = 14 → findM M (d : Int) (e.2 ++ [109, 111, 114, 101]) = (e.1, 0)) ∧ ((nd M e.1.toNat).typ = 1 → findM M (d : Int) (e.2 ++ [47, 46, 46]) = ((d : Int), 0)) := by
  have hl : liveM M d := h.vp.live he
  have hn := h.nmok he
  have hle := hn.len
  have hE := h.vp.ent d e he
  have w1 : walkM M d [e.2] = (e.1, 0) := by
    rw [h.walk_e he]
    show (((e.1.toNat : Nat) : Int), (0 : Int)) = _
    rw [Int.toNat_of_nonneg (by omega)]
  have no0 : ∀ r : List UInt8, (0 : UInt8) ∉ r → (0 : UInt8) ∉ e.2 ++ r := fun r hr hc => by
    rcases List.mem_append.1 hc with hc | hc
    · exact hn.no0 hc
    · exact hr hc
  refine ⟨?_, ?_, fun h14 => ?_, fun ht => ?_⟩
  · have hh := head_of (r := []) hn
    rw [List.append_nil] at hh
    rw [h.find hl (by omega) hn.no0 hh, names_one hn, w1]
  · rw [h.find hl (by rw [List.length_append]; simp; omega) (fun hc => by
      rcases List.mem_append.1 hc with hc | hc
      · simp at hc
      · exact hn.no0 hc) (by simp), names_dot hn, h.walk_dot hl, w1]
  · rw [h.find hl (by rw [List.length_append]; simp; omega) (no0 _ (by decide)) (head_of hn), names_more hn h14, w1]
  · have hN := h.vp.named he
    have hl' : liveM M e.1.toNat := ⟨ht, by have : 1 ≤ (nd M e.1.toNat).links := hN.1; omega⟩
    have hp := h.vp.par d e he ht
    have hp : upM M e.1.toNat = d := hp
    rw [h.find hl (by rw [List.length_append]; simp; omega) (no0 _ (by decide)) (head_of hn), names_up hn, h.walk_e he, h.walk_up hl', hp]
    rfl
end
end Go.Proofs.YthkcdkldpbndnaaDoor
