/- The tree as plain data: a list of inodes, each with its bytes or its entries; how it lies in frames. The tree as plain data: what its calls that turn nothing tell. The tree as plain data: Trunc, Drop, Write. The tree as plain data: Write. The tree as plain data: the steps of the calls that turn directories. The tree as plain data: look, wants, last; Link. The tree as plain data: Make. The tree as plain data: Unlink. No condition. -/
import Derived.Test.YthkcdkldpbndnaaDoorTT
set_option linter.unusedVariables false
namespace Go.Proofs.YthkcdkldpbndnaaDoor
open Go.RowKit Go.Hx
abbrev Ent := Int × List UInt8
structure ND where
  typ : Int
  maj : Int
  min : Int
  links : Int
  refs : Int
  dat : List UInt8
  dir : List Ent
def ndZ : ND := ⟨0, 0, 0, 0, 0, [], []⟩
def ND.size (y : ND) : Nat := if y.typ = 1 then y.dir.length * 16 else y.dat.length
def blkN (n : Nat) : Nat := (n + 4095) / 4096
def isEn (s : List UInt8) (e : Ent) : Bool := decide (e.1 ≠ 0 ∧ e.2 = s)
def isHo (e : Ent) : Bool := decide (e.1 = 0)
/-- The inode i. -/
def nd (M : List ND) (i : Nat) : ND := M.getD i ndZ
theorem md_self {M : List ND} {i : Nat} {y : ND} (h : i < M.length) : nd (M.set i y) i = y := by
  unfold nd
  rw [List.getD_eq_getElem?_getD, List.getElem?_set_self h]; rfl
theorem md_other {M : List ND} {i j : Nat} {y : ND} (h : i ≠ j) : nd (M.set i y) j = nd M j := by
  unfold nd
  rw [List.getD_eq_getElem?_getD, List.getD_eq_getElem?_getD, List.getElem?_set_ne h]
theorem md_some {M : List ND} {i : Nat} (h : i < M.length) : M[i]? = some (nd M i) := by
  unfold nd
  rw [List.getD_eq_getElem?_getD, List.getElem?_eq_getElem h]; rfl
theorem md_out {M : List ND} {i : Nat} (h : M.length ≤ i) : nd M i = ndZ := by
  unfold nd
  rw [List.getD_eq_getElem?_getD, List.getElem?_eq_none h]; rfl
theorem md_set {M : List ND} {i j : Nat} {y : ND} : nd (M.set i y) j = if i = j ∧ i < M.length then y else nd M j := by
  by_cases h : i = j
  · subst h
    by_cases hl : i < M.length
    · rw [if_pos ⟨rfl, hl⟩, md_self hl]
    · rw [if_neg fun h' => hl h'.2, List.set_eq_of_length_le (by omega)]
  · rw [if_neg fun h' => h h'.1, md_other h]
def thereM (M : List ND) (i : Int) : Bool := decide (0 < i) && decide (i < 200) && decide ((nd M i.toNat).typ ≠ 0)
def walkM (M : List ND) : Nat → List (List UInt8) → Int × Int
  | a, [] => (((a : Nat) : Int), 0)
  | a, s :: r => if (nd M a).typ ≠ 1 then (0, 183) else match (nd M a).dir.findIdx? (isEn s) with
    | none => (0, 182)
    | some k => walkM M ((nd M a).dir.getD k (0, [])).1.toNat r
def refM (M : List ND) (cwd : Int) (s : List UInt8) : Int := if thereM M cwd = false then 180 else if okS s = false then 181 else 0
def findM (M : List ND) (cwd : Int) (s : List UInt8) : Int × Int := if refM M cwd s ≠ 0 then (0, refM M cwd s) else walkM M (begD cwd s) (names s)
def lastM (M : List ND) (cwd : Int) (s : List UInt8) : Int × List UInt8 × Int :=
  if refM M cwd s ≠ 0 then (0, [], refM M cwd s) else match (names s).getLast? with
    | none => (0, [], 184)
    | some nm => if nm = [46] ∨ nm = [46, 46] then (0, [], 184) else if (walkM M (begD cwd s) (names s).dropLast).2 ≠ 0 then (0, [], (walkM M (begD cwd s) (names s).dropLast).2)
      else if (nd M (walkM M (begD cwd s) (names s).dropLast).1.toNat).typ ≠ 1 then (0, [], 183) else ((walkM M (begD cwd s) (names s).dropLast).1, nm, 0)
/-- How many frames an entry more takes; false: there is no room for it. -/
def demM (l : List Ent) : Nat × Bool := if (l.findIdx? isHo).isSome then (0, true) else if l.length * 16 = 262144 then (0, false) else if l.length * 16 % 4096 = 0 then (1, true) else (0, true)
def entM (l : List Ent) (e : Ent) : List Ent := match l.findIdx? isHo with
  | some k => l.set k e
  | none => l ++ [e]
def freeM (M : List ND) : Nat → Nat → Nat
  | 0, _ => 0
  | n + 1, k => if (nd M k).typ ≠ 0 then freeM M n (k + 1) else k
def leftM (M : List ND) : Nat → Nat → Nat
  | 0, _ => 0
  | n + 1, k => (if (nd M k).typ ≠ 0 then 0 else 1) + leftM M n (k + 1)
/-- What a call leaves: the inodes, how many frames are free. -/
abbrev MS := List ND × Nat
def newND (i p : Nat) (typ maj min : Int) : ND := if typ = 1 then ⟨1, 0, 0, 1, 0, [], [((i : Int), [46]), ((p : Int), [46, 46])]⟩ else if typ = 3 then ⟨3, maj, min, 1, 0, [], []⟩ else ⟨typ, 0, 0, 1, 0, [], []⟩
/-- What a new inode takes. -/
def makeD (M : List ND) (i d : Nat) (nm : List UInt8) (typ maj min : Int) : List ND :=
  (M.set i (newND i d typ maj min)).set d { nd M d with links := (nd M d).links + (if typ = 1 then 1 else 0), dir := entM (nd M d).dir ((i : Int), nm) }
def makeCode (M : List ND) (n d : Nat) (nm : List UInt8) (typ : Int) : Int :=
  if typ ≠ 1 ∧ typ ≠ 2 ∧ typ ≠ 3 then 191 else if (nd M d).links = 0 then 186 else if ((nd M d).dir.findIdx? (isEn nm)).isSome then 185 else if typ = 1 ∧ 32767 ≤ (nd M d).links then 190
  else if freeM M 199 1 = 0 then 188 else if (demM (nd M d).dir).2 = false then 187 else if n < (demM (nd M d).dir).1 + (if typ = 1 then 1 else 0) then 189 else 0
def makeM (M : List ND) (n : Nat) (cwd : Int) (s : List UInt8) (typ maj min : Int) : MS × Int × Int :=
  if (lastM M cwd s).2.2 ≠ 0 then ((M, n), 0, (lastM M cwd s).2.2) else
  if makeCode M n (lastM M cwd s).1.toNat (lastM M cwd s).2.1 typ ≠ 0 then ((M, n), 0, makeCode M n (lastM M cwd s).1.toNat (lastM M cwd s).2.1 typ) else
  ((makeD M (freeM M 199 1) (lastM M cwd s).1.toNat (lastM M cwd s).2.1 typ maj min, n - (demM (nd M (lastM M cwd s).1.toNat).dir).1 - (if typ = 1 then 1 else 0)), ((freeM M 199 1 : Nat) : Int), 0)
def linkCode (M : List ND) (n d i : Nat) (nm : List UInt8) : Int :=
  if (nd M d).links = 0 then 186 else if ((nd M d).dir.findIdx? (isEn nm)).isSome then 185 else if 32767 ≤ (nd M i).links then 190
  else if (demM (nd M d).dir).2 = false then 187 else if n < (demM (nd M d).dir).1 then 189 else 0
def linkD (M : List ND) (i d : Nat) (nm : List UInt8) : List ND :=
  (M.set d { nd M d with dir := entM (nd M d).dir ((i : Int), nm) }).set i { nd M i with links := (nd M i).links + 1 }
def linkM (M : List ND) (n : Nat) (i cwd : Int) (s : List UInt8) : MS × Int :=
  if thereM M i = false then ((M, n), 180) else if (nd M i.toNat).typ = 1 then ((M, n), 183) else
  if (lastM M cwd s).2.2 ≠ 0 then ((M, n), (lastM M cwd s).2.2) else
  if linkCode M n (lastM M cwd s).1.toNat i.toNat (lastM M cwd s).2.1 ≠ 0 then ((M, n), linkCode M n (lastM M cwd s).1.toNat i.toNat (lastM M cwd s).2.1) else
  ((linkD M i.toNat (lastM M cwd s).1.toNat (lastM M cwd s).2.1, n - (demM (nd M (lastM M cwd s).1.toNat).dir).1), 0)
/-- An inode with neither a name nor a holder goes. -/
def letM (M : List ND) (n i : Nat) : MS := if (nd M i).links = 0 ∧ (nd M i).refs = 0 then (M.set i ndZ, n + blkN (nd M i).size) else (M, n)
/-- A name is taken away: the entry k of the directory d, which names x. -/
def unlD (M : List ND) (n d k x : Nat) : MS :=
  if (nd M x).typ = 1 then
    letM (((M.set d { nd M d with dir := (nd M d).dir.set k (0, []), links := (nd M d).links - 1 }).set x { nd M x with links := (nd M x).links - 1, dir := [] })) (n + blkN (nd M x).size) x
  else letM ((M.set d { nd M d with dir := (nd M d).dir.set k (0, []) }).set x { nd M x with links := (nd M x).links - 1 }) n x
def fullM (y : ND) : Bool := decide (y.typ = 1) && ((y.dir.drop 2).any fun e => !isHo e)
def unlinkM (M : List ND) (n : Nat) (cwd : Int) (s : List UInt8) : MS × Int :=
  if (lastM M cwd s).2.2 ≠ 0 then ((M, n), (lastM M cwd s).2.2) else
  match (nd M (lastM M cwd s).1.toNat).dir.findIdx? (isEn (lastM M cwd s).2.1) with
  | none => ((M, n), 182)
  | some k => if fullM (nd M ((nd M (lastM M cwd s).1.toNat).dir.getD k (0, [])).1.toNat) then ((M, n), 187) else
    (unlD M n (lastM M cwd s).1.toNat k ((nd M (lastM M cwd s).1.toNat).dir.getD k (0, [])).1.toNat, 0)
/-- Bytes written over a list, at its end behind it too. -/
def wrB (l : List UInt8) (o : Nat) (xs : List UInt8) : List UInt8 := l.take o ++ xs ++ l.drop (o + xs.length)
/-- How many bytes a write takes. -/
def wrN (y : ND) (n o m : Nat) : Nat := min (min m (262144 - o)) ((blkN y.dat.length + n) * 4096 - o)
def writeM (M : List ND) (n : Nat) (i o : Int) (xs : List UInt8) : MS × Int :=
  if thereM M i = false ∨ (nd M i.toNat).typ ≠ 2 ∨ o < 0 ∨ ((nd M i.toNat).dat.length : Int) < o then ((M, n), -1) else
  ((M.set i.toNat { nd M i.toNat with dat := wrB (nd M i.toNat).dat o.toNat (xs.take (wrN (nd M i.toNat) n o.toNat xs.length)) },
    n - (blkN (o.toNat + wrN (nd M i.toNat) n o.toNat xs.length) - blkN (nd M i.toNat).dat.length)), ((wrN (nd M i.toNat) n o.toNat xs.length : Nat) : Int))
def truncM (M : List ND) (n : Nat) (i : Int) : MS × Int :=
  if thereM M i = false then ((M, n), 180) else if (nd M i.toNat).typ ≠ 2 then ((M, n), 183) else ((M.set i.toNat { nd M i.toNat with dat := [] }, n + blkN (nd M i.toNat).dat.length), 0)
def holdM (M : List ND) (i : Int) : List ND × Int :=
  if thereM M i = false then (M, 180) else if (nd M i.toNat).refs = 2147483647 then (M, 190) else (M.set i.toNat { nd M i.toNat with refs := (nd M i.toNat).refs + 1 }, 0)
def dropM (M : List ND) (n : Nat) (i : Int) : MS × Int :=
  if thereM M i = false then ((M, n), 180) else if (nd M i.toNat).refs = 0 then ((M, n), 1) else (letM (M.set i.toNat { nd M i.toNat with refs := (nd M i.toNat).refs - 1 }) n i.toNat, 0)
def entsB (l : List Ent) : List UInt8 := (l.map fun e => packB e.1 e.2).flatten
def bytesM (y : ND) : List UInt8 := if y.typ = 1 then entsB y.dir else y.dat
def readM (M : List ND) (i o n : Int) : List UInt8 :=
  if thereM M i = true ∧ (nd M i.toNat).typ ≠ 3 ∧ 0 ≤ o ∧ 0 ≤ n ∧ o ≤ (((nd M i.toNat).size : Nat) : Int) then win (bytesM (nd M i.toNat)) o.toNat (min n.toNat ((nd M i.toNat).size - o.toNat)) else []
def listM (M : List ND) (i : Int) : List Ent := if thereM M i = true then (nd M i.toNat).dir.filter fun e => !isHo e else []
/-! ### What holds of each inode by itself -/
structure EntOk (e : Ent) : Prop where
  lo : 0 ≤ e.1
  hi : e.1 < 200
  len : e.2.length ≤ 14
  no0 : (0 : UInt8) ∉ e.2
structure NdOk (y : ND) : Prop where
  links : 0 ≤ y.links ∧ y.links ≤ 32767
  refs : 0 ≤ y.refs ∧ y.refs ≤ 2147483647
  zero : y.typ = 0 → y = ndZ
  size : y.size ≤ 262144
  ents : ∀ e ∈ y.dir, EntOk e
  dir : y.typ ≠ 1 → y.dir = []
  dat : y.typ = 1 → y.dat = []
def MOk (M : List ND) : Prop := M.length = 200 ∧ ∀ i, NdOk (nd M i)
theorem ndZ_ok : NdOk ndZ := ⟨⟨by decide, by decide⟩, ⟨by decide, by decide⟩, fun _ => rfl, by decide, fun e h => (by cases h), fun _ => rfl, fun _ => rfl⟩
theorem MOk.set {M : List ND} (h : MOk M) {i : Nat} {y : ND} (hy : NdOk y) : MOk (M.set i y) := ⟨by rw [List.length_set]; exact h.1, fun j => by
  rw [md_set]
  split
  · exact hy
  · exact h.2 j⟩
/-! ### Entries as bytes -/
theorem ahead_pad {s : List UInt8} (h : (0 : UInt8) ∉ s) (n : Nat) : ahead (s ++ List.replicate n 0) 0 = s := by
  induction s with
  | nil =>
    cases n with
    | zero => rfl
    | succ n =>
      unfold ahead idx Go.Lib.indexByte
      simp [List.replicate_succ]
  | cons b r ih =>
    have hb : (b == (0 : UInt8)) = false := by
      rw [beq_eq_false_iff_ne]
      rintro rfl
      exact h (List.mem_cons_self ..)
    have ih := ih fun hc => h (List.mem_cons_of_mem _ hc)
    have hg := Go.Lib.indexByte_ge (r ++ List.replicate n 0) 0
    unfold ahead idx at ih ⊢
    rw [List.cons_append]
    unfold Go.Lib.indexByte
    rw [hb]
    by_cases h1 : Go.Lib.indexByte (r ++ List.replicate n 0) 0 = -1
    · rw [h1] at ih ⊢
      have ih : r ++ List.replicate n 0 = r := ih
      show (b :: (r ++ List.replicate n 0)) = b :: r
      rw [ih]
    · have h2 : (Go.Lib.indexByte (r ++ List.replicate n 0) 0 == -1) = false := by rw [beq_eq_false_iff_ne]; exact h1
      have ih : (r ++ List.replicate n 0).take (Go.Lib.indexByte (r ++ List.replicate n 0) 0).toNat = r := by
        rw [if_neg (by omega)] at ih; exact ih
      show (if (if (Go.Lib.indexByte (r ++ List.replicate n 0) 0 == -1) = true then _ else _) < 0 then _ else _) = _
      rw [h2]
      simp only [Bool.false_eq_true, if_false]
      rw [if_neg (by omega), show (Go.Lib.indexByte (r ++ List.replicate n 0) 0 + 1).toNat = (Go.Lib.indexByte (r ++ List.replicate n 0) 0).toNat + 1 by omega, List.take_succ_cons, ih]
theorem entD_pack {e : Ent} (h : EntOk e) : entD (packB e.1 e.2) = e := by
  obtain ⟨ino, nm⟩ := e
  obtain ⟨h1, h2, h3, h4⟩ := h
  have h1 : 0 ≤ ino := h1
  have h2 : ino < 200 := h2
  have h3 : nm.length ≤ 14 := h3
  unfold entD
  have e1 : inoOf (packB ino nm) = ino := by
    have a1 : (packB ino nm).getD 0 0 = lob ino := rfl
    have a2 : (packB ino nm).getD 1 0 = hib ino := rfl
    unfold inoOf
    rw [a1, a2]
    unfold lob hib
    rw [UInt8.toNat_ofNat', UInt8.toNat_ofNat']
    omega
  have e2 : ahead ((packB ino nm).drop 2) 0 = nm := by
    have : (packB ino nm).drop 2 = nm.take 14 ++ List.replicate (14 - (nm.take 14).length) 0 := rfl
    rw [this, List.take_of_length_le h3]
    exact ahead_pad h4 _
  rw [e1, e2]
theorem hole_ok : EntOk (0, []) := ⟨by decide, by decide, by decide, by simp⟩
/-! ### Names -/
theorem pieces_sub {c : UInt8} : ∀ {s l : List UInt8}, l ∈ pieces c s → (∀ b ∈ l, b ∈ s) ∧ c ∉ l
  | [], l, h => by
    have : l = [] := by simpa [pieces] using h
    subst this
    exact ⟨fun b hb => (by cases hb), by simp⟩
  | b :: r, l, h => by
    unfold pieces at h
    split at h
    · rcases List.mem_cons.1 h with rfl | h
      · exact ⟨fun b hb => (by cases hb), by simp⟩
      · have := pieces_sub h
        exact ⟨fun x hx => List.mem_cons_of_mem _ (this.1 x hx), this.2⟩
    · rename_i hb
      have hbc : b ≠ c := by simpa using hb
      have key : ∀ l' ∈ pieces c r, (∀ x ∈ l', x ∈ r) ∧ c ∉ l' := fun l' hl' => pieces_sub hl'
      split at h
      · have : l = [b] := by simpa using h
        subst this
        exact ⟨fun x hx => by simp at hx; subst hx; simp, by simpa using fun e => hbc e.symm⟩
      · rename_i hh tt heq
        rcases List.mem_cons.1 h with rfl | h
        · have := key hh (by rw [heq]; exact List.mem_cons_self ..)
          refine ⟨fun x hx => ?_, fun hc => ?_⟩
          · rcases List.mem_cons.1 hx with rfl | hx
            · exact List.mem_cons_self ..
            · exact List.mem_cons_of_mem _ (this.1 x hx)
          · rcases List.mem_cons.1 hc with e | hc
            · exact hbc e.symm
            · exact this.2 hc
        · have := key l (by rw [heq]; exact List.mem_cons_of_mem _ h)
          exact ⟨fun x hx => List.mem_cons_of_mem _ (this.1 x hx), this.2⟩
theorem names_ok {s nm : List UInt8} (h : nm ∈ names s) : nm.length ≤ 14 ∧ (0 : UInt8) ∉ nm ∧ (47 : UInt8) ∉ nm ∧ nm ≠ [] := by
  unfold names at h
  split at h
  · rename_i ho
    unfold okS at ho
    rw [Bool.and_eq_true, decide_eq_true_eq, decide_eq_true_eq] at ho
    have h0 := (idx_none ho.2).1
    have h0 : (0 : UInt8) ∉ s := List.count_eq_zero.1 h0
    unfold cuts at h
    obtain ⟨l, hl, rfl⟩ := List.mem_map.1 h
    rw [List.mem_filter, decide_eq_true_eq] at hl
    obtain ⟨h1, h2⟩ := pieces_sub hl.1
    refine ⟨by rw [List.length_take]; omega, fun hc => h0 (h1 _ (List.mem_of_mem_take hc)), fun hc => h2 (List.mem_of_mem_take hc), fun hc => hl.2 ?_⟩
    cases l with
    | nil => rfl
    | cons a b => simp at hc
  · cases h
/-! ### How it lies in frames -/
structure AbsI (bs : List UInt8) (x : InD) (y : ND) : Prop where
  typ : x.typ = y.typ
  maj : x.maj = y.maj
  min : x.min = y.min
  links : x.links = y.links
  refs : x.refs = y.refs
  size : x.size = y.size
  blk : x.blk.length = blkN y.size
  dat : y.typ ≠ 1 → win (cont bs x.blk) 0 y.dat.length = y.dat
  dir : y.typ = 1 → ∀ k e, y.dir[k]? = some e → win (cont bs x.blk) (k * 16) 16 = packB e.1 e.2
structure Abs (bs : List UInt8) (L : List InD) (M : List ND) : Prop where
  ok : MOk M
  len : L.length = 200
  at_ : ∀ i x, L[i]? = some x → AbsI bs x (nd M i)
theorem AbsI.contTo {bs bs' : List UInt8} {x : InD} {y : ND} (h : AbsI bs x y) (hc : cont bs' x.blk = cont bs x.blk) : AbsI bs' x y :=
  ⟨h.typ, h.maj, h.min, h.links, h.refs, h.size, h.blk, by rw [hc]; exact h.dat, by rw [hc]; exact h.dir⟩
theorem Abs.set {bs bs' : List UInt8} {L : List InD} {M : List ND} (h : Abs bs L M) {i : Nat} {x' : InD} {y' : ND} (hi : i < 200) (hy : NdOk y') (ha : AbsI bs' x' y') (hc : ∀ j z, j ≠ i → L[j]? = some z → cont bs' z.blk = cont bs z.blk) : Abs bs' (L.set i x') (M.set i y') := by
  refine ⟨h.ok.set hy, by rw [List.length_set]; exact h.len, fun j z hz => ?_⟩
  have hl : L[i]? = some (L[i]'(by have := h.len; omega)) := List.getElem?_eq_getElem _
  rcases set_case hl hz with ⟨rfl, rfl⟩ | ⟨hij, hz⟩
  · rw [md_self (by rw [h.ok.1]; exact hi)]
    exact ha
  · rw [md_other hij]
    exact (h.at_ j z hz).contTo (hc j z (Ne.symm hij) hz)
theorem blkN_le (n : Nat) : n ≤ blkN n * 4096 := by unfold blkN; omega
theorem blkN_mono {a b : Nat} (h : a ≤ b) : blkN a ≤ blkN b := by unfold blkN; omega
theorem AbsI.entN {bs : List UInt8} {x : InD} {y : ND} (h : AbsI bs x y) (ho : NdOk y) : nEnt x = y.dir.length := by
  have hs := h.size
  unfold nEnt
  rw [h.typ]
  by_cases ht : y.typ = 1
  · rw [if_pos ht, hs]
    unfold ND.size
    rw [if_pos ht]; omega
  · rw [if_neg ht, ho.dir ht]; rfl
theorem AbsI.ent {bs : List UInt8} {x : InD} {y : ND} (h : AbsI bs x y) (ho : NdOk y) {k : Nat} {e : Ent} (he : y.dir[k]? = some e) : entD (win (cont bs x.blk) (k * 16) 16) = e := by
  by_cases ht : y.typ = 1
  · rw [h.dir ht k e he, entD_pack (ho.ents e (List.mem_of_getElem? he))]
  · rw [ho.dir ht] at he; simp at he
theorem Abs.wf {bs : List UInt8} {L : List InD} {M : List ND} (h : Abs bs L M) : WfL bs L := by
  refine ⟨fun i x hx => ?_, fun i x hx => ?_, fun i x k hx hk => ?_⟩
  · have a := h.at_ i x hx
    have o := h.ok.2 i
    have hs := a.size
    have hb := a.blk
    have hz := o.size
    refine ⟨fun ht => ?_, ?_, ?_⟩
    · rw [hs]; unfold ND.size; rw [if_pos (by rw [← a.typ]; exact ht)]; omega
    · rw [hs, hb]; exact blkN_le _
    · rw [hb]; unfold blkN; omega
  · have a := h.at_ i x hx
    have o := h.ok.2 i
    rw [a.refs, a.links]
    exact ⟨o.refs, o.links⟩
  · have a := h.at_ i x hx
    have o := h.ok.2 i
    rw [a.entN o] at hk
    have he : (nd M i).dir[k]? = some ((nd M i).dir[k]) := List.getElem?_eq_getElem hk
    rw [a.ent o he]
    exact (o.ents _ (List.getElem_mem _)).hi
theorem firstK_find {α : Type} {p : Nat → Bool} {q : α → Bool} {l : List α} (h : ∀ k e, l[k]? = some e → p k = q e) : firstK p l.length = l.findIdx? q := by
  cases hf : l.findIdx? q with
  | none =>
    rw [List.findIdx?_eq_none_iff] at hf
    refine firstK_none fun k hk => ?_
    rw [h k _ (List.getElem?_eq_getElem hk)]
    exact hf _ (List.getElem_mem _)
  | some k =>
    rw [List.findIdx?_eq_some_iff_getElem] at hf
    obtain ⟨hk, h1, h2⟩ := hf
    refine firstK_some ?_ (fun j hj => ?_) hk
    · rw [h k _ (List.getElem?_eq_getElem hk)]; exact h1
    · rw [h j _ (List.getElem?_eq_getElem (by omega))]
      simpa using h2 j hj
theorem AbsI.look {bs : List UInt8} {x : InD} {y : ND} (h : AbsI bs x y) (ho : NdOk y) (s : List UInt8) : firstK (isE (cont bs x.blk) s) (nEnt x) = y.dir.findIdx? (isEn s) := by
  rw [h.entN ho]
  refine firstK_find fun k e he => ?_
  unfold isE isEn
  rw [h.ent ho he]
theorem AbsI.holeAt {bs : List UInt8} {x : InD} {y : ND} (h : AbsI bs x y) (ho : NdOk y) : firstK (hole (cont bs x.blk)) (nEnt x) = y.dir.findIdx? isHo := by
  rw [h.entN ho]
  refine firstK_find fun k e he => ?_
  unfold hole isHo
  rw [h.ent ho he]
theorem AbsI.zer {bs : List UInt8} {x : InD} {y : ND} (h : AbsI bs x y) (ho : NdOk y) : isZ x = decide (y.typ = 0) := by
  unfold isZ
  rw [decide_eq_decide, h.typ]
  constructor
  · exact fun h => h.1
  · intro ht
    have hz := ho.zero ht
    have a1 := h.maj; have a2 := h.min; have a3 := h.links; have a4 := h.refs; have a5 := h.size
    rw [hz] at a1 a2 a3 a4 a5
    exact ⟨ht, a1, a2, a3, a4, a5⟩
section
variable {bs : List UInt8} {L : List InD} {M : List ND}
theorem Abs.get (h : Abs bs L M) {i : Nat} (hi : i < 200) : ∃ x, L[i]? = some x ∧ AbsI bs x (nd M i) := by
  have hl : L[i]? = some (L[i]'(by have := h.len; omega)) := List.getElem?_eq_getElem _
  exact ⟨_, hl, h.at_ i _ hl⟩
theorem Abs.there (h : Abs bs L M) (i : Int) : thereD L i = thereM M i := by
  unfold thereD thereM
  by_cases h1 : 0 < i
  · by_cases h2 : i < 200
    · obtain ⟨x, hx, a⟩ := h.get (i := i.toNat) (by omega)
      rw [hx]
      show (_ && !isZ x) = _
      rw [a.zer (h.ok.2 _)]
      congr 1
      rw [Bool.eq_iff_iff]
      simp
    · rw [decide_eq_false h2, Bool.and_false, Bool.false_and, Bool.false_and]
  · rw [decide_eq_false h1]; simp only [Bool.false_and]
theorem Abs.ref (h : Abs bs L M) (cwd : Int) (s : List UInt8) : refD L cwd s = refM M cwd s := by
  unfold refD refM
  rw [h.there]
theorem Abs.walk (h : Abs bs L M) : ∀ (l : List (List UInt8)) (a : Nat), a < 200 → walkD bs L a l = walkM M a l
  | [], a, _ => rfl
  | s :: r, a, ha => by
    obtain ⟨x, hx, ai⟩ := h.get ha
    have ho := h.ok.2 a
    rw [walk_cons hx, ai.look ho, ai.typ]
    unfold walkM
    by_cases ht : (nd M a).typ ≠ 1
    · rw [if_pos ht, if_pos ht]
    · rw [if_neg ht, if_neg ht]
      cases hf : (nd M a).dir.findIdx? (isEn s) with
      | none => rfl
      | some k =>
        have hk := (List.findIdx?_eq_some_iff_getElem.1 hf).1
        have he : (nd M a).dir[k]? = some ((nd M a).dir[k]) := List.getElem?_eq_getElem hk
        have hg : (nd M a).dir.getD k (0, []) = (nd M a).dir[k] := by rw [List.getD_eq_getElem?_getD, he]; rfl
        show walkD bs L (entD (win (cont bs x.blk) (k * 16) 16)).1.toNat r = _
        rw [ai.ent ho he]
        have hok := ho.ents _ (List.getElem_mem hk)
        have e1 := hok.lo
        have e2 := hok.hi
        rw [h.walk r _ (by omega)]
        show _ = walkM M ((nd M a).dir.getD k (0, [])).1.toNat r
        rw [hg]
theorem Abs.find (h : Abs bs L M) (cwd : Int) (s : List UInt8) : findD bs L cwd s = findM M cwd s := by
  unfold findD findM
  rw [h.ref]
  by_cases hr : refM M cwd s ≠ 0
  · rw [if_pos hr, if_pos hr]
  · rw [if_neg hr, if_neg hr]
    exact h.walk _ _ (begD_lt (L := L) (by rw [h.ref]; simpa using hr))
theorem Abs.last (h : Abs bs L M) (cwd : Int) (s : List UInt8) : lastD bs L cwd s = lastM M cwd s := by
  unfold lastD lastM
  rw [h.ref]
  by_cases hr : refM M cwd s ≠ 0
  · rw [if_pos hr, if_pos hr]
  · rw [if_neg hr, if_neg hr]
    have hb := begD_lt (L := L) (cwd := cwd) (s := s) (by rw [h.ref]; simpa using hr)
    rw [h.walk _ _ hb]
    cases (names s).getLast? with
    | none => rfl
    | some nm =>
      show (if _ then _ else _) = (if _ then _ else _)
      by_cases hn : nm = [46] ∨ nm = [46, 46]
      · rw [if_pos hn, if_pos hn]
      · rw [if_neg hn, if_neg hn]
        by_cases hw : (walkM M (begD cwd s) (names s).dropLast).2 ≠ 0
        · rw [if_pos hw, if_pos hw]
        · rw [if_neg hw, if_neg hw]
          have hlt := walkD_lt h.wf (names s).dropLast _ hb (by rw [h.walk _ _ hb]; simpa using hw)
          rw [h.walk _ _ hb] at hlt
          obtain ⟨x, hx, ai⟩ := h.get (i := (walkM M (begD cwd s) (names s).dropLast).1.toNat) (by omega)
          rw [hx, Option.map_some, ai.typ]
          by_cases ht : (nd M (walkM M (begD cwd s) (names s).dropLast).1.toNat).typ = 1
          · rw [if_neg (by rw [ht]; simp), if_neg (by simpa using ht)]
          · rw [if_pos (by simpa using ht), if_pos ht]
theorem Abs.free (h : Abs bs L M) : ∀ (n k : Nat), 1 ≤ k → k + n ≤ 200 → freeD L n k = freeM M n k
  | 0, _, _, _ => rfl
  | n + 1, k, h1, h2 => by
    rw [free_step, h.free n (k + 1) (by omega) (by omega), h.there]
    unfold thereM
    rw [decide_eq_true (by omega : (0 : Int) < ((k : Nat) : Int)), decide_eq_true (by omega : ((k : Nat) : Int) < 200), Int.toNat_natCast]
    conv => rhs; unfold freeM
    simp
theorem Abs.left (h : Abs bs L M) : ∀ (n k : Nat), 1 ≤ k → k + n ≤ 200 → leftD L n k = leftM M n k
  | 0, _, _, _ => rfl
  | n + 1, k, h1, h2 => by
    rw [left_step, h.left n (k + 1) (by omega) (by omega), h.there]
    unfold thereM
    rw [decide_eq_true (by omega : (0 : Int) < ((k : Nat) : Int)), decide_eq_true (by omega : ((k : Nat) : Int) < 200), Int.toNat_natCast]
    conv => rhs; unfold leftM
    simp
theorem AbsI.place {x : InD} {y : ND} (h : AbsI bs x y) (ho : NdOk y) : placeD (cont bs x.blk) x = match y.dir.findIdx? isHo with
    | some k => k * 16
    | none => y.size := by
  unfold placeD
  rw [h.holeAt ho, h.size]
  cases y.dir.findIdx? isHo with
  | none => rfl
  | some k => rfl
theorem AbsI.want {x : InD} {y : ND} (h : AbsI bs x y) (ho : NdOk y) (ht : y.typ = 1) : wantD (cont bs x.blk) x = ((((demM y.dir).1 : Nat) : Int), (demM y.dir).2) := by
  have hs : y.size = y.dir.length * 16 := by unfold ND.size; rw [if_pos ht]
  have hz := ho.size
  unfold wantD demM
  rw [h.place ho, h.size]
  cases hf : y.dir.findIdx? isHo with
  | some k =>
    have hk := (List.findIdx?_eq_some_iff_getElem.1 hf).1
    show (if k * 16 = 262144 then _ else if k * 16 = y.size ∧ _ then _ else _) = _
    rw [if_neg (by omega), if_neg (by omega)]
    rfl
  | none =>
    show (if y.size = 262144 then _ else if y.size = y.size ∧ y.size % 4096 = 0 then _ else _) = (((if false = true then _ else if y.dir.length * 16 = 262144 then _ else if y.dir.length * 16 % 4096 = 0 then _ else _ : Nat × Bool).1 : Int), (if false = true then _ else if y.dir.length * 16 = 262144 then _ else if y.dir.length * 16 % 4096 = 0 then _ else _ : Nat × Bool).2)
    rw [hs]
    by_cases h1 : y.dir.length * 16 = 262144
    · rw [if_pos h1, if_pos h1]; rfl
    · rw [if_neg h1, if_neg h1]
      by_cases h2 : y.dir.length * 16 % 4096 = 0
      · rw [if_pos ⟨rfl, h2⟩, if_pos h2]; rfl
      · rw [if_neg fun h' => h2 h'.2, if_neg h2]; rfl
theorem listD_filter {C : List UInt8} {d : List Ent} (h : ∀ k e, d[k]? = some e → entD (win C (k * 16) 16) = e) : ∀ n, n ≤ d.length → listD C n = (d.take n).filter fun e => !isHo e
  | 0, _ => by simp [listD]
  | n + 1, hn => by
    have he : d[n]? = some d[n] := List.getElem?_eq_getElem hn
    rw [takeL_snoc he, List.filter_append, ← listD_filter h n (by omega)]
    show (if _ then _ else _) = _
    rw [h n _ he]
    by_cases hz : d[n].1 = 0
    · rw [if_neg (by simpa using hz)]
      simp [isHo, hz]
    · rw [if_pos (by simpa using hz)]
      simp [isHo, hz]
theorem Abs.list (h : Abs bs L M) (i : Int) : lstD bs L i = listM M i := by
  unfold lstD listM
  rw [h.there]
  by_cases ht : thereM M i = true
  · rw [if_pos ht, if_pos ht]
    have hi : 0 < i ∧ i < 200 := thereD_lt (L := L) (by rw [h.there]; exact ht)
    obtain ⟨x, hx, ai⟩ := h.get (i := i.toNat) (by omega)
    rw [hx]
    show listD (cont bs x.blk) (nEnt x) = _
    rw [ai.entN (h.ok.2 _), listD_filter (fun k e he => ai.ent (h.ok.2 _) he) _ (Nat.le_refl _), List.take_length]
  · rw [if_neg ht, if_neg ht]
theorem entsB_len (d : List Ent) : (entsB d).length = d.length * 16 := by
  induction d with
  | nil => rfl
  | cons e r ih =>
    have e1 : entsB (e :: r) = packB e.1 e.2 ++ entsB r := rfl
    rw [e1, List.length_append, packB_len, ih, List.length_cons]; omega
theorem win_all {C : List UInt8} {d : List Ent} (h : ∀ k e, d[k]? = some e → win C (k * 16) 16 = packB e.1 e.2) : ∀ n, n ≤ d.length → win C 0 (n * 16) = entsB (d.take n)
  | 0, _ => rfl
  | n + 1, hn => by
    have he : d[n]? = some d[n] := List.getElem?_eq_getElem hn
    have e1 : entsB (d.take n ++ [d[n]]) = entsB (d.take n) ++ packB d[n].1 d[n].2 := by
      unfold entsB
      rw [List.map_append, List.flatten_append]
      simp only [List.map_cons, List.map_nil, List.flatten_cons, List.flatten_nil, List.append_nil]
    rw [takeL_snoc he, e1, ← win_all h n (by omega), ← h n _ he, show (n + 1) * 16 = n * 16 + 16 by omega]
    have := win_snoc C 0 (n * 16) 16
    rw [Nat.zero_add] at this
    exact this.symm
theorem AbsI.bytes {x : InD} {y : ND} (h : AbsI bs x y) (ho : NdOk y) : win (cont bs x.blk) 0 y.size = bytesM y := by
  unfold bytesM ND.size
  by_cases ht : y.typ = 1
  · rw [if_pos ht, if_pos ht, win_all (h.dir ht) _ (Nat.le_refl _), List.take_length]
  · rw [if_neg ht, if_neg ht]
    exact h.dat ht
end
end Go.Proofs.YthkcdkldpbndnaaDoor
namespace Go.Proofs.YthkcdkldpbndnaaDoor
open Go.RowKit Go.Hx
/-- The tree at t holds the inodes M, n frames are free; H: frames that somebody else has. -/
structure TI (N t r mb hb F : Nat) (H : List Nat) (Q : List SH) (w : World) (M : List ND) (n : Nat) : Prop where
  ex : ∃ fl bs L, TrAt N w t r mb hb F fl bs L Q ∧ Abs bs L M ∧ fl.length = n ∧ ∀ f ∈ H, f ∉ fl ∧ ∀ (i : Nat) (x : InD), L[i]? = some x → f ∉ x.blk
/-- Behind a call. -/
def Aft (N t r mb hb F : Nat) (H : List Nat) (Q : List SH) (w : World) (p : MS) (w' : World) : Prop := ∃ Q', TI N t r mb hb F H Q' w' p.1 p.2 ∧ TrG t r mb hb Q Q' w w'
section
variable {N t r mb hb F : Nat} {H : List Nat} {Q : List SH} {w : World} {M : List ND} {n : Nat}
theorem TI.below {w' : World} (h : TI N t r mb hb F H Q w M n) (b : Below w.heap.size w w') : TI N t r mb hb F H Q w' M n := by
  obtain ⟨fl, bs, L, h1, h2⟩ := h.ex
  exact ⟨fl, bs, L, h1.below b, h2⟩
theorem TI.keep {w' : World} (h : TI N t r mb hb F H Q w M n) (hk : ∀ k, TS t r mb hb Q k → w'.heap[k]? = w.heap[k]?) : TI N t r mb hb F H Q w' M n := by
  obtain ⟨fl, bs, L, h1, h2⟩ := h.ex
  exact ⟨fl, bs, L, h1.keep hk, h2⟩
theorem TI.lt (h : TI N t r mb hb F H Q w M n) : ∀ k, TS t r mb hb Q k → k < w.heap.size := by
  obtain ⟨fl, bs, L, h1, h2⟩ := h.ex
  exact h1.lt
theorem TI.ok (h : TI N t r mb hb F H Q w M n) : MOk M := by
  obtain ⟨fl, bs, L, h1, h2, _⟩ := h.ex
  exact h2.ok
theorem Aft.same {w' : World} (h : TI N t r mb hb F H Q w M n) (b : Below w.heap.size w w') : Aft N t r mb hb F H Q w (M, n) w' := ⟨Q, h.below b, TrG.of_below b⟩
theorem Aft.pre {w0 : World} {p : MS} {w' : World} (b : Below w0.heap.size w0 w) (h : Aft N t r mb hb F H Q w p w') : Aft N t r mb hb F H Q w0 p w' := by
  obtain ⟨Q', h1, h2⟩ := h
  exact ⟨Q', h1, (TrG.of_below b).trans h2⟩
theorem thereM_lt {i : Int} (h : thereM M i = true) : 0 < i ∧ i < 200 ∧ (nd M i.toNat).typ ≠ 0 := by
  unfold thereM at h
  rw [Bool.and_eq_true, Bool.and_eq_true, decide_eq_true_eq, decide_eq_true_eq, decide_eq_true_eq] at h
  exact ⟨h.1.1, h.1.2, h.2⟩
theorem c_MFind (h : TI N t r mb hb F H Q w M n) (cwd : Int) (s : List UInt8) : Calls Tryd.prog 48 #[rp t, .int .i64 cwd, .string (str s)] w
    (Ret fun v w' => v = .tuple #[.int .i64 (findM M cwd s).1, .int .i64 (findM M cwd s).2] ∧ Below w.heap.size w w') := by
  obtain ⟨fl, bs, L, h1, h2, _⟩ := h.ex
  rw [← h2.find]
  exact c_Find h1 h2.wf cwd s
def statM (M : List ND) (i : Int) : Array Value := if thereM M i = true then stC5 1 (IntKind.u32.wrap i) (IntKind.i16.wrap (nd M i.toNat).typ) (IntKind.i16.wrap (nd M i.toNat).links) (IntKind.u64.wrap (((nd M i.toNat).size : Nat) : Int)) else stC5 0 0 0 0 0
theorem c_MStat (h : TI N t r mb hb F H Q w M n) (i : Int) : Calls Tryd.prog 54 #[rp t, .int .i64 i] w (Ret fun v w' => v = .agg (statM M i) ∧ Below w.heap.size w w') := by
  obtain ⟨fl, bs, L, h1, h2, _⟩ := h.ex
  have e : statD L i = statM M i := by
    unfold statD statM
    rw [h2.there]
    by_cases ht : thereM M i = true
    · rw [if_pos ht, if_pos ht]
      have hi := thereM_lt ht
      obtain ⟨x, hx, a⟩ := h2.get (i := i.toNat) (by omega)
      rw [hx]
      show stC5 _ _ _ _ _ = _
      rw [a.typ, a.links, a.size]
    · rw [if_neg ht, if_neg ht]
  rw [← e]
  exact c_tStat h1 i
theorem c_MLeft (h : TI N t r mb hb F H Q w M n) : Calls Tryd.prog 56 #[rp t] w (Ret fun v w' => v = .int .i64 ((leftM M 199 1 : Nat) : Int) ∧ w = w') := by
  obtain ⟨fl, bs, L, h1, h2, _⟩ := h.ex
  rw [← h2.left 199 1 (by omega) (by omega)]
  exact c_Left h1
theorem c_MList (h : TI N t r mb hb F H Q w M n) (i : Int) : Calls Tryd.prog 55 #[rp t, .int .i64 i] w
    (Ret fun v w' => ∃ q c, v = .slice q (listM M i).length c ∧ Ow 23 2 w.heap.size w' q (listM M i).length c (dvs (listM M i)) ∧ Below w.heap.size w w') := by
  obtain ⟨fl, bs, L, h1, h2, _⟩ := h.ex
  rw [← h2.list]
  exact c_tList h1 h2.wf i
theorem c_MCount (h : TI N t r mb hb F H Q w M n) : Calls Tryd.prog 68 #[rp r] w (Ret fun v w' => v = .int .i64 ((n : Nat) : Int) ∧ w = w') := by
  obtain ⟨fl, bs, L, h1, h2, h3, _⟩ := h.ex
  rw [← h3]
  exact c_rCount h1.ram
/-- What Look answers, its blocks' list apart. -/
def lookM (M : List ND) (i : Int) (b : Option Addr) (c : Nat) : Array Value := if thereM M i = true then #[.int .i64 i, .int .i64 (nd M i.toNat).typ, .int .i16 (nd M i.toNat).maj, .int .i16 (nd M i.toNat).min, .int .i64 (nd M i.toNat).links, .int .i64 (nd M i.toNat).refs, .int .i64 (((nd M i.toNat).size : Nat) : Int), .slice b (blkN (nd M i.toNat).size) c]
  else #[.int .i64 0, .int .i64 0, .int .i16 0, .int .i16 0, .int .i64 0, .int .i64 0, .int .i64 0, .slice b 0 c]
/-- How many blocks it tells. -/
def blksM (M : List ND) (i : Int) : Nat := if thereM M i = true then blkN (nd M i.toNat).size else 0
theorem c_MLook (h : TI N t r mb hb F H Q w M n) (i : Int) : Calls Tryd.prog 27 #[rp t, .int .i64 i] w
    (Ret fun v w' => Below w.heap.size w w' ∧ ∃ b c l, v = .agg (lookM M i b c) ∧ l.length = blksM M i ∧ Ow 100 1 w.heap.size w' b (blksM M i) c (fv l)) := by
  obtain ⟨fl, bs, L, h1, h2, _⟩ := h.ex
  refine (c_tLook h1 h2.wf i).mono ?_
  rintro _ w1 ⟨_, rfl, b1, hq⟩
  refine ⟨_, rfl, b1, ?_⟩
  rw [h2.there] at hq
  unfold lookM blksM
  by_cases ht : thereM M i = true
  · rw [if_pos ht] at hq
    simp only [if_pos ht]
    obtain ⟨x, q, c, hx, rfl, ho⟩ := hq
    have a := h2.at_ _ x hx
    refine ⟨q, c, x.blk, ?_, a.blk, ?_⟩
    · unfold lookC
      rw [a.typ, a.maj, a.min, a.links, a.refs, a.size, a.blk]
    · rw [← a.blk]; exact ho
  · rw [if_neg ht] at hq
    simp only [if_neg ht]
    subst hq
    exact ⟨none, 0, [], rfl, rfl, Ow.nil ..⟩
theorem win_cut {C : List UInt8} {s o m : Nat} (h : o + m ≤ s) : win C o m = win (win C 0 s) o m := by
  apply List.ext_getElem?
  intro j
  rw [win_get, win_get, win_get]
  by_cases hj : j < m
  · rw [if_pos hj, if_pos hj, if_pos (by omega), Nat.zero_add]
  · rw [if_neg hj, if_neg hj]
theorem c_MRead (h : TI N t r mb hb F H Q w M n) (i o m : Int) : Calls Tryd.prog 28 #[rp t, .int .i64 i, .int .i64 o, .int .i64 m] w
    (Ret fun v w' => ∃ (q : Option Addr) (c : Nat), v = .slice q (readM M i o m).length c ∧ Below w.heap.size w w' ∧ Ow 5 1 w.heap.size w' q (readM M i o m).length c (bv (readM M i o m))) := by
  obtain ⟨fl, bs, L, h1, h2, _⟩ := h.ex
  refine (c_tRead h1 h2.wf i o m).mono ?_
  rintro _ w1 ⟨_, rfl, q, k, c, rfl, b1, o1⟩
  have e : (match L[i.toNat]? with
      | some x => if thereD L i = true ∧ x.typ ≠ 3 ∧ 0 ≤ o ∧ 0 ≤ m ∧ o ≤ ((x.size : Nat) : Int) then win (cont bs x.blk) o.toNat (min m.toNat (x.size - o.toNat)) else []
      | none => []) = readM M i o m := by
    unfold readM
    rw [h2.there]
    by_cases ht : thereM M i = true
    · have hi := thereM_lt ht
      obtain ⟨x, hx, a⟩ := h2.get (i := i.toNat) (by omega)
      rw [hx]
      show (if _ then _ else _) = _
      rw [a.typ, a.size]
      by_cases hc : thereM M i = true ∧ (nd M i.toNat).typ ≠ 3 ∧ 0 ≤ o ∧ 0 ≤ m ∧ o ≤ (((nd M i.toNat).size : Nat) : Int)
      · rw [if_pos hc, if_pos hc, ← a.bytes (h2.ok.2 _)]
        exact win_cut (by omega)
      · rw [if_neg hc, if_neg hc]
    · rw [if_neg fun h' => ht h'.1]
      cases L[i.toNat]? with
      | none => rfl
      | some x => exact if_neg fun h' => ht h'.1
  have o1 : Ow 5 1 w.heap.size w1 q k c (bv (readM M i o m)) := by
    rw [← e]; exact o1
  have hk : (readM M i o m).length = k := by have := o1.len; rw [bv_length, Nat.mul_one] at this; exact this
  subst hk
  exact ⟨_, rfl, q, c, rfl, b1, o1⟩
/-! ### References -/
theorem Abs.set1 {bs : List UInt8} {L : List InD} (h : Abs bs L M) {i : Nat} {x' : InD} {y' : ND} (hi : i < 200) (hy : NdOk y') (ha : AbsI bs x' y') : Abs bs (L.set i x') (M.set i y') := h.set hi hy ha fun _ _ _ _ => rfl
theorem blk_mem {L : List InD} {i : Nat} {x x' : InD} {P : Nat → Prop} (hx : L[i]? = some x) (h : ∀ (j : Nat) (z : InD), L[j]? = some z → ∀ f ∈ z.blk, P f) (h' : ∀ f ∈ x'.blk, P f) : ∀ (j : Nat) (z : InD), (L.set i x')[j]? = some z → ∀ f ∈ z.blk, P f := fun j z hz => by
  rcases set_case hx hz with ⟨rfl, rfl⟩ | ⟨_, hz⟩
  · exact h'
  · exact h j z hz
theorem no_mem {L : List InD} {f i : Nat} {x x' : InD} (hx : L[i]? = some x) (h : ∀ (j : Nat) (z : InD), L[j]? = some z → f ∉ z.blk) (h' : f ∉ x'.blk) : ∀ (j : Nat) (z : InD), (L.set i x')[j]? = some z → f ∉ z.blk := fun j z hz => by
  rcases set_case hx hz with ⟨rfl, rfl⟩ | ⟨_, hz⟩
  · exact h'
  · exact h j z hz
theorem c_MHold (h : TI N t r mb hb F H Q w M n) (i : Int) : Calls Tryd.prog 52 #[rp t, .int .i64 i] w
    (Ret fun v w' => v = .int .i64 (holdM M i).2 ∧ Aft N t r mb hb F H Q w ((holdM M i).1, n) w') := by
  obtain ⟨fl, bs, L, h1, h2, h3, h4⟩ := h.ex
  refine (c_Hold h1 h2.wf i).mono ?_
  rintro _ w1 ⟨_, rfl, hq⟩
  refine ⟨_, rfl, ?_⟩
  rw [h2.there] at hq
  unfold holdM
  rcases hq with ⟨ht, rfl, rfl⟩ | ⟨x, ht, hx, hq⟩
  · rw [if_pos ht]
    exact ⟨rfl, Aft.same h (Below.refl _ _)⟩
  · have a := h2.at_ _ x hx
    have hi := thereM_lt ht
    have ho := h2.ok.2 i.toNat
    rw [if_neg (by rw [ht]; decide)]
    rw [a.refs] at hq
    rcases hq with ⟨hr, rfl, rfl⟩ | ⟨hr, rfl, h5, g5⟩
    · rw [if_pos hr]
      exact ⟨rfl, Aft.same h (Below.refl _ _)⟩
    · rw [if_neg hr]
      refine ⟨rfl, Q, ⟨fl, bs, _, h5, h2.set1 (by omega) ⟨ho.links, ⟨?_, ?_⟩, fun hz => absurd hz hi.2.2, ho.size, ho.ents, ho.dir, ho.dat⟩ ⟨a.typ, a.maj, a.min, a.links, rfl, a.size, a.blk, a.dat, a.dir⟩, h3, fun f hf => ⟨(h4 f hf).1, no_mem hx (h4 f hf).2 ((h4 f hf).2 _ x hx)⟩⟩, g5⟩
      · have := ho.refs
        show 0 ≤ (nd M i.toNat).refs + 1
        omega
      · have := ho.refs
        show (nd M i.toNat).refs + 1 ≤ 2147483647
        omega
theorem cont_nil (bs : List UInt8) : cont bs [] = [] := rfl
/-- The others' bytes, where one inode's frames turned. -/
theorem cont_others {bs bs' : List UInt8} {L : List InD} {i : Nat} {x : InD} (hn : (L.map InD.blk).flatten.Nodup) (hx : L[i]? = some x) (hc : ∀ B : List Nat, (∀ f ∈ B, f ∉ x.blk) → cont bs' B = cont bs B) : ∀ j z, j ≠ i → L[j]? = some z → cont bs' z.blk = cont bs z.blk := fun j z hj hz =>
  hc _ fun f hf hc' => nd_other hn hx hz (Ne.symm hj) hc' hf
end
end Go.Proofs.YthkcdkldpbndnaaDoor
namespace Go.Proofs.YthkcdkldpbndnaaDoor
open Go.RowKit Go.Hx
theorem blkN0 : blkN 0 = 0 := rfl
section
variable {N t r mb hb F : Nat} {H : List Nat} {Q : List SH} {w : World} {M : List ND} {n : Nat}
theorem zero_abs (bs : List UInt8) : AbsI bs zeroI ndZ := ⟨rfl, rfl, rfl, rfl, rfl, rfl, rfl, fun _ => rfl, fun h => absurd h (by decide)⟩
theorem c_MTrunc (h : TI N t r mb hb F H Q w M n) (i : Int) : Calls Tryd.prog 51 #[rp t, .int .i64 i] w
    (Ret fun v w' => v = .int .i64 (truncM M n i).2 ∧ Aft N t r mb hb F H Q w (truncM M n i).1 w') := by
  obtain ⟨fl, bs, L, h1, h2, h3, h4⟩ := h.ex
  refine (c_Trunc h1 h2.wf i).mono ?_
  rintro _ w1 ⟨_, rfl, hq⟩
  refine ⟨_, rfl, ?_⟩
  rw [h2.there] at hq
  unfold truncM
  rcases hq with ⟨ht, rfl, rfl⟩ | ⟨x, ht, hx, hq⟩
  · rw [if_pos ht]
    exact ⟨rfl, Aft.same h (Below.refl _ _)⟩
  · have a := h2.at_ _ x hx
    have hi := thereM_lt ht
    have ho := h2.ok.2 i.toNat
    rw [if_neg (by rw [ht]; decide)]
    rw [a.typ] at hq
    rcases hq with ⟨hr, rfl, rfl⟩ | ⟨hr, rfl, bs', h5, hc, g5⟩
    · rw [if_pos hr]
      exact ⟨rfl, Aft.same h (Below.refl _ _)⟩
    · rw [if_neg (by simpa using hr)]
      have hs : (nd M i.toNat).size = (nd M i.toNat).dat.length := by unfold ND.size; rw [if_neg (by omega)]
      have hs0 : ({ nd M i.toNat with dat := [] } : ND).size = 0 := by unfold ND.size; rw [if_neg (show ¬ (nd M i.toNat).typ = 1 by omega)]; rfl
      refine ⟨rfl, _, ⟨_, bs', _, h5, h2.set (by omega) ⟨ho.links, ho.refs, fun hz => absurd hz hi.2.2, by rw [hs0]; omega, ho.ents, ho.dir, fun _ => rfl⟩ ⟨rfl, a.maj, a.min, a.links, a.refs, hs0.symm, by rw [hs0]; rfl, fun _ => rfl, fun he => absurd he (show (nd M i.toNat).typ ≠ 1 by omega)⟩ (cont_others h1.nd hx hc), ?_, fun f hf => ⟨fun hc' => ?_, no_mem hx (h4 f hf).2 (by simp)⟩⟩, g5⟩
      · rw [List.length_append, List.length_reverse, a.blk, h3, hs]
        show _ = n + blkN (nd M i.toNat).dat.length
        omega
      · rcases List.mem_append.1 hc' with e | e
        · exact (h4 f hf).2 _ x hx (List.mem_reverse.1 e)
        · exact (h4 f hf).1 e
theorem c_MDrop (h : TI N t r mb hb F H Q w M n) (i : Int) : Calls Tryd.prog 53 #[rp t, .int .i64 i] w
    (Ret fun v w' => v = .int .i64 (dropM M n i).2 ∧ Aft N t r mb hb F H Q w (dropM M n i).1 w') := by
  obtain ⟨fl, bs, L, h1, h2, h3, h4⟩ := h.ex
  refine (c_Drop h1 h2.wf i).mono ?_
  rintro _ w1 ⟨_, rfl, hq⟩
  refine ⟨_, rfl, ?_⟩
  rw [h2.there] at hq
  unfold dropM
  rcases hq with ⟨ht, rfl, rfl⟩ | ⟨x, ht, hx, hq⟩
  · rw [if_pos ht]
    exact ⟨rfl, Aft.same h (Below.refl _ _)⟩
  · have a := h2.at_ _ x hx
    have hi := thereM_lt ht
    have ho := h2.ok.2 i.toNat
    have hl := h2.ok.1
    rw [if_neg (by rw [ht]; decide)]
    rw [a.refs, a.links] at hq
    have hself : nd (M.set i.toNat { nd M i.toNat with refs := (nd M i.toNat).refs - 1 }) i.toNat = { nd M i.toNat with refs := (nd M i.toNat).refs - 1 } := md_self (by omega)
    rcases hq with ⟨hr, rfl, rfl⟩ | ⟨hr, hz, rfl, h5, g5⟩ | ⟨hl0, hr, rfl, bs', h5, hc, g5⟩
    · rw [if_pos hr]
      exact ⟨rfl, Aft.same h (Below.refl _ _)⟩
    · rw [if_neg hr]
      have hR := ho.refs
      unfold letM
      rw [hself, if_neg (show ¬ ((nd M i.toNat).links = 0 ∧ (nd M i.toNat).refs - 1 = 0) by omega)]
      refine ⟨rfl, Q, ⟨fl, bs, _, h5, h2.set1 (by omega) ⟨ho.links, ⟨?_, ?_⟩, fun hz => absurd hz hi.2.2, ho.size, ho.ents, ho.dir, ho.dat⟩ ⟨a.typ, a.maj, a.min, rfl, rfl, a.size, a.blk, a.dat, a.dir⟩, h3, fun f hf => ⟨(h4 f hf).1, no_mem hx (h4 f hf).2 ((h4 f hf).2 _ x hx)⟩⟩, g5⟩
      · show 0 ≤ (nd M i.toNat).refs - 1
        omega
      · show (nd M i.toNat).refs - 1 ≤ 2147483647
        omega
    · rw [if_neg (by omega)]
      unfold letM
      rw [hself, if_pos (show ((nd M i.toNat).links = 0 ∧ (nd M i.toNat).refs - 1 = 0) by omega)]
      refine ⟨rfl, _, ⟨_, bs', _, h5, ?_, ?_, fun f hf => ⟨fun hc' => ?_, no_mem hx (h4 f hf).2 (by simp [zeroI])⟩⟩, g5⟩
      · show Abs bs' _ ((M.set i.toNat _).set i.toNat ndZ)
        rw [List.set_set]
        exact h2.set (by omega) ndZ_ok (zero_abs _) (cont_others h1.nd hx hc)
      · rw [List.length_append, List.length_reverse, a.blk, h3]
        show _ = n + blkN (nd M i.toNat).size
        omega
      · rcases List.mem_append.1 hc' with e | e
        · exact (h4 f hf).2 _ x hx (List.mem_reverse.1 e)
        · exact (h4 f hf).1 e
end
/-! ### Write -/
section
variable {N : Nat} {w : World} {t r mb hb F : Nat} {fl : List Nat} {bs : List UInt8} {L : List InD} {Q : List SH}
/-- How many frames the memory's own count tells. -/
def frC (r : Nat) (w : World) : Nat := match w.cell? ⟨r, 3, none⟩ with
  | some (.int _ f) => f.toNat
  | _ => 0
theorem frC_at (h : TrAt N w t r mb hb F fl bs L Q) : frC r w = fl.length := by
  unfold frC
  rw [h.ram.kr.cell (i := 3) rfl]
  show (((fl.length : Nat) : Int)).toNat = _
  omega
set_option maxRecDepth 100000 in
theorem c_tWrite (h : TrAt N w t r mb hb F fl bs L Q) (hN : N ≤ w.heap.size) (wf : WfL bs L) {i : Int} {o xl xc : Nat} {x : InD} {q : Option Addr} {xs : List UInt8} (ht : thereD L i = true) (hx : L[i.toNat]? = some x) (h2 : x.typ = 2) (ho : o ≤ x.size) (hs4 : x.size ≤ 262144)
    (hq : Rd 1 w q xl (bv xs)) (hc : xl ≤ xc) (hm : xl ≤ 140737488351232) (hsep : ∀ a, q = some a → ¬ TS t r mb hb Q a.block) :
    Calls Tryd.prog 25 #[rp t, .int .i64 i, .int .i64 ((o : Nat) : Int), .slice q xl xc] w (Ret fun v w' => ∃ (G fl' : List Nat) (bs' : List UInt8) (Q' : List SH) (m : Nat), v = .int .i64 ((m : Nat) : Int) ∧ fl = G ++ fl' ∧
      m = min (min xl (262144 - o)) ((x.blk.length + fl.length) * 4096 - o) ∧ o + m ≤ (x.blk.length + G.length) * 4096 ∧ (G = [] ∨ (x.blk.length + G.length - 1) * 4096 < o + m) ∧
      TrAt N w' t r mb hb F fl' bs' (L.set i.toNat { x with blk := x.blk ++ G, size := max x.size (o + m) }) Q' ∧
      cont bs' (x.blk ++ G) = ovl (cont bs x.blk ++ List.replicate (G.length * 4096) 0) o (xs.take m) ∧ (∀ B : List Nat, (∀ f ∈ B, f ∉ x.blk ∧ f ∉ fl) → cont bs' B = cont bs B) ∧ TrG t r mb hb Q Q' w w') := by
  obtain ⟨o1, o2, o3⟩ := wf.ok _ x hx
  obtain ⟨s, hs⟩ := h.getQ hx
  have hi := thereD_lt ht
  have hF := h.ram.F2
  have lx : xs.length = xl := by have := hq.len; rw [bv_length, Nat.mul_one] at this; exact this
  have hbd : 0 ≤ i ∧ i < ((200 : Nat) : Int) := ⟨by omega, by omega⟩
  refine W25_ok _ _ _ _ _ _ w _ ((c_tis h).mono ?_)
  rintro _ _ ⟨_, rfl, rfl, rfl⟩
  refine ⟨_, rfl, (c_there h i).mono ?_⟩
  rintro _ _ ⟨_, rfl, rfl, rfl⟩
  rw [ht]
  refine ⟨_, rfl, c_nb (fun hn => absurd hn (by decide)) (fun _ => nl ⟨hbd, _, by rw [ip_eq]; exact h.cell0 hx, c_ne (fun hne => absurd h2 hne) (fun _ => c_dec (fun hneg => absurd hneg (by omega)) (fun _ => nl ⟨hbd, _, by rw [ip_eq]; exact h.cell (k := 5) hx hs (by decide) rfl, c_dec (fun hgt => absurd hgt (by omega)) (fun _ => nl ⟨hbd, ?_⟩)⟩))⟩)⟩
  obtain ⟨n0, hn0⟩ : ∃ n0, n0 = min xl (262144 - o) := ⟨_, rfl⟩
  have e0 : (if IntKind.i64.wrap ((262144 : Int) - ((o : Nat) : Int)) < ((xl : Nat) : Int) then IntKind.i64.wrap ((262144 : Int) - ((o : Nat) : Int)) else ((xl : Nat) : Int)) = ((n0 : Nat) : Int) := by
    rw [wrap_in (by omega) (by omega)]
    split <;> omega
  refine ⟨fun t' w' => ∃ (m : Nat) (G fl' : List Nat) (bs' : List UInt8) (Q' : List SH), t' = (((m : Nat) : Int), ()) ∧ fl = G ++ fl' ∧ (G = [] ∨ (x.blk.length + G.length - 1) * 4096 < o + m) ∧
      (m = n0 ∨ (fl' = [] ∧ m ≤ n0 ∧ o + m = (x.blk.length + G.length) * 4096)) ∧
      TrAt N w' t r mb hb F fl' bs' (L.set i.toNat { x with blk := x.blk ++ G }) Q' ∧ cont bs' (x.blk ++ G) = cont bs x.blk ++ List.replicate (G.length * 4096) 0 ∧ (∀ B : List Nat, (∀ f ∈ B, f ∉ x.blk ∧ f ∉ fl) → cont bs' B = cont bs B) ∧ TrG t r mb hb Q Q' w w',
    fun t' w' => frC r w' + t'.1.toNat, ⟨(((n0 : Nat) : Int), ()), by rw [e0]; rfl, n0, [], fl, bs, Q, rfl, rfl, .inl rfl, .inl rfl, ?_, by simp, fun _ _ => rfl, TrG.of_below (Below.refl _ _)⟩, ?_⟩
  · have e1 : ({ x with blk := x.blk ++ [] } : InD) = x := by rw [List.append_nil]
    rw [e1, set_same hx]
    exact h
  rintro _ _ w1 ⟨m, G, fl', bs', Q1, rfl, hfl, hG, hm1, h1, hc1, hc2, g1⟩
  have hx1 : (L.set i.toNat { x with blk := x.blk ++ G })[i.toNat]? = some { x with blk := x.blk ++ G } := getL_set hx
  obtain ⟨s1, hs1⟩ := h1.getQ hx1
  have hlG : (x.blk ++ G).length = x.blk.length + G.length := List.length_append
  have hflen : fl.length = G.length + fl'.length := by rw [hfl, List.length_append]
  have hfl4 : fl.length ≤ 4096 := by
    have h3 := nodup_len F fl h.ram.nd fun f hf => (h.ram.low f hf).2
    omega
  have eb : IntKind.i64.wrap (((({ x with blk := x.blk ++ G } : InD).blk.length : Nat) : Int) * 4096) = (((x.blk.length + G.length) * 4096 : Nat) : Int) := by
    show IntKind.i64.wrap ((((x.blk ++ G).length : Nat) : Int) * 4096) = _
    rw [hlG, wrap_in (by omega) (by omega)]; omega
  have eo : IntKind.i64.wrap (((o : Nat) : Int) + ((m : Nat) : Int)) = ((o + m : Nat) : Int) := by rw [wrap_in (by omega) (by omega)]; omega
  dsimp only
  rw [ip_eq, eo]
  refine ⟨_, _, _, h1.cell (k := 6) hx1 hs1 (by decide) rfl, ?_⟩
  rw [eb]
  refine c_dec (fun hlt => ?_) (fun hge => ?_)
  · have hlt : (x.blk.length + G.length) * 4096 < o + m := by omega
    have hmn : m = n0 := by omega
    subst hmn
    cases fl' with
    | nil =>
      refine (c_grow0 h1 _).mono ?_
      rintro _ _ ⟨_, rfl, rfl, rfl⟩
      refine ⟨_, rfl, _, _, _, h1.cell (k := 6) hx1 hs1 (by decide) rfl, ?_⟩
      rw [eb]
      have e4 : IntKind.i64.wrap ((((x.blk.length + G.length) * 4096 : Nat) : Int) - ((o : Nat) : Int)) = (((x.blk.length + G.length) * 4096 - o : Nat) : Int) := by rw [wrap_in (by omega) (by omega)]; omega
      rw [e4]
      refine ⟨((((x.blk.length + G.length) * 4096 - o : Nat) : Int), ()), rfl, ⟨_, G, [], bs', Q1, rfl, hfl, ?_, .inr ⟨rfl, by omega, by omega⟩, h1, hc1, hc2, g1⟩, ?_⟩
      · rcases hG with e | e
        · exact .inl e
        · cases G with
          | nil => exact .inl rfl
          | cons a b => exact .inr (by rw [List.length_cons] at *; omega)
      · show frC r w1 + ((((x.blk.length + G.length) * 4096 - o : Nat) : Int)).toNat < frC r w1 + ((m : Nat) : Int).toNat
        omega
    | cons f fl' =>
      have hfin : f ∈ fl := by rw [hfl]; exact List.mem_append_right _ (List.mem_cons_self ..)
      have hfb : f * 4096 + 4096 ≤ bs'.length := by
        have := (h.ram.low f hfin).2
        have := h1.ram.len
        omega
      have hfx : f ∉ x.blk ++ G := fun hc' => (h1.held _ _ hx1 f hc').2.2 (List.mem_cons_self ..)
      refine (c_grow h1 (by have := g1.size; omega) hx1 (by show (x.blk ++ G).length ≤ 100000; omega)).mono ?_
      rintro _ w2 ⟨_, rfl, rfl, Q2, h3, g2⟩
      rw [List.set_set] at h3
      refine ⟨_, rfl, (((m : Nat) : Int), ()), rfl, ⟨m, G ++ [f], fl', alB bs' f, Q2, rfl, by rw [hfl, List.append_assoc]; rfl, .inr (by rw [List.length_append, List.length_singleton]; omega), .inl rfl, ?_, ?_, fun B hB => ?_, g1.trans g2⟩, ?_⟩
      · rw [← List.append_assoc]
        exact h3
      · rw [← List.append_assoc, cont_grow hfb hfx, hc1, List.append_assoc, List.length_append, List.length_singleton, Nat.add_mul, Nat.one_mul, ← List.replicate_append_replicate]
      · rw [cont_al hfb fun hc' => (hB f hc').2 hfin, hc2 B hB]
      · show frC r w2 + ((m : Nat) : Int).toNat < frC r w1 + ((m : Nat) : Int).toNat
        rw [frC_at h3, frC_at h1, List.length_cons]
        omega
  · have hge : o + m ≤ (x.blk.length + G.length) * 4096 := by omega
    have hmx : m ≤ xl := by omega
    refine ⟨⟨Int.natCast_nonneg m, by omega⟩, ?_⟩
    rw [slB0, Int.toNat_natCast, Nat.sub_zero, Nat.sub_zero]
    have hq1 : Rd 1 w1 q xl (bv xs) := hq.keep fun a ha hne => g1.1.block _ (hq.lt ha hne) (hsep a ha)
    have hq2 := hq1.take (i := m) (by omega)
    rw [bv_take] at hq2
    have hsr : ∀ a, q = some a → ¬ RS r mb hb a.block := fun a ha hr => hsep a ha (.inr (.inl hr))
    refine (c_put h1 hx1 hq2 (by omega) hsr (by show o + m ≤ (x.blk ++ G).length * 4096; rw [hlG]; exact hge) (by show (x.blk ++ G).length ≤ 1000000; omega)).mono ?_
    rintro _ w2 ⟨_, rfl, rfl, bs2, h3, hc3, hc4, g3⟩
    rw [List.set_set] at h3
    have hmE : m = min (min xl (262144 - o)) ((x.blk.length + fl.length) * 4096 - o) := by
      rcases hm1 with e | ⟨e, e2, e3⟩
      · omega
      · rw [e, List.length_nil] at hflen
        omega
    refine ⟨rfl, G, fl', bs2, Q1, m, rfl, hfl, hmE, hge, hG, h3, ?_, fun B hB => ?_, g1.trans g3⟩
    · rw [← hc1]; exact hc3
    · rw [hc4 B fun f hf hc' => ?_, hc2 B hB]
      rcases List.mem_append.1 hc' with e | e
      · exact (hB f hf).1 e
      · exact (hB f hf).2 (by rw [hfl]; exact List.mem_append_left _ e)
end
end Go.Proofs.YthkcdkldpbndnaaDoor
namespace Go.Proofs.YthkcdkldpbndnaaDoor
open Go.RowKit Go.Hx
theorem wrB_len {l : List UInt8} {o : Nat} {xs : List UInt8} (h : o ≤ l.length) : (wrB l o xs).length = max l.length (o + xs.length) := by
  unfold wrB
  rw [List.length_append, List.length_append, List.length_take, List.length_drop]
  omega
theorem wrB_get {l : List UInt8} {o : Nat} {xs : List UInt8} (h : o ≤ l.length) (j : Nat) : (wrB l o xs)[j]? = if o ≤ j ∧ j < o + xs.length then xs[j - o]? else l[j]? := by
  unfold wrB
  have h1 : (l.take o).length = o := by rw [List.length_take]; omega
  by_cases ha : j < o
  · rw [List.append_assoc, List.getElem?_append_left (by omega), List.getElem?_take_of_lt ha, if_neg (by omega)]
  · by_cases hb : j < o + xs.length
    · rw [List.append_assoc, List.getElem?_append_right (by omega), List.getElem?_append_left (by omega), if_pos ⟨by omega, hb⟩, h1]
    · rw [List.getElem?_append_right (by rw [List.length_append]; omega), if_neg (by omega), List.length_append, h1, List.getElem?_drop]
      congr 1; omega
theorem win_wr {C Z xs l : List UInt8} {s o : Nat} (hl : win C 0 s = l) (hs : l.length = s) (ho : o ≤ s) (hC : o + xs.length ≤ (C ++ Z).length) (hCs : s ≤ C.length) : win (ovl (C ++ Z) o xs) 0 (max s (o + xs.length)) = wrB l o xs := by
  apply List.ext_getElem?
  intro j
  rw [win_get, wrB_get (by omega), ovl_get hC, Nat.zero_add]
  by_cases hj : j < max s (o + xs.length)
  · rw [if_pos hj]
    by_cases h1 : o ≤ j ∧ j < o + xs.length
    · rw [if_pos h1, if_pos h1]
    · rw [if_neg h1, if_neg h1, List.getElem?_append_left (by omega), ← hl, win_get, if_pos (by omega), Nat.zero_add]
  · rw [if_neg hj, if_neg (by omega), List.getElem?_eq_none (by omega)]
section
variable {N t r mb hb F : Nat} {H : List Nat} {Q : List SH} {w : World} {M : List ND} {n : Nat}
set_option maxRecDepth 100000 in
theorem c_MWrite (h : TI N t r mb hb F H Q w M n) (hN : N ≤ w.heap.size) {i o : Int} {xl xc : Nat} {q : Option Addr} {xs : List UInt8} (hq : Rd 1 w q xl (bv xs)) (hc : xl ≤ xc) (hm : xl ≤ 140737488351232) (hsep : ∀ a, q = some a → ¬ TS t r mb hb Q a.block) :
    Calls Tryd.prog 25 #[rp t, .int .i64 i, .int .i64 o, .slice q xl xc] w (Ret fun v w' => v = .int .i64 (writeM M n i o xs).2 ∧ Aft N t r mb hb F H Q w (writeM M n i o xs).1 w') := by
  obtain ⟨fl, bs, L, h1, h2, h3, h4⟩ := h.ex
  have lx : xs.length = xl := by have := hq.len; rw [bv_length, Nat.mul_one] at this; exact this
  by_cases hbad : thereM M i = false ∨ (nd M i.toNat).typ ≠ 2 ∨ o < 0 ∨ ((nd M i.toNat).dat.length : Int) < o
  · have e : writeM M n i o xs = ((M, n), -1) := by unfold writeM; rw [if_pos hbad]
    rw [e]
    have fin : Aft N t r mb hb F H Q w (M, n) w := Aft.same h (Below.refl _ _)
    refine W25_ok _ _ _ _ _ _ w _ ((c_tis h1).mono ?_)
    rintro _ _ ⟨_, rfl, rfl, rfl⟩
    refine ⟨_, rfl, (c_there h1 i).mono ?_⟩
    rintro _ _ ⟨_, rfl, rfl, rfl⟩
    rw [h2.there]
    refine ⟨_, rfl, c_nb (fun hn => ⟨rfl, fin⟩) (fun hy => ?_)⟩
    have hi := thereM_lt hy
    have hbd : 0 ≤ i ∧ i < ((200 : Nat) : Int) := ⟨by omega, by omega⟩
    obtain ⟨x, hx, a⟩ := h2.get (i := i.toNat) (by omega)
    obtain ⟨s, hs⟩ := h1.getQ hx
    refine nl ⟨hbd, _, by rw [ip_eq]; exact h1.cell0 hx, c_ne (fun hne => ⟨rfl, fin⟩) (fun he => c_dec (fun hneg => ⟨rfl, fin⟩) (fun hpos => nl ⟨hbd, _, by rw [ip_eq]; exact h1.cell (k := 5) hx hs (by decide) rfl, c_dec (fun hgt => ⟨rfl, fin⟩) (fun hle => absurd hbad ?_)⟩))⟩
    have hty : (nd M i.toNat).typ = 2 := by rw [← a.typ]; exact he
    have hsz : x.size = (nd M i.toNat).dat.length := by rw [a.size]; unfold ND.size; rw [if_neg (by omega)]
    rw [hy]
    rintro (h' | h' | h' | h')
    · exact absurd h' (by decide)
    · exact h' hty
    · omega
    · omega
  · have e : writeM M n i o xs = ((M.set i.toNat { nd M i.toNat with dat := wrB (nd M i.toNat).dat o.toNat (xs.take (wrN (nd M i.toNat) n o.toNat xs.length)) },
        n - (blkN (o.toNat + wrN (nd M i.toNat) n o.toNat xs.length) - blkN (nd M i.toNat).dat.length)), ((wrN (nd M i.toNat) n o.toNat xs.length : Nat) : Int)) := by unfold writeM; rw [if_neg hbad]
    rw [e]
    have hy : thereM M i = true := by
      cases hh : thereM M i with
      | true => rfl
      | false => exact absurd (.inl hh) hbad
    have hty : (nd M i.toNat).typ = 2 := Classical.byContradiction fun hh => hbad (.inr (.inl hh))
    have ho0 : 0 ≤ o := by
      have : ¬ o < 0 := fun hh => hbad (.inr (.inr (.inl hh)))
      omega
    have ho1 : o ≤ ((nd M i.toNat).dat.length : Int) := by
      have : ¬ ((nd M i.toNat).dat.length : Int) < o := fun hh => hbad (.inr (.inr (.inr hh)))
      omega
    obtain ⟨k, rfl⟩ : ∃ k : Nat, o = (k : Int) := ⟨o.toNat, by omega⟩
    rw [Int.toNat_natCast]
    have hi := thereM_lt hy
    have hok := h2.ok.2 i.toNat
    obtain ⟨x, hx, a⟩ := h2.get (i := i.toNat) (by omega)
    have hsz : (nd M i.toNat).size = (nd M i.toNat).dat.length := by unfold ND.size; rw [if_neg (by omega)]
    have hxs : x.size = (nd M i.toNat).dat.length := by rw [a.size, hsz]
    have hz := hok.size
    rw [hsz] at hz
    have hblk : x.blk.length = blkN (nd M i.toNat).dat.length := by rw [a.blk, hsz]
    refine (c_tWrite h1 hN h2.wf (by rw [h2.there]; exact hy) hx (by rw [a.typ]; exact hty) (o := k) (by omega) (by omega) hq hc hm hsep).mono ?_
    rintro _ w1 ⟨_, rfl, G, fl', bs', Q', m, rfl, hfl, hmv, hm1, hm2, h5, hc1, hc2, g1⟩
    have hflen : fl.length = G.length + fl'.length := by rw [hfl, List.length_append]
    have hmm : m = wrN (nd M i.toNat) n k xs.length := by
      unfold wrN
      rw [lx, hmv, ← hblk, ← h3]
    rw [← hmm]
    have hdat := a.dat (by omega)
    have hCl := cont_len (bs := bs) (h1.fits hx)
    have hbl := blkN_le (nd M i.toNat).dat.length
    have htk : (xs.take m).length = m := by rw [List.length_take]; omega
    have hGl : x.blk.length + G.length = blkN (max (nd M i.toNat).dat.length (k + m)) := by
      have hu : ∀ z, blkN z = (z + 4095) / 4096 := fun z => rfl
      rw [hu] at hblk ⊢
      rcases hm2 with e | e
      · subst e
        rw [List.length_nil] at hm1 ⊢
        omega
      · omega
    have hw := win_wr (C := cont bs x.blk) (Z := List.replicate (G.length * 4096) 0) (xs := xs.take m) (o := k) hdat rfl (by omega) (by rw [List.length_append, List.length_replicate, htk, hCl, ← Nat.add_mul]; exact hm1) (by omega)
    rw [htk] at hw
    have hwl : (wrB (nd M i.toNat).dat k (xs.take m)).length = max (nd M i.toNat).dat.length (k + m) := by rw [wrB_len (by omega), htk]
    have hns : ({ nd M i.toNat with dat := wrB (nd M i.toNat).dat k (xs.take m) } : ND).size = max (nd M i.toNat).dat.length (k + m) := by
      unfold ND.size
      rw [if_neg (show ¬ (nd M i.toNat).typ = 1 by omega)]
      exact hwl
    refine ⟨_, rfl, rfl, Q', ⟨fl', bs', _, h5, h2.set (by omega) ⟨hok.links, hok.refs, fun hz' => absurd hz' hi.2.2, by rw [hns]; omega, hok.ents, hok.dir, fun he => absurd he (show (nd M i.toNat).typ ≠ 1 by omega)⟩ ⟨a.typ, a.maj, a.min, a.links, a.refs, by rw [hns]; show max x.size (k + m) = _; rw [hxs], ?_, fun _ => ?_, fun he => absurd he (show (nd M i.toNat).typ ≠ 1 by omega)⟩ (fun j z hj hz' => hc2 _ fun f hf => ⟨fun hc' => Go.Proofs.YthkcdkldpbndnaaDoor.nd_other h1.nd hz' hx hj hf hc', (h1.held j z hz' f hf).2.2⟩), ?_, fun f hf => ⟨fun hc' => (h4 f hf).1 (by rw [hfl]; exact List.mem_append_right _ hc'), no_mem hx (h4 f hf).2 fun hc' => ?_⟩⟩, g1⟩
    · rw [hns]
      show (x.blk ++ G).length = _
      rw [List.length_append]; exact hGl
    · show win (cont bs' (x.blk ++ G)) 0 (wrB (nd M i.toNat).dat k (xs.take m)).length = _
      rw [hwl, hc1]; exact hw
    · have hu : ∀ z, blkN z = (z + 4095) / 4096 := fun z => rfl
      rw [hu] at hblk hGl
      show fl'.length = n - (blkN (k + m) - blkN (nd M i.toNat).dat.length)
      rw [hu, hu]
      omega
    · rcases List.mem_append.1 hc' with e | e
      · exact (h4 f hf).2 _ x hx e
      · exact (h4 f hf).1 (by rw [hfl]; exact List.mem_append_left _ e)
end
end Go.Proofs.YthkcdkldpbndnaaDoor
namespace Go.Proofs.YthkcdkldpbndnaaDoor
open Go.RowKit Go.Hx
theorem ovl_at {C : List UInt8} {p : Nat} {x : List UInt8} (hx : x.length = 16) (hp : p * 16 + 16 ≤ C.length) : win (ovl C (p * 16) x) (p * 16) 16 = x := by
  rw [win_in (by omega) (Nat.le_refl _) (by omega), Nat.sub_self]
  unfold win
  rw [List.drop_zero, List.take_of_length_le (by omega)]
theorem ovl_off {C : List UInt8} {p j : Nat} {x : List UInt8} (hx : x.length = 16) (hp : p * 16 + 16 ≤ C.length) (hj : j ≠ p) : win (ovl C (p * 16) x) (j * 16) 16 = win C (j * 16) 16 := win_off (by omega) (by omega)
theorem packB_hole : packB 0 [] = List.replicate 16 0 := by decide
section
variable {N t r mb hb F : Nat} {H : List Nat} {Q : List SH} {w : World} {M : List ND} {n : Nat}
theorem TI.cell3 (h : TI N t r mb hb F H Q w M n) {i : Nat} (hi : i < 200) : w.cell? ((ip t i).add 3) = some (.int .i64 (nd M i).links) := by
  obtain ⟨fl, bs, L, h1, h2, _⟩ := h.ex
  obtain ⟨x, hx, a⟩ := h2.get hi
  obtain ⟨s, hs⟩ := h1.getQ hx
  rw [← a.links]
  exact h1.cell (k := 3) hx hs (by decide) rfl
theorem TI.cell0 (h : TI N t r mb hb F H Q w M n) {i : Nat} (hi : i < 200) : w.cell? (ip t i) = some (.int .i64 (nd M i).typ) := by
  obtain ⟨fl, bs, L, h1, h2, _⟩ := h.ex
  obtain ⟨x, hx, a⟩ := h2.get hi
  rw [← a.typ]
  exact h1.cell0 hx
theorem TI.mem (h : TI N t r mb hb F H Q w M n) : w.cell? (⟨t, 0, none⟩ : Addr) = some (rp r) := by
  obtain ⟨fl, bs, L, h1, h2, _⟩ := h.ex
  exact h1.mem
theorem TI.drew (h : TI N t r mb hb F H Q w M n) : TI N t r mb hb F H Q w.drew M n := h.keep fun _ _ => rfl
theorem TI.setLinks (h : TI N t r mb hb F H Q w M n) {i : Nat} (hi : i < 200) {v : Int} (hv : 0 ≤ v ∧ v ≤ 32767) (ht : (nd M i).typ ≠ 0) {K : World → Prop}
    (hK : ∀ w', TI N t r mb hb F H Q w' (M.set i { nd M i with links := v }) n → TrG t r mb hb Q Q w w' → K w') : stC ((ip t i).add 3) (.int .i64 v) w K := by
  obtain ⟨fl, bs, L, h1, h2, h3, h4⟩ := h.ex
  obtain ⟨x, hx, a⟩ := h2.get hi
  have ho := h2.ok.2 i
  refine h1.setF (k := 3) (x' := { x with links := v }) hx (by decide) rfl (fun s => rfl) fun w' h' m _ => hK w' ⟨fl, bs, _, h', h2.set1 hi ⟨hv, ho.refs, fun hz => absurd hz ht, ho.size, ho.ents, ho.dir, ho.dat⟩ ⟨a.typ, a.maj, a.min, rfl, a.refs, a.size, a.blk, a.dat, a.dir⟩, h3, fun f hf => ⟨(h4 f hf).1, no_mem hx (h4 f hf).2 ((h4 f hf).2 _ x hx)⟩⟩ (TrG.of_mod m)
theorem c_MSettle (h : TI N t r mb hb F H Q w M n) {i : Nat} (hi : i < 200) : Calls Tryd.prog 113 #[rp t, .pointer (some (ip t i))] w (Ret fun v w' => v = .tuple #[] ∧ Aft N t r mb hb F H Q w (letM M n i) w') := by
  obtain ⟨fl, bs, L, h1, h2, h3, h4⟩ := h.ex
  obtain ⟨x, hx, a⟩ := h2.get hi
  have hb := (h2.wf.ok i x hx).2.2
  unfold letM
  by_cases hz : (nd M i).links = 0 ∧ (nd M i).refs = 0
  · rw [if_pos hz]
    refine (c_settle1 h1 hx (by rw [a.links, a.refs]; exact hz) (by omega)).mono ?_
    rintro _ w1 ⟨_, rfl, rfl, bs', h5, hc, g5⟩
    refine ⟨_, rfl, rfl, _, ⟨_, bs', _, h5, h2.set hi ndZ_ok (zero_abs _) (cont_others h1.nd hx hc), ?_, fun f hf => ⟨fun hc' => ?_, no_mem hx (h4 f hf).2 (by simp [zeroI])⟩⟩, g5⟩
    · rw [List.length_append, List.length_reverse, a.blk, h3]
      show _ = n + blkN (nd M i).size
      omega
    · rcases List.mem_append.1 hc' with e | e
      · exact (h4 f hf).2 _ x hx (List.mem_reverse.1 e)
      · exact (h4 f hf).1 e
  · rw [if_neg hz]
    refine (c_settle0 h1 hx (by rw [a.links, a.refs]; exact hz)).mono ?_
    rintro _ _ ⟨_, rfl, rfl, rfl⟩
    exact ⟨_, rfl, rfl, Aft.same h (Below.refl _ _)⟩
theorem c_MEmpty (h : TI N t r mb hb F H Q w M n) {i : Nat} (hi : i < 200) (ht : (nd M i).typ ≠ 0) : Calls Tryd.prog 112 #[rp t, .pointer (some (ip t i))] w
    (Ret fun v w' => v = .tuple #[] ∧ Aft N t r mb hb F H Q w (M.set i { nd M i with dat := [], dir := [] }, n + blkN (nd M i).size) w') := by
  obtain ⟨fl, bs, L, h1, h2, h3, h4⟩ := h.ex
  obtain ⟨x, hx, a⟩ := h2.get hi
  have ho := h2.ok.2 i
  have hb := (h2.wf.ok i x hx).2.2
  have hs0 : ({ nd M i with dat := [], dir := [] } : ND).size = 0 := by unfold ND.size; split <;> rfl
  refine (c_empty h1 hx (by omega)).mono ?_
  rintro _ w1 ⟨_, rfl, rfl, bs', h5, hc, g5⟩
  refine ⟨_, rfl, rfl, _, ⟨_, bs', _, h5, h2.set hi ⟨ho.links, ho.refs, fun hz => absurd hz ht, by rw [hs0]; omega, fun e he => (by cases he), fun _ => rfl, fun _ => rfl⟩ ⟨a.typ, a.maj, a.min, a.links, a.refs, hs0.symm, by rw [hs0]; rfl, fun _ => rfl, fun _ k e he => by simp at he⟩ (cont_others h1.nd hx hc), ?_, fun f hf => ⟨fun hc' => ?_, no_mem hx (h4 f hf).2 (by simp)⟩⟩, g5⟩
  · rw [List.length_append, List.length_reverse, a.blk, h3]
    show _ = n + blkN (nd M i).size
    omega
  · rcases List.mem_append.1 hc' with e | e
    · exact (h4 f hf).2 _ x hx (List.mem_reverse.1 e)
    · exact (h4 f hf).1 e
/-- An entry is taken away. -/
theorem c_MHole (h : TI N t r mb hb F H Q w M n) {i k c : Nat} {q : Option Addr} (hi : i < 200) (ht : (nd M i).typ = 1) (hk : k < (nd M i).dir.length) (hq : Rd 1 w q 16 (bv (List.replicate 16 0))) (hc : 16 ≤ c) (hsep : ∀ a, q = some a → ¬ RS r mb hb a.block) :
    Calls Tryd.prog 83 #[rp t, .pointer (some (ip t i)), .int .i64 ((k * 16 : Nat) : Int), .slice q 16 c] w
      (Ret fun v w' => v = .tuple #[] ∧ Aft N t r mb hb F H Q w (M.set i { nd M i with dir := (nd M i).dir.set k (0, []) }, n) w') := by
  obtain ⟨fl, bs, L, h1, h2, h3, h4⟩ := h.ex
  obtain ⟨x, hx, a⟩ := h2.get hi
  have ho := h2.ok.2 i
  obtain ⟨_, hsz, hb⟩ := h2.wf.ok i x hx
  have hs : x.size = (nd M i).dir.length * 16 := by rw [a.size]; unfold ND.size; rw [if_pos ht]
  have hCl := cont_len (bs := bs) (h1.fits hx)
  refine (c_put h1 (o := k * 16) (n := 16) hx hq hc hsep (by omega) (by omega)).mono ?_
  rintro _ w1 ⟨_, rfl, rfl, bs', h5, hc1, hc2, g5⟩
  have e1 : ({ x with size := max x.size (k * 16 + 16) } : InD) = x := by rw [Nat.max_eq_left (by omega)]
  rw [e1] at h5
  have hds : ({ nd M i with dir := (nd M i).dir.set k (0, []) } : ND).size = (nd M i).size := by
    unfold ND.size
    rw [if_pos ht, if_pos ht]
    show ((nd M i).dir.set k (0, [])).length * 16 = _
    rw [List.length_set]
  refine ⟨_, rfl, rfl, Q, ⟨fl, bs', _, h5, h2.set hi ⟨ho.links, ho.refs, fun hz => absurd hz (by show (nd M i).typ ≠ 0; omega), by rw [hds]; exact ho.size, fun e he => ?_, fun hn => absurd ht hn, ho.dat⟩ ⟨a.typ, a.maj, a.min, a.links, a.refs, by rw [hds]; exact a.size, by rw [hds]; exact a.blk, fun hn => absurd ht hn, fun _ j e he => ?_⟩ (cont_others h1.nd hx hc2), h3, fun f hf => ⟨(h4 f hf).1, no_mem hx (h4 f hf).2 ((h4 f hf).2 _ x hx)⟩⟩, g5⟩
  · rcases List.mem_or_eq_of_mem_set he with he | rfl
    · exact ho.ents e he
    · exact hole_ok
  · have he : ((nd M i).dir.set k (0, []))[j]? = some e := he
    rw [hc1]
    by_cases hjk : k = j
    · subst hjk
      rw [List.getElem?_set_self hk] at he
      cases he
      rw [ovl_at (by simp) (by omega)]
      exact packB_hole.symm
    · rw [List.getElem?_set_ne hjk] at he
      rw [ovl_off (by simp) (by omega) (Ne.symm hjk)]
      exact a.dir ht j e he
/-- An entry is laid down. -/
theorem c_MEnter (h : TI N t r mb hb F H Q w M n) (hN : N ≤ w.heap.size) {i : Nat} {ino : Int} {nm : List UInt8} (hi : i < 200) (ht : (nd M i).typ = 1) (he : EntOk (ino, nm)) (hf : (demM (nd M i).dir).2 = true) (hn : (demM (nd M i).dir).1 ≤ n) :
    Calls Tryd.prog 79 #[rp t, .pointer (some (ip t i)), .agg (dirC ino nm)] w
      (Ret fun v w' => v = .tuple #[] ∧ Aft N t r mb hb F H Q w (M.set i { nd M i with dir := entM (nd M i).dir (ino, nm) }, n - (demM (nd M i).dir).1) w') := by
  obtain ⟨fl, bs, L, h1, h2, h3, h4⟩ := h.ex
  obtain ⟨x, hx, a⟩ := h2.get hi
  have ho := h2.ok.2 i
  obtain ⟨_, hsz, hb⟩ := h2.wf.ok i x hx
  have hsM : (nd M i).size = (nd M i).dir.length * 16 := by unfold ND.size; rw [if_pos ht]
  have hs : x.size = (nd M i).dir.length * 16 := by rw [a.size, hsM]
  have hCl := cont_len (bs := bs) (h1.fits hx)
  have hpl := a.place ho
  have hbk : x.blk.length = blkN ((nd M i).dir.length * 16) := by rw [a.blk, hsM]
  have hu : ∀ z, blkN z = (z + 4095) / 4096 := fun z => rfl
  have hzs := ho.size
  rw [hsM] at hzs
  have sz : ∀ d : List Ent, ({ nd M i with dir := d } : ND).size = d.length * 16 := fun d => by
    unfold ND.size
    exact if_pos ht
  cases hf' : (nd M i).dir.findIdx? isHo with
  | some k =>
    have hk := (List.findIdx?_eq_some_iff_getElem.1 hf').1
    have e1 : entM (nd M i).dir (ino, nm) = (nd M i).dir.set k (ino, nm) := by unfold entM; rw [hf']
    have e2 : (demM (nd M i).dir).1 = 0 := by unfold demM; rw [hf']; rfl
    rw [hf'] at hpl
    have hpl : placeD (cont bs x.blk) x = k * 16 := hpl
    rw [e1, e2]
    refine (c_enter0 h1 h2.wf hx (by rw [a.typ]; exact ht) (by omega) ino nm).mono ?_
    rintro _ w1 ⟨_, rfl, rfl, bs', h5, hc1, hc2, g5⟩
    rw [hpl] at h5 hc1
    have e3 : ({ x with size := max x.size (k * 16 + 16) } : InD) = x := by rw [Nat.max_eq_left (by omega)]
    rw [e3] at h5
    refine ⟨_, rfl, rfl, Q, ⟨fl, bs', _, h5, h2.set hi ⟨ho.links, ho.refs, fun hz => absurd hz (by show (nd M i).typ ≠ 0; omega), by rw [sz, List.length_set]; exact hzs, fun e he' => ?_, fun hn => absurd ht hn, ho.dat⟩ ⟨a.typ, a.maj, a.min, a.links, a.refs, by rw [sz, List.length_set]; exact hs, by rw [sz, List.length_set]; exact hbk, fun hn => absurd ht hn, fun _ j e he' => ?_⟩ (cont_others h1.nd hx hc2), h3, fun f hf => ⟨(h4 f hf).1, no_mem hx (h4 f hf).2 ((h4 f hf).2 _ x hx)⟩⟩, g5⟩
    · rcases List.mem_or_eq_of_mem_set he' with he' | rfl
      · exact ho.ents e he'
      · exact he
    · have he' : ((nd M i).dir.set k (ino, nm))[j]? = some e := he'
      rw [hc1]
      by_cases hjk : k = j
      · subst hjk
        rw [List.getElem?_set_self hk] at he'
        cases he'
        exact ovl_at (packB_len _ _) (by omega)
      · rw [List.getElem?_set_ne hjk] at he'
        rw [ovl_off (packB_len _ _) (by omega) (Ne.symm hjk)]
        exact a.dir ht j e he'
  | none =>
    have e1 : entM (nd M i).dir (ino, nm) = (nd M i).dir ++ [(ino, nm)] := by unfold entM; rw [hf']
    rw [hf'] at hpl
    have hpl : placeD (cont bs x.blk) x = (nd M i).size := hpl
    rw [hsM] at hpl
    have hfull : (nd M i).dir.length * 16 ≠ 262144 := fun hc => by
      unfold demM at hf
      rw [hf'] at hf
      have hf : (if (nd M i).dir.length * 16 = 262144 then ((0, false) : Nat × Bool) else if (nd M i).dir.length * 16 % 4096 = 0 then (1, true) else (0, true)).2 = true := hf
      rw [if_pos hc] at hf
      exact absurd hf (by decide)
    have hlen : ((nd M i).dir ++ [(ino, nm)]).length * 16 = (nd M i).dir.length * 16 + 16 := by rw [List.length_append, List.length_singleton]; omega
    have hents : ∀ e ∈ (nd M i).dir ++ [(ino, nm)], EntOk e := fun e he' => by
      rcases List.mem_append.1 he' with he' | he'
      · exact ho.ents e he'
      · rw [List.mem_singleton.1 he']; exact he
    rw [e1]
    by_cases h0 : (nd M i).dir.length * 16 % 4096 = 0
    · have e2 : (demM (nd M i).dir).1 = 1 := by
        unfold demM
        rw [hf']
        show (if (nd M i).dir.length * 16 = 262144 then ((0, false) : Nat × Bool) else if (nd M i).dir.length * 16 % 4096 = 0 then (1, true) else (0, true)).1 = 1
        rw [if_neg hfull, if_pos h0]
      rw [e2] at hn ⊢
      cases fl with
      | nil => simp at h3; omega
      | cons f fl' =>
        have hfm : ∀ g, g ∈ x.blk ++ [f] → g ∈ x.blk ∨ g = f := fun g hg => by
          rcases List.mem_append.1 hg with e | e
          · exact .inl e
          · exact .inr (List.mem_singleton.1 e)
        refine (c_enter1 h1 hN h2.wf hx (by rw [a.typ]; exact ht) (by rw [hu] at hbk; omega) ino nm).mono ?_
        rintro _ w1 ⟨_, rfl, rfl, bs', Q', h5, hc1, hc2, g5⟩
        rw [hpl] at h5 hc1
        rw [List.length_cons] at h3
        have hCl' : (cont bs x.blk ++ List.replicate 4096 (0 : UInt8)).length = x.blk.length * 4096 + 4096 := by rw [List.length_append, List.length_replicate, hCl]
        refine ⟨_, rfl, rfl, Q', ⟨fl', bs', _, h5, h2.set hi ⟨ho.links, ho.refs, fun hz => absurd hz (by show (nd M i).typ ≠ 0; omega), by rw [sz, hlen]; omega, hents, fun hn => absurd ht hn, ho.dat⟩ ⟨a.typ, a.maj, a.min, a.links, a.refs, by rw [sz, hlen]; show max x.size _ = _; omega, ?_, fun hn => absurd ht hn, fun _ j e he' => ?_⟩ (fun j z hj hz' => hc2 _ fun g hg => ⟨Go.Proofs.YthkcdkldpbndnaaDoor.nd_other h1.nd hz' hx hj hg, fun e => (h1.held j z hz' g hg).2.2 (by rw [e]; exact List.mem_cons_self ..)⟩), by show fl'.length = n - 1; omega, fun g hg => ⟨fun hc' => (h4 g hg).1 (List.mem_cons_of_mem _ hc'), no_mem hx (h4 g hg).2 fun hc' => ?_⟩⟩, g5⟩
        · rw [sz, hlen]
          show (x.blk ++ [f]).length = _
          rw [List.length_append, List.length_singleton, hbk, hu, hu]
          omega
        · have he' : ((nd M i).dir ++ [(ino, nm)])[j]? = some e := he'
          show win (cont bs' (x.blk ++ [f])) (j * 16) 16 = _
          rw [hc1]
          rw [hu] at hbk
          by_cases hjk : j = (nd M i).dir.length
          · subst hjk
            rw [List.getElem?_append_right (Nat.le_refl _), Nat.sub_self] at he'
            cases he'
            exact ovl_at (packB_len _ _) (by omega)
          · have hlt : j < (nd M i).dir.length := by
              have := (List.getElem?_eq_some_iff.1 he').1
              rw [List.length_append, List.length_singleton] at this
              omega
            rw [List.getElem?_append_left hlt] at he'
            rw [ovl_off (packB_len _ _) (by omega) hjk, win_app_left (by omega)]
            exact a.dir ht j e he'
        · rcases hfm g hc' with e | e
          · exact (h4 g hg).2 _ x hx e
          · exact (h4 g hg).1 (by rw [e]; exact List.mem_cons_self ..)
    · have e2 : (demM (nd M i).dir).1 = 0 := by
        unfold demM
        rw [hf']
        show (if (nd M i).dir.length * 16 = 262144 then ((0, false) : Nat × Bool) else if (nd M i).dir.length * 16 % 4096 = 0 then (1, true) else (0, true)).1 = 0
        rw [if_neg hfull, if_neg h0]
      rw [e2]
      rw [hu] at hbk
      refine (c_enter0 h1 h2.wf hx (by rw [a.typ]; exact ht) (by omega) ino nm).mono ?_
      rintro _ w1 ⟨_, rfl, rfl, bs', h5, hc1, hc2, g5⟩
      rw [hpl] at h5 hc1
      refine ⟨_, rfl, rfl, Q, ⟨fl, bs', _, h5, h2.set hi ⟨ho.links, ho.refs, fun hz => absurd hz (by show (nd M i).typ ≠ 0; omega), by rw [sz, hlen]; omega, hents, fun hn => absurd ht hn, ho.dat⟩ ⟨a.typ, a.maj, a.min, a.links, a.refs, by rw [sz, hlen]; show max x.size _ = _; omega, ?_, fun hn => absurd ht hn, fun _ j e he' => ?_⟩ (cont_others h1.nd hx hc2), h3, fun g hg => ⟨(h4 g hg).1, no_mem hx (h4 g hg).2 ((h4 g hg).2 _ x hx)⟩⟩, g5⟩
      · rw [sz, hlen, hu]
        show x.blk.length = _
        omega
      · have he' : ((nd M i).dir ++ [(ino, nm)])[j]? = some e := he'
        show win (cont bs' x.blk) (j * 16) 16 = _
        rw [hc1]
        by_cases hjk : j = (nd M i).dir.length
        · subst hjk
          rw [List.getElem?_append_right (Nat.le_refl _), Nat.sub_self] at he'
          cases he'
          exact ovl_at (packB_len _ _) (by omega)
        · have hlt : j < (nd M i).dir.length := by
            have := (List.getElem?_eq_some_iff.1 he').1
            rw [List.length_append, List.length_singleton] at this
            omega
          rw [List.getElem?_append_left hlt] at he'
          rw [ovl_off (packB_len _ _) (by omega) hjk]
          exact a.dir ht j e he'
/-- A directory is made. -/
theorem c_MDirectory (h : TI N t r mb hb F H Q w M n) (hN : N ≤ w.heap.size) {i p : Nat} (hi : 1 ≤ i ∧ i < 200) (hp : p < 200) (hz : (nd M i).typ = 0) (hn : 1 ≤ n) :
    Calls Tryd.prog 78 #[rp t, .int .i64 ((i : Nat) : Int), .int .i64 ((p : Nat) : Int)] w (Ret fun v w' => v = .tuple #[] ∧ Aft N t r mb hb F H Q w (M.set i (newND i p 1 0 0), n - 1) w') := by
  obtain ⟨fl, bs, L, h1, h2, h3, h4⟩ := h.ex
  obtain ⟨x, hx, a⟩ := h2.get hi.2
  have ho := h2.ok.2 i
  have hz' := ho.zero hz
  have hb0 : x.blk = [] := by
    have := a.blk
    rw [hz'] at this
    exact List.length_eq_zero_iff.1 this
  cases fl with
  | nil => simp at h3; omega
  | cons f fl' =>
    rw [List.length_cons] at h3
    refine (c_directory h1 hN hx hb0 ((p : Nat) : Int)).mono ?_
    rintro _ w1 ⟨_, rfl, rfl, bs', Q', h5, hc1, hc2, g5⟩
    have e2 : newND i p 1 0 0 = ⟨1, 0, 0, 1, 0, [], [((i : Int), [46]), ((p : Int), [46, 46])]⟩ := rfl
    have k1 : EntOk ((i : Int), [46]) := ⟨by omega, by show (i : Int) < 200; omega, show ([46] : List UInt8).length ≤ 14 by decide, show (0 : UInt8) ∉ [46] by decide⟩
    have k2 : EntOk ((p : Int), [46, 46]) := ⟨by omega, by show (p : Int) < 200; omega, show ([46, 46] : List UInt8).length ≤ 14 by decide, show (0 : UInt8) ∉ [46, 46] by decide⟩
    have l1 := packB_len ((i : Nat) : Int) [46]
    have l2 := packB_len ((p : Nat) : Int) [46, 46]
    have hsz : (⟨1, 0, 0, 1, 0, [], [((i : Int), [46]), ((p : Int), [46, 46])]⟩ : ND).size = 32 := by
      unfold ND.size
      rw [if_pos rfl]; rfl
    rw [e2]
    refine ⟨_, rfl, rfl, Q', ⟨fl', bs', _, h5, h2.set hi.2 ⟨⟨show (0 : Int) ≤ 1 by decide, show (1 : Int) ≤ 32767 by decide⟩, ⟨show (0 : Int) ≤ 0 by decide, show (0 : Int) ≤ 2147483647 by decide⟩, fun hc => absurd hc (show (1 : Int) ≠ 0 by decide), by rw [hsz]; decide, fun e he => ?_, fun hc => absurd rfl hc, fun _ => rfl⟩ ⟨rfl, rfl, rfl, rfl, rfl, hsz.symm, by rw [hsz]; rfl, fun hc => absurd rfl hc, fun _ j e he => ?_⟩ (fun j z hj hz' => hc2 _ fun hc' => (h1.held j z hz' f hc').2.2 (List.mem_cons_self ..)), by show fl'.length = n - 1; omega, fun g hg => ⟨fun hc' => (h4 g hg).1 (List.mem_cons_of_mem _ hc'), no_mem hx (h4 g hg).2 fun hc' => (h4 g hg).1 ?_⟩⟩, g5⟩
    · rcases List.mem_cons.1 he with rfl | he
      · exact k1
      · rw [List.mem_singleton.1 he]; exact k2
    · show win (cont bs' [f]) (j * 16) 16 = _
      rw [hc1]
      unfold dirB
      have hl : (packB ((i : Nat) : Int) [46] ++ packB ((p : Nat) : Int) [46, 46]).length = 32 := by rw [List.length_append, l1, l2]
      match j, he with
      | 0, he =>
        have he : some (((i : Nat) : Int), [46]) = some e := he
        cases he
        rw [win_in (by rw [hl, List.length_replicate]; omega) (by omega) (by omega)]
        unfold win
        rw [List.drop_zero, List.take_left' l1]
      | 1, he =>
        have he : some (((p : Nat) : Int), [46, 46]) = some e := he
        cases he
        rw [win_in (by rw [hl, List.length_replicate]; omega) (by omega) (by omega)]
        unfold win
        rw [show 1 * 16 - 0 = 16 by omega, List.drop_left' l1, List.take_of_length_le (by omega)]
      | j + 2, he => simp at he
    · have hc' : g ∈ [f] := hc'
      rw [List.mem_singleton.1 hc']
      exact List.mem_cons_self ..
/-- A row is written: a new inode that is no directory. -/
theorem TI.setNode (h : TI N t r mb hb F H Q w M n) {i : Nat} {typ maj min : Int} (hi : i < 200) (hz : (nd M i).typ = 0) (ht : typ ≠ 0 ∧ typ ≠ 1) {K : World → Prop}
    (hK : ∀ w', TI N t r mb hb F H Q w' (M.set i ⟨typ, maj, min, 1, 0, [], []⟩) n → TrG t r mb hb Q Q w w' → K w') : stA 6 (ip t i) #[.int .i64 typ, .int .i16 maj, .int .i16 min, .int .i64 1, .int .i64 0, .int .i64 0] w K := by
  obtain ⟨fl, bs, L, h1, h2, h3, h4⟩ := h.ex
  obtain ⟨x, hx, a⟩ := h2.get hi
  obtain ⟨s, hs⟩ := h1.getQ hx
  have ho := h2.ok.2 i
  have hz' := ho.zero hz
  have hb0 : x.blk = [] := by
    have := a.blk
    rw [hz'] at this
    exact List.length_eq_zero_iff.1 this
  have hs0 : (⟨typ, maj, min, 1, 0, [], []⟩ : ND).size = 0 := by unfold ND.size; rw [if_neg ht.2]; rfl
  refine h1.setRow (n := 6) (x' := ⟨typ, maj, min, 1, 0, 0, []⟩) (l := [.int .i64 typ, .int .i16 maj, .int .i16 min, .int .i64 1, .int .i64 0, .int .i64 0]) hx hs (by rw [hb0]) rfl (by decide) (by
    unfold inoV
    rw [hb0]; rfl) (fun c hc => List.all_eq_true.1 (show ([.int .i64 typ, .int .i16 maj, .int .i16 min, .int .i64 1, .int .i64 0, .int .i64 0] : List Value).all one = true by rfl) c hc) fun w' h' m _ => hK w' ⟨fl, bs, _, h', h2.set1 hi ⟨⟨show (0 : Int) ≤ 1 by decide, show (1 : Int) ≤ 32767 by decide⟩, ⟨show (0 : Int) ≤ 0 by decide, show (0 : Int) ≤ 2147483647 by decide⟩, fun hc => absurd hc ht.1, by rw [hs0]; omega, fun e he => (by cases he), fun _ => rfl, fun _ => rfl⟩ ⟨rfl, rfl, rfl, rfl, rfl, hs0.symm, by rw [hs0]; rfl, fun _ => rfl, fun hc => absurd hc ht.2⟩, h3, fun f hf => ⟨(h4 f hf).1, no_mem hx (h4 f hf).2 (by simp)⟩⟩ (TrG.of_mod m)
end
end Go.Proofs.YthkcdkldpbndnaaDoor
namespace Go.Proofs.YthkcdkldpbndnaaDoor
open Go.RowKit Go.Hx
theorem walkM_lt {M : List ND} (ok : MOk M) : ∀ (l : List (List UInt8)) (a : Nat), a < 200 → (walkM M a l).2 = 0 → 0 ≤ (walkM M a l).1 ∧ (walkM M a l).1 < 200
  | [], a, ha, _ => by
    show 0 ≤ ((a : Nat) : Int) ∧ ((a : Nat) : Int) < 200
    omega
  | s :: r, a, ha, h => by
    unfold walkM at h ⊢
    by_cases ht : (nd M a).typ ≠ 1
    · rw [if_pos ht] at h
      exact absurd h (show (183 : Int) ≠ 0 by decide)
    · rw [if_neg ht] at h ⊢
      cases hf : (nd M a).dir.findIdx? (isEn s) with
      | none =>
        rw [hf] at h
        exact absurd h (show (182 : Int) ≠ 0 by decide)
      | some k =>
        rw [hf] at h
        have hk := (List.findIdx?_eq_some_iff_getElem.1 hf).1
        have hg : (nd M a).dir.getD k (0, []) = (nd M a).dir[k] := by rw [List.getD_eq_getElem?_getD, List.getElem?_eq_getElem hk]; rfl
        have hok := (ok.2 a).ents _ (List.getElem_mem hk)
        have e1 := hok.lo
        have e2 := hok.hi
        refine walkM_lt ok r _ ?_ h
        rw [hg]; omega
theorem lastM_ok {M : List ND} (ok : MOk M) {cwd : Int} {s : List UInt8} (h : (lastM M cwd s).2.2 = 0) : 0 ≤ (lastM M cwd s).1 ∧ (lastM M cwd s).1 < 200 ∧ (nd M (lastM M cwd s).1.toNat).typ = 1 ∧ (lastM M cwd s).2.1 ∈ names s ∧ (lastM M cwd s).2.1 ≠ [46] ∧ (lastM M cwd s).2.1 ≠ [46, 46] := by
  have h0 := h
  unfold lastM at h
  by_cases hr : refM M cwd s ≠ 0
  · rw [if_pos hr] at h
    exact absurd h hr
  · rw [if_neg hr] at h
    cases hg : (names s).getLast? with
    | none =>
      rw [hg] at h
      exact absurd h (show (184 : Int) ≠ 0 by decide)
    | some nm =>
      rw [hg] at h
      have h : (if nm = [46] ∨ nm = [46, 46] then ((0, [], 184) : Int × List UInt8 × Int) else if (walkM M (begD cwd s) (names s).dropLast).2 ≠ 0 then (0, [], (walkM M (begD cwd s) (names s).dropLast).2)
        else if (nd M (walkM M (begD cwd s) (names s).dropLast).1.toNat).typ ≠ 1 then (0, [], 183) else ((walkM M (begD cwd s) (names s).dropLast).1, nm, 0)).2.2 = 0 := h
      by_cases hn : nm = [46] ∨ nm = [46, 46]
      · rw [if_pos hn] at h
        exact absurd h (show (184 : Int) ≠ 0 by decide)
      · rw [if_neg hn] at h
        by_cases hw : (walkM M (begD cwd s) (names s).dropLast).2 ≠ 0
        · rw [if_pos hw] at h
          exact absurd h hw
        · rw [if_neg hw] at h
          by_cases ht : (nd M (walkM M (begD cwd s) (names s).dropLast).1.toNat).typ ≠ 1
          · rw [if_pos ht] at h
            exact absurd h (show (183 : Int) ≠ 0 by decide)
          · have e : lastM M cwd s = ((walkM M (begD cwd s) (names s).dropLast).1, nm, 0) := by
              unfold lastM
              rw [if_neg hr, hg]
              show (if _ then _ else _) = _
              rw [if_neg hn, if_neg hw, if_neg ht]
            rw [e]
            have hb : begD cwd s < 200 := by
              have hr : refM M cwd s = 0 := by simpa using hr
              unfold refM at hr
              split at hr
              · exact absurd hr (by decide)
              · rename_i hth
                have := thereM_lt (by simpa using hth : thereM M cwd = true)
                unfold begD
                split <;> omega
            have hlt := walkM_lt ok (names s).dropLast _ hb (by simpa using hw)
            exact ⟨hlt.1, hlt.2, by simpa using ht, List.mem_of_getLast? hg, fun e => hn (.inl e), fun e => hn (.inr e)⟩
def lookMV (d : List Ent) (s : List UInt8) : Value := match d.findIdx? (isEn s) with
  | some k => .tuple #[.int .i64 (d.getD k (0, [])).1, .int .i64 ((k * 16 : Nat) : Int), .bool true]
  | none => .tuple #[.int .i64 0, .int .i64 0, .bool false]
section
variable {N t r mb hb F : Nat} {H : List Nat} {Q : List SH} {w : World} {M : List ND} {n : Nat}
theorem c_Mis (h : TI N t r mb hb F H Q w M n) : Calls Tryd.prog 80 #[rp t] w (Ret fun v w' => v = .bool true ∧ w = w') := by
  obtain ⟨fl, bs, L, h1, h2, _⟩ := h.ex
  exact c_tis h1
theorem c_Mthere (h : TI N t r mb hb F H Q w M n) (i : Int) : Calls Tryd.prog 81 #[rp t, .int .i64 i] w (Ret fun v w' => v = .bool (thereM M i) ∧ w = w') := by
  obtain ⟨fl, bs, L, h1, h2, _⟩ := h.ex
  rw [← h2.there]
  exact c_there h1 i
theorem c_Mlast (h : TI N t r mb hb F H Q w M n) (cwd : Int) (s : List UInt8) : Calls Tryd.prog 73 #[rp t, .int .i64 cwd, .string (str s)] w (Ret fun v w' => v = LastV (lastM M cwd s) ∧ Below w.heap.size w w') := by
  obtain ⟨fl, bs, L, h1, h2, _⟩ := h.ex
  rw [← h2.last]
  exact c_tlast h1 h2.wf cwd s
theorem c_Mfree (h : TI N t r mb hb F H Q w M n) : Calls Tryd.prog 75 #[rp t] w (Ret fun v w' => v = .int .i64 ((freeM M 199 1 : Nat) : Int) ∧ w = w') := by
  obtain ⟨fl, bs, L, h1, h2, _⟩ := h.ex
  rw [← h2.free 199 1 (by omega) (by omega)]
  exact c_free h1
theorem c_Mlook (h : TI N t r mb hb F H Q w M n) {i : Nat} (hi : i < 200) (s : List UInt8) : Calls Tryd.prog 76 #[rp t, .pointer (some (ip t i)), .string (str s)] w (Ret fun v w' => v = lookMV (nd M i).dir s ∧ Below w.heap.size w w') := by
  obtain ⟨fl, bs, L, h1, h2, _⟩ := h.ex
  obtain ⟨x, hx, a⟩ := h2.get hi
  have ho := h2.ok.2 i
  obtain ⟨o1, o2, o3⟩ := h2.wf.ok i x hx
  have e : lookV (cont bs x.blk) s (nEnt x) = lookMV (nd M i).dir s := by
    unfold lookV lookMV
    rw [a.look ho]
    cases hf : (nd M i).dir.findIdx? (isEn s) with
    | none => rfl
    | some k =>
      have hk := (List.findIdx?_eq_some_iff_getElem.1 hf).1
      have he : (nd M i).dir[k]? = some ((nd M i).dir[k]) := List.getElem?_eq_getElem hk
      have hg : (nd M i).dir.getD k (0, []) = (nd M i).dir[k] := by rw [List.getD_eq_getElem?_getD, he]; rfl
      show Value.tuple #[.int .i64 (entD (win (cont bs x.blk) (k * 16) 16)).1, _, _] = .tuple #[.int .i64 ((nd M i).dir.getD k (0, [])).1, _, _]
      rw [a.ent ho he, hg]
  rw [← e]
  exact c_look h1 hx o1 o2 (by omega) s
theorem c_Mwants (h : TI N t r mb hb F H Q w M n) {i : Nat} (hi : i < 200) (ht : (nd M i).typ = 1) : Calls Tryd.prog 77 #[rp t, .pointer (some (ip t i))] w
    (Ret fun v w' => v = .tuple #[.int .i64 (((demM (nd M i).dir).1 : Nat) : Int), .bool (demM (nd M i).dir).2] ∧ Below w.heap.size w w') := by
  obtain ⟨fl, bs, L, h1, h2, _⟩ := h.ex
  obtain ⟨x, hx, a⟩ := h2.get hi
  have e := a.want (h2.ok.2 i) ht
  have := c_wants h1 h2.wf hx
  rw [e] at this
  exact this
theorem lookMV_eq (d : List Ent) (s : List UInt8) : ∃ a b, lookMV d s = .tuple #[.int .i64 a, .int .i64 b, .bool (d.findIdx? (isEn s)).isSome] := by
  unfold lookMV
  cases d.findIdx? (isEn s) with
  | none => exact ⟨_, _, rfl⟩
  | some k => exact ⟨_, _, rfl⟩
theorem c_MLink (h : TI N t r mb hb F H Q w M n) (hN : N ≤ w.heap.size) (i cwd : Int) (s : List UInt8) : Calls Tryd.prog 49 #[rp t, .int .i64 i, .int .i64 cwd, .string (str s)] w
    (Ret fun v w' => v = .int .i64 (linkM M n i cwd s).2 ∧ Aft N t r mb hb F H Q w (linkM M n i cwd s).1 w') := by
  refine W49_ok _ _ _ _ w _ ((c_Mis h).mono ?_)
  rintro _ _ ⟨_, rfl, rfl, rfl⟩
  refine ⟨_, rfl, (c_Mthere h i).mono ?_⟩
  rintro _ _ ⟨_, rfl, rfl, rfl⟩
  refine ⟨_, rfl, c_nb (fun hn => ?_) (fun hy => ?_)⟩
  · have e : linkM M n i cwd s = ((M, n), 180) := by unfold linkM; rw [if_pos hn]
    rw [e]
    exact ⟨rfl, Aft.same h (Below.refl _ _)⟩
  have hi := thereM_lt hy
  have hbd : 0 ≤ i ∧ i < ((200 : Nat) : Int) := ⟨by omega, by omega⟩
  have hy' : ¬ thereM M i = false := by rw [hy]; decide
  refine nl ⟨hbd, _, by rw [ip_eq]; exact h.cell0 (by omega), c_eq (fun h1 => ?_) (fun h1 => (c_Mlast h cwd s).mono ?_)⟩
  · have e : linkM M n i cwd s = ((M, n), 183) := by unfold linkM; rw [if_neg hy', if_pos h1]
    rw [e]
    exact ⟨rfl, Aft.same h (Below.refl _ _)⟩
  rintro _ w1 ⟨_, rfl, rfl, b1⟩
  have k1 := h.below b1
  have z1 := b1.size
  refine ⟨_, _, _, rfl, c_ne (fun hc => ?_) (fun hc => ?_)⟩
  · have e : linkM M n i cwd s = ((M, n), (lastM M cwd s).2.2) := by unfold linkM; rw [if_neg hy', if_neg h1, if_pos hc]
    rw [e]
    exact ⟨rfl, Aft.same h b1⟩
  obtain ⟨d0, d1, dt, dm, _, _⟩ := lastM_ok h.ok hc
  have eL : linkM M n i cwd s = if linkCode M n (lastM M cwd s).1.toNat i.toNat (lastM M cwd s).2.1 ≠ 0 then ((M, n), linkCode M n (lastM M cwd s).1.toNat i.toNat (lastM M cwd s).2.1) else
      ((linkD M i.toNat (lastM M cwd s).1.toNat (lastM M cwd s).2.1, n - (demM (nd M (lastM M cwd s).1.toNat).dir).1), 0) := by
    unfold linkM; rw [if_neg hy', if_neg h1, if_neg (by simpa using hc)]
  rw [eL]
  obtain ⟨nm_len, nm0, _, _⟩ := names_ok dm
  generalize hd : (lastM M cwd s).1 = dI at *
  generalize hnm : (lastM M cwd s).2.1 = nm at *
  obtain ⟨d, rfl⟩ : ∃ d : Nat, dI = (d : Int) := ⟨dI.toNat, by omega⟩
  rw [Int.toNat_natCast] at dt ⊢
  have hdl : d < 200 := by omega
  refine nl ⟨⟨by omega, by omega⟩, ?_⟩
  rw [ip_eq]
  refine (c_Mlook k1 hdl nm).mono ?_
  rintro _ w2 ⟨_, rfl, rfl, b2⟩
  obtain ⟨p1, p2, pe⟩ := lookMV_eq (nd M d).dir nm
  have b12 := b1.trans (b2.mono z1)
  have z2 := b12.size
  refine ⟨_, _, _, congrArg Ending.returned pe, (c_Mwants (h.below b12) hdl dt).mono ?_⟩
  rintro _ w3 ⟨_, rfl, rfl, b3⟩
  have b13 := b12.trans (b3.mono z2)
  have z3 := b13.size
  have k3 := h.below b13
  have stay : ∀ c, linkCode M n d i.toNat nm = c → c ≠ 0 → Value.int .i64 c = .int .i64 (if linkCode M n d i.toNat nm ≠ 0 then ((M, n), linkCode M n d i.toNat nm) else ((linkD M i.toNat d nm, n - (demM (nd M d).dir).1), 0) : MS × Int).2 ∧ Aft N t r mb hb F H Q w (if linkCode M n d i.toNat nm ≠ 0 then ((M, n), linkCode M n d i.toNat nm) else ((linkD M i.toNat d nm, n - (demM (nd M d).dir).1), 0) : MS × Int).1 w3 := fun c hc hc0 => by
    rw [hc, if_pos hc0]
    exact ⟨rfl, Aft.same h b13⟩
  refine ⟨_, _, rfl, _, k3.cell3 hdl, c_eq (fun c1 => stay 186 (by unfold linkCode; rw [if_pos c1]) (by decide)) (fun c1 => c_b (fun c2 => stay 185 (by unfold linkCode; rw [if_neg c1, if_pos c2]) (by decide)) (fun c2 => ?_))⟩
  have c2' : ¬ ((nd M d).dir.findIdx? (isEn nm)).isSome = true := by rw [c2]; decide
  refine nl ⟨hbd, _, by rw [ip_eq]; exact k3.cell3 (by omega), c_dec (fun c3 => stay 190 (by unfold linkCode; rw [if_neg c1, if_neg c2', if_pos (by omega)]) (by decide)) (fun c3 => c_nb (fun c4 => stay 187 (by unfold linkCode; rw [if_neg c1, if_neg c2', if_neg (by omega), if_pos c4]) (by decide)) (fun c4 => nl ⟨_, k3.mem, (c_MCount k3).mono ?_⟩))⟩
  rintro _ _ ⟨_, rfl, rfl, rfl⟩
  have c4' : ¬ (demM (nd M d).dir).2 = false := by rw [c4]; decide
  refine ⟨_, rfl, c_dec (fun c5 => stay 189 (by unfold linkCode; rw [if_neg c1, if_neg c2', if_neg (by omega), if_neg c4', if_pos (by omega)]) (by decide)) (fun c5 => ?_)⟩
  have e0 : linkCode M n d i.toNat nm = 0 := by unfold linkCode; rw [if_neg c1, if_neg c2', if_neg (by omega), if_neg c4', if_neg (by omega)]
  rw [e0, if_neg (by decide)]
  have eI : EntOk (i, nm) := ⟨by show 0 ≤ i; omega, hi.2.1, nm_len, nm0⟩
  refine ⟨_, bldD _ _, (c_MEnter k3 (by omega) hdl dt eI c4 (by omega)).mono ?_⟩
  rintro _ w4 ⟨_, rfl, rfl, Q', k4, g4⟩
  have hne : d ≠ i.toNat := fun e => h1 (by rw [← e]; exact dt)
  have ei : nd (M.set d { nd M d with dir := entM (nd M d).dir (i, nm) }) i.toNat = nd M i.toNat := md_other hne
  have hl := (h.ok.2 i.toNat).links
  have cell : w4.drew.cell? ((ip t i.toNat).add 3) = some (.int .i64 (nd M i.toNat).links) := by
    have := k4.drew.cell3 (i := i.toNat) (by omega)
    rw [ei] at this
    exact this
  refine ⟨rfl, nl ⟨hbd, fun w' => w' = w4.drew, rfl, _, fun w' e => (by rw [e, ip_eq]; exact cell), nl ⟨hbd, ?_⟩⟩⟩
  rw [ip_eq, wrap_in (by omega) (by omega)]
  refine k4.drew.setLinks (by omega) (by omega) (by rw [ei]; exact hi.2.2) fun w5 k5 g5 => ⟨rfl, Q', ?_, ((TrG.of_below b13).trans g4).trans ((TrG.of_below (below_drew _ _)).trans g5)⟩
  rw [ei] at k5
  have e9 : ((i.toNat : Nat) : Int) = i := by omega
  unfold linkD
  rw [e9]
  exact k5
end
end Go.Proofs.YthkcdkldpbndnaaDoor
namespace Go.Proofs.YthkcdkldpbndnaaDoor
open Go.RowKit Go.Hx
theorem callsR_mono {P : Program} {f : FuncId} {args : Array Value} {w : World} {R R' : World → Prop} (h : CallsR P f args w R) (hk : ∀ w', R w' → R' w') : CallsR P f args w R' := CallsDIn.mono h (by
  rintro e u w' ⟨h1, h2, h3⟩
  exact ⟨h1, h2, hk _ h3⟩)
theorem freeM_ok (M : List ND) : ∀ (n k : Nat), freeM M n k = 0 ∨ (k ≤ freeM M n k ∧ freeM M n k < k + n ∧ (nd M (freeM M n k)).typ = 0)
  | 0, k => .inl rfl
  | n + 1, k => by
    unfold freeM
    by_cases h : (nd M k).typ ≠ 0
    · rw [if_pos h]
      rcases freeM_ok M n (k + 1) with h1 | ⟨h1, h2, h3⟩
      · exact .inl h1
      · exact .inr ⟨by omega, by omega, h3⟩
    · rw [if_neg h]
      exact .inr ⟨Nat.le_refl _, by omega, by simpa using h⟩
/-- What Make keeps beside the tree: its two results' cells. -/
structure MkS (t r mb hb : Nat) (Q : List SH) (w : World) (a1 a2 : Nat) (Q' : List SH) (W : World) (v1 v2 : Int) : Prop where
  b1 : Blk W a1 #[.int .i64 v1] 3
  b2 : Blk W a2 #[.int .i64 v2] 43
  n1 : ¬ TS t r mb hb Q' a1
  n2 : ¬ TS t r mb hb Q' a2
  ne : a1 ≠ a2
  lo : w.heap.size ≤ a1 ∧ w.heap.size ≤ a2
  g : TrG t r mb hb Q Q' w W
section
variable {N t r mb hb F : Nat} {H : List Nat} {Q Q' : List SH} {w W : World} {M : List ND} {n : Nat} {a1 a2 : Nat} {v1 v2 : Int}
theorem MkS.aft {W' : World} {Q'' : List SH} (s : MkS t r mb hb Q w a1 a2 Q' W v1 v2) (g : TrG t r mb hb Q' Q'' W W') : MkS t r mb hb Q w a1 a2 Q'' W' v1 v2 :=
  ⟨s.b1.keep (g.1.block _ s.b1.lt s.n1), s.b2.keep (g.1.block _ s.b2.lt s.n2), fun hc => by
    rcases g.2 _ hc with h1 | h1
    · exact s.n1 h1
    · have := s.b1.lt; omega, fun hc => by
    rcases g.2 _ hc with h1 | h1
    · exact s.n2 h1
    · have := s.b2.lt; omega, s.ne, s.lo, s.g.trans g⟩
theorem MkS.below {W' : World} (s : MkS t r mb hb Q w a1 a2 Q' W v1 v2) (b : Below W.heap.size W W') : MkS t r mb hb Q w a1 a2 Q' W' v1 v2 := s.aft (TrG.of_below b)
theorem trg_mod {W' : World} {a : Nat} (g : TrG t r mb hb Q Q' w W) (hlo : w.heap.size ≤ a) (m : Mod a W W') : TrG t r mb hb Q Q' w W' :=
  ⟨⟨m.os.trans g.1.os, m.tape.trans g.1.tape, m.output.trans g.1.output, Nat.le_trans g.1.size m.size, fun k hk hs => (m.block k (by have := g.1.size; omega) (by omega)).trans (g.1.block k hk hs)⟩, g.2⟩
theorem mk_st1 (s : MkS t r mb hb Q w a1 a2 Q' W v1 v2) (k : TI N t r mb hb F H Q' W M n) {v : Int} {K : World → Prop}
    (hK : ∀ W', MkS t r mb hb Q w a1 a2 Q' W' v v2 → TI N t r mb hb F H Q' W' M n → W'.heap.size = W.heap.size → K W') : stC ⟨a1, 0, none⟩ (.int .i64 v) W K :=
  stC_intro s.b1 (show 0 < 1 by decide) fun W' k' m z => hK W' ⟨k', m.blk (Ne.symm s.ne) s.b2, s.n1, s.n2, s.ne, s.lo, trg_mod s.g s.lo.1 m⟩ (k.keep fun j hj => m.block j (k.lt j hj) fun e => s.n1 (e ▸ hj)) z
theorem mk_st2 (s : MkS t r mb hb Q w a1 a2 Q' W v1 v2) (k : TI N t r mb hb F H Q' W M n) {v : Int} {K : World → Prop}
    (hK : ∀ W', MkS t r mb hb Q w a1 a2 Q' W' v1 v → TI N t r mb hb F H Q' W' M n → W'.heap.size = W.heap.size → K W') : stC ⟨a2, 0, none⟩ (.int .i64 v) W K :=
  stC_intro s.b2 (show 0 < 1 by decide) fun W' k' m z => hK W' ⟨m.blk s.ne s.b1, k', s.n1, s.n2, s.ne, s.lo, trg_mod s.g s.lo.2 m⟩ (k.keep fun j hj => m.block j (k.lt j hj) fun e => s.n2 (e ▸ hj)) z
theorem mk_out (s : MkS t r mb hb Q w a1 a2 Q' W v1 v2) (k : TI N t r mb hb F H Q' W M n) (c : Int) {K : Value → World → Prop}
    (hK : ∀ W', Aft N t r mb hb F H Q w (M, n) W' → K (.tuple #[.int .i64 (if c ≠ 0 then 0 else v1), .int .i64 c]) W') :
    ∃ m : Int, W.cell? ⟨a1, 0, none⟩ = some (.int .i64 m) ∧ stC ⟨a1, 0, none⟩ (.int .i64 m) W fun w => stC ⟨a2, 0, none⟩ (.int .i64 c) w fun w => CallsR Tryd.prog 74 #[.pointer (some ⟨a2, 0, none⟩), .pointer (some ⟨a1, 0, none⟩)] w fun w =>
      ∃ m : Int, w.cell? ⟨a1, 0, none⟩ = some (.int .i64 m) ∧ ∃ m' : Int, w.cell? ⟨a2, 0, none⟩ = some (.int .i64 m') ∧ K (.tuple #[.int .i64 m, .int .i64 m']) w := by
  refine ⟨_, s.b1.cell rfl, mk_st1 s k fun W1 s1 k1 _ => mk_st2 s1 k1 fun W2 s2 k2 _ => callsR_mono (W74_okD _ _ W2 (fun v w => ∃ m : Int, w.cell? ⟨a1, 0, none⟩ = some (.int .i64 m) ∧ ∃ m' : Int, w.cell? ⟨a2, 0, none⟩ = some (.int .i64 m') ∧ K (.tuple #[.int .i64 m, .int .i64 m']) w) ?_) fun w' h => h.choose_spec⟩
  refine ⟨_, s2.b2.cell rfl, c_ne (fun hne => mk_st1 s2 k2 fun W3 s3 k3 _ => ⟨_, s3.b1.cell rfl, _, s3.b2.cell rfl, ?_⟩) (fun he => ⟨_, s2.b1.cell rfl, _, s2.b2.cell rfl, ?_⟩)⟩
  · have := hK W3 ⟨Q', k3, s3.g⟩
    rw [if_pos hne] at this
    exact this
  · have := hK W2 ⟨Q', k2, s2.g⟩
    rw [if_neg (by simpa using he)] at this
    exact this
theorem bNode4 (a b c : Int) : bldP Tryd.prog 118 [(0, .int .i64 a), (3, .int .i64 (1 : Int)), (1, .int .i16 b), (2, .int .i16 c)] (.agg #[.int .i64 a, .int .i16 b, .int .i16 c, .int .i64 1, .int .i64 0, .int .i64 0]) := fun w => by kernel_rfl
theorem bNode2 (a : Int) : bldP Tryd.prog 118 [(0, .int .i64 a), (3, .int .i64 (1 : Int))] (.agg #[.int .i64 a, .int .i16 0, .int .i16 0, .int .i64 1, .int .i64 0, .int .i64 0]) := fun w => by kernel_rfl
def MakeQ (N t r mb hb F : Nat) (H : List Nat) (Q : List SH) (w : World) (p : MS × Int × Int) (v : Value) (w' : World) : Prop := v = .tuple #[.int .i64 p.2.1, .int .i64 p.2.2] ∧ Aft N t r mb hb F H Q w p.1 w'
theorem c_MMake (h : TI N t r mb hb F H Q w M n) (hN : N ≤ w.heap.size) (cwd : Int) (s : List UInt8) (ty ma mi : Int) : Calls Tryd.prog 24 #[rp t, .int .i64 cwd, .string (str s), .int .i64 ty, .int .i16 ma, .int .i16 mi] w
    (Ret (MakeQ N t r mb hb F H Q w (makeM M n cwd s ty ma mi))) := by
  refine W24_ok _ _ _ _ _ _ w _ (newW_intro fun a1 w1 k1 l1 b1 => newW_intro fun a2 w2 k2 l2 b2 => ?_)
  have z1 := b1.size
  have z2 := b2.size
  have y1 := k1.lt
  have y2 := k2.lt
  have b02 := b1.trans (b2.mono z1)
  have s2 : MkS t r mb hb Q w a1 a2 Q w2 0 0 := ⟨below_blk b2 y1 k1, k2, fun hc => by have := h.lt _ hc; omega, fun hc => by have := h.lt _ hc; omega, by omega, ⟨l1, by omega⟩, TrG.of_below b02⟩
  have h2 := h.below b02
  refine (c_Mlast h2 cwd s).mono ?_
  rintro _ w3 ⟨_, rfl, rfl, b3⟩
  have z3 := b3.size
  have h3 := h2.below b3
  have s3 := s2.below b3
  refine ⟨_, _, _, rfl, c_ne (fun hc => ?_) (fun hc => ?_)⟩
  · have e : makeM M n cwd s ty ma mi = ((M, n), 0, (lastM M cwd s).2.2) := by unfold makeM; rw [if_pos hc]
    rw [e]
    exact mk_st1 s3 h3 fun w4 s4 h4 _ => mk_st2 s4 h4 fun w5 s5 h5 _ => ⟨_, s5.b1.cell rfl, _, s5.b2.cell rfl, rfl, Q, h5, s5.g⟩
  obtain ⟨d0, d1, dt, dm, _, _⟩ := lastM_ok h.ok hc
  have eM : makeM M n cwd s ty ma mi = if makeCode M n (lastM M cwd s).1.toNat (lastM M cwd s).2.1 ty ≠ 0 then ((M, n), 0, makeCode M n (lastM M cwd s).1.toNat (lastM M cwd s).2.1 ty) else
      ((makeD M (freeM M 199 1) (lastM M cwd s).1.toNat (lastM M cwd s).2.1 ty ma mi, n - (demM (nd M (lastM M cwd s).1.toNat).dir).1 - (if ty = 1 then 1 else 0)), ((freeM M 199 1 : Nat) : Int), 0) := by
    unfold makeM; rw [if_neg (by simpa using hc)]
  rw [eM]
  obtain ⟨nm_len, nm0, _, _⟩ := names_ok dm
  generalize hd : (lastM M cwd s).1 = dI at *
  generalize hnm : (lastM M cwd s).2.1 = nm at *
  obtain ⟨d, rfl⟩ : ∃ d : Nat, dI = (d : Int) := ⟨dI.toNat, by omega⟩
  rw [Int.toNat_natCast] at dt ⊢
  have hdl : d < 200 := by omega
  refine nl ⟨⟨by omega, by omega⟩, (c_Mfree h3).mono ?_⟩
  rintro _ _ ⟨_, rfl, rfl, rfl⟩
  refine ⟨_, rfl, mk_st1 s3 h3 fun w4 s4 h4 z4 => ?_⟩
  rw [ip_eq]
  refine (c_Mlook h4 hdl nm).mono ?_
  rintro _ w5 ⟨_, rfl, rfl, b5⟩
  have z5 := b5.size
  have h5 := h4.below b5
  have s5 := s4.below b5
  obtain ⟨p1, p2, pe⟩ := lookMV_eq (nd M d).dir nm
  refine ⟨_, _, _, congrArg Ending.returned pe, (c_Mwants h5 hdl dt).mono ?_⟩
  rintro _ w6 ⟨_, rfl, rfl, b6⟩
  have z6 := b6.size
  have h6 := h5.below b6
  have s6 := s5.below b6
  refine ⟨_, _, rfl, ?_⟩
  generalize hmk : freeM M 199 1 = mk at *
  have hfree := freeM_ok M 199 1
  rw [hmk] at hfree
  have hdem : (demM (nd M d).dir).1 ≤ 1 := by
    unfold demM
    split
    · exact Nat.zero_le _
    · split
      · exact Nat.zero_le _
      · split
        · exact Nat.le_refl _
        · exact Nat.zero_le _
  -- a refusal
  have stay : ∀ (c : Int) (W : World), MkS t r mb hb Q w a1 a2 Q W ((mk : Nat) : Int) 0 → TI N t r mb hb F H Q W M n → makeCode M n d nm ty = c → c ≠ 0 →
      ∃ m : Int, W.cell? ⟨a1, 0, none⟩ = some (.int .i64 m) ∧ stC ⟨a1, 0, none⟩ (.int .i64 m) W fun w' => stC ⟨a2, 0, none⟩ (.int .i64 c) w' fun w' => CallsR Tryd.prog 74 #[.pointer (some ⟨a2, 0, none⟩), .pointer (some ⟨a1, 0, none⟩)] w' fun w' =>
      ∃ m : Int, w'.cell? ⟨a1, 0, none⟩ = some (.int .i64 m) ∧ ∃ m' : Int, w'.cell? ⟨a2, 0, none⟩ = some (.int .i64 m') ∧ MakeQ N t r mb hb F H Q w (if makeCode M n d nm ty ≠ 0 then ((M, n), 0, makeCode M n d nm ty) else
      ((makeD M mk d nm ty ma mi, n - (demM (nd M d).dir).1 - (if ty = 1 then 1 else 0)), ((mk : Nat) : Int), 0)) (.tuple #[.int .i64 m, .int .i64 m']) w' := fun c W sW hW hcc hc0 =>
    mk_out sW hW c fun W' ha => by
      rw [hcc, if_pos hc0, if_pos hc0]
      exact ⟨rfl, ha⟩
  refine ⟨fun t' w' => t' = ((((demM (nd M d).dir).1 + (if ty = 1 then 1 else 0) : Nat) : Int), ()) ∧ w6 = w', ?_, ?_⟩
  rotate_left
  · refine c_eq (fun h1 => ⟨_, ?_, rfl, rfl⟩) (fun h1 => ⟨_, ?_, rfl, rfl⟩)
    · rw [if_pos h1, wrap_in (by omega) (by omega)]; rfl
    · rw [if_neg h1]; rfl
  rintro _ _ _ ⟨rfl, rfl⟩
  refine ⟨fun t' w' => t' = (decide (ty ≠ 1 ∧ ty ≠ 2 ∧ ty ≠ 3), ()) ∧ w6 = w', ?_, ?_⟩
  rotate_left
  · refine c_ne (fun h1 => c_ne (fun h2' => ⟨_, ?_, rfl, rfl⟩) (fun h2' => ⟨_, ?_, rfl, rfl⟩)) (fun h1 => ⟨_, ?_, rfl, rfl⟩)
    · have : (ty != (3 : Int)) = decide (ty ≠ 1 ∧ ty ≠ 2 ∧ ty ≠ 3) := by
        rw [Bool.eq_iff_iff, bne_iff_ne, decide_eq_true_eq]
        exact ⟨fun h => ⟨h1, h2', h⟩, fun h => h.2.2⟩
      rw [this]; rfl
    · rw [decide_eq_false (by omega)]; rfl
    · rw [decide_eq_false (by omega)]; rfl
  rintro _ _ _ ⟨rfl, rfl⟩
  refine c_dec (fun c1 => stay 191 w6 s6 h6 (by unfold makeCode; rw [if_pos c1]) (by decide)) (fun c1 => ⟨_, h6.cell3 hdl, c_eq (fun c2 => stay 186 w6 s6 h6 (by unfold makeCode; rw [if_neg c1, if_pos c2]) (by decide)) (fun c2 => c_b (fun c3 => stay 185 w6 s6 h6 (by unfold makeCode; rw [if_neg c1, if_neg c2, if_pos c3]) (by decide)) (fun c3 => ?_))⟩)
  have c3' : ¬ ((nd M d).dir.findIdx? (isEn nm)).isSome = true := by rw [c3]; decide
  refine ⟨fun t' w' => t' = (decide (ty = 1 ∧ 32767 ≤ (nd M d).links), ()) ∧ w6 = w', ?_, ?_⟩
  rotate_left
  · refine c_eq (fun h1 => ⟨_, h6.cell3 hdl, _, ?_, rfl, rfl⟩) (fun h1 => ⟨_, ?_, rfl, rfl⟩)
    · have : decide ((nd M d).links ≥ (32767 : Int)) = decide (ty = 1 ∧ 32767 ≤ (nd M d).links) := by
        rw [decide_eq_decide]
        exact ⟨fun h => ⟨h1, h⟩, fun h => h.2⟩
      rw [this]; rfl
    · rw [decide_eq_false (by omega)]; rfl
  rintro _ _ _ ⟨rfl, rfl⟩
  refine c_dec (fun c4 => stay 190 w6 s6 h6 (by unfold makeCode; rw [if_neg c1, if_neg c2, if_neg c3', if_pos c4]) (by decide)) (fun c4 => ⟨_, s6.b1.cell rfl, c_eq (fun c5 => stay 188 w6 s6 h6 (by unfold makeCode; rw [if_neg c1, if_neg c2, if_neg c3', if_neg c4, hmk, if_pos (by omega)]) (by decide)) (fun c5 => c_nb (fun c6 => stay 187 w6 s6 h6 (by unfold makeCode; rw [if_neg c1, if_neg c2, if_neg c3', if_neg c4, hmk, if_neg (by omega), if_pos c6]) (by decide)) (fun c6 => nl ⟨_, h6.mem, (c_MCount h6).mono ?_⟩))⟩)
  rintro _ _ ⟨_, rfl, rfl, rfl⟩
  have c6' : ¬ (demM (nd M d).dir).2 = false := by rw [c6]; decide
  refine ⟨_, rfl, c_dec (fun c7 => stay 189 w6 s6 h6 (by unfold makeCode; rw [if_neg c1, if_neg c2, if_neg c3', if_neg c4, hmk, if_neg (by omega), if_neg c6', if_pos (by omega)]) (by decide)) (fun c7 => ?_)⟩
  have e0 : makeCode M n d nm ty = 0 := by unfold makeCode; rw [if_neg c1, if_neg c2, if_neg c3', if_neg c4, hmk, if_neg (by omega), if_neg c6', if_neg (by omega)]
  clear stay
  rw [e0, if_neg (by decide)]
  obtain ⟨g1, g2, g3⟩ := hfree.resolve_left (by omega)
  have hmd : mk ≠ d := fun e => by rw [e, dt] at g3; exact absurd g3 (by decide)
  have hml : mk < 200 := by omega
  have hl0 := (h.ok.2 d).links
  have hlen := h.ok.1
  have eI : EntOk (((mk : Nat) : Int), nm) := ⟨by omega, by show ((mk : Nat) : Int) < 200; omega, nm_len, nm0⟩
  have s7 := s6.below (below_drew _ w6)
  have h7 := h6.drew
  refine ⟨_, s7.b1.cell rfl, nl ⟨⟨by omega, by omega⟩, ?_⟩⟩
  refine ⟨fun _ w' => ∃ Q2 n2, n2 = n - (if ty = 1 then 1 else 0) ∧ MkS t r mb hb Q w a1 a2 Q2 w' ((mk : Nat) : Int) 0 ∧ TI N t r mb hb F H Q2 w' ((M.set mk (newND mk d ty ma mi)).set d { nd M d with links := (nd M d).links + (if ty = 1 then 1 else 0) }) n2, ?_, ?_⟩
  · rintro _ _ W ⟨Q2, n2, hn2, sW, hW⟩
    have ed : nd ((M.set mk (newND mk d ty ma mi)).set d { nd M d with links := (nd M d).links + (if ty = 1 then 1 else 0) }) d = { nd M d with links := (nd M d).links + (if ty = 1 then 1 else 0) } := md_self (by rw [List.length_set]; omega)
    refine ⟨_, sW.b1.cell rfl, _, bldD _ _, ?_⟩
    have hzW := sW.g.size
    have hent := c_MEnter hW (by omega) (ino := ((mk : Nat) : Int)) (nm := nm) hdl (by rw [ed]; exact dt) eI (by rw [ed]; exact c6) (by rw [ed]; show (demM (nd M d).dir).1 ≤ n2; omega)
    rw [ed] at hent
    refine hent.mono ?_
    rintro _ W2 ⟨_, rfl, rfl, Q3, h8, g8⟩
    refine ⟨rfl, mk_out (sW.aft g8) h8 0 fun W3 ha => ⟨rfl, ?_⟩⟩
    have e9 : n2 - (demM (nd M d).dir).1 = n - (demM (nd M d).dir).1 - (if ty = 1 then 1 else 0) := by omega
    rw [List.set_set] at ha
    show Aft N t r mb hb F H Q w (makeD M mk d nm ty ma mi, n - (demM (nd M d).dir).1 - (if ty = 1 then 1 else 0)) W3
    rw [← e9]
    exact ha
  · have same : ty ≠ 1 → (M.set mk (newND mk d ty ma mi)).set d { nd M d with links := (nd M d).links + (if ty = 1 then 1 else 0) } = M.set mk (newND mk d ty ma mi) := fun h1 => by
      have e1 : ({ nd M d with links := (nd M d).links + (if ty = 1 then 1 else 0) } : ND) = nd M d := by rw [if_neg h1, Int.add_zero]
      rw [e1]
      refine set_same ?_
      rw [List.getElem?_set_ne hmd]
      exact md_some (by omega)
    have z7 : w6.drew.heap.size = w6.heap.size := rfl
    refine c_eq (fun h1 => ⟨_, s7.b1.cell rfl, (c_MDirectory h7 (by omega) ⟨g1, hml⟩ hdl g3 (by rw [if_pos h1] at c7; omega)).mono ?_⟩) (fun h1 => c_eq (fun h3' => ⟨_, bNode4 _ _ _, ?_⟩) (fun h3' => ⟨_, bNode2 _, ?_⟩))
    · rintro _ W ⟨_, rfl, rfl, Q3, h8, g8⟩
      have ed : nd (M.set mk (newND mk d 1 0 0)) d = nd M d := md_other hmd
      have hc3 := h8.cell3 hdl
      rw [ed] at hc3
      refine ⟨rfl, _, hc3, ?_⟩
      rw [wrap_in (by omega) (by omega)]
      refine h8.setLinks hdl (by omega) (by rw [ed, dt]; decide) fun W2 h9 g9 => ⟨(), rfl, Q3, n - 1, by rw [if_pos h1], (s7.aft g8).aft g9, ?_⟩
      rw [ed] at h9
      have e5 : newND mk d ty ma mi = newND mk d 1 0 0 := by unfold newND; rw [if_pos h1, if_pos rfl]
      rw [e5, if_pos h1]
      exact h9
    · rw [Int.toNat_natCast, ip_eq]
      refine h7.setNode hml g3 (by omega) fun W h8 g8 => ⟨(), rfl, Q, n, by rw [if_neg h1]; rfl, s7.aft g8, ?_⟩
      rw [same h1]
      have e5 : newND mk d ty ma mi = ⟨ty, ma, mi, 1, 0, [], []⟩ := by unfold newND; rw [if_neg h1, if_pos h3', h3']
      rw [e5]
      exact h8
    · rw [Int.toNat_natCast, ip_eq]
      refine h7.setNode hml g3 (by omega) fun W h8 g8 => ⟨(), rfl, Q, n, by rw [if_neg h1]; rfl, s7.aft g8, ?_⟩
      rw [same h1]
      have e5 : newND mk d ty ma mi = ⟨ty, 0, 0, 1, 0, [], []⟩ := by unfold newND; rw [if_neg h1, if_neg h3']
      rw [e5]
      exact h8
end
end Go.Proofs.YthkcdkldpbndnaaDoor
namespace Go.Proofs.YthkcdkldpbndnaaDoor
open Go.RowKit Go.Hx
def blkE (C : List UInt8) (k : Nat) : Bool := decide ((entD (win C (k * 16) 16)).1 ≠ 0 ∧ 32 ≤ k * 16)
theorem full_no {bs : List UInt8} {x : InD} {y : ND} (a : AbsI bs x y) (ho : NdOk y) (h : ∀ j, j < nEnt x → blkE (cont bs x.blk) j = false) : fullM y = false := by
  unfold fullM
  cases hd : decide (y.typ = 1) with
  | false => rfl
  | true =>
    rw [Bool.true_and, List.any_eq_false]
    intro e he
    obtain ⟨j, hj, rfl⟩ := List.getElem_of_mem he
    rw [List.getElem_drop]
    rw [List.length_drop] at hj
    have h1 : y.dir[2 + j]? = some (y.dir[2 + j]'(by omega)) := List.getElem?_eq_getElem _
    have h2 := h (2 + j) (by rw [a.entN ho]; omega)
    unfold blkE at h2
    rw [a.ent ho h1, decide_eq_false_iff_not] at h2
    unfold isHo
    have h3 : (y.dir[2 + j]'(by omega)).1 = 0 := Classical.byContradiction fun hne => h2 ⟨hne, by omega⟩
    rw [h3]; decide
theorem full_yes {bs : List UInt8} {x : InD} {y : ND} (a : AbsI bs x y) (ho : NdOk y) {k : Nat} (hk : k < nEnt x) (h : blkE (cont bs x.blk) k = true) : fullM y = true := by
  rw [a.entN ho] at hk
  have ht : y.typ = 1 := Classical.byContradiction fun hn => by rw [ho.dir hn] at hk; exact absurd hk (by simp)
  have h1 : y.dir[k]? = some (y.dir[k]) := List.getElem?_eq_getElem hk
  unfold blkE at h
  rw [a.ent ho h1, decide_eq_true_eq] at h
  unfold fullM
  rw [decide_eq_true ht, Bool.true_and, List.any_eq_true]
  refine ⟨y.dir[k], ?_, ?_⟩
  · rw [List.mem_iff_getElem?]
    exact ⟨k - 2, by rw [List.getElem?_drop, show 2 + (k - 2) = k by omega]; exact h1⟩
  · unfold isHo
    rw [decide_eq_false h.1]; rfl
/-- What Unlink keeps beside the tree. -/
structure UnS (t r mb hb : Nat) (Q : List SH) (w : World) (a1 D : Nat) (Q' : List SH) (W : World) (v1 : Int) : Prop where
  b1 : Blk W a1 #[.int .i64 v1] 43
  hD : W.heap[D]? = some (.deferred (some []))
  n1 : ¬ TS t r mb hb Q' a1
  nD : ¬ TS t r mb hb Q' D
  ne : a1 ≠ D
  lo : w.heap.size ≤ a1 ∧ w.heap.size ≤ D
  lt : D < W.heap.size
  g : TrG t r mb hb Q Q' w W
section
variable {N t r mb hb F : Nat} {H : List Nat} {Q Q' : List SH} {w W : World} {M : List ND} {n : Nat} {a1 D : Nat} {v1 : Int}
theorem UnS.aft {W' : World} {Q'' : List SH} (s : UnS t r mb hb Q w a1 D Q' W v1) (g : TrG t r mb hb Q' Q'' W W') : UnS t r mb hb Q w a1 D Q'' W' v1 :=
  ⟨s.b1.keep (g.1.block _ s.b1.lt s.n1), (g.1.block _ s.lt s.nD).trans s.hD, fun hc => by
    rcases g.2 _ hc with h1 | h1
    · exact s.n1 h1
    · have := s.b1.lt; omega, fun hc => by
    rcases g.2 _ hc with h1 | h1
    · exact s.nD h1
    · have := s.lt; omega, s.ne, s.lo, Nat.lt_of_lt_of_le s.lt g.size, s.g.trans g⟩
theorem UnS.below {W' : World} (s : UnS t r mb hb Q w a1 D Q' W v1) (b : Below W.heap.size W W') : UnS t r mb hb Q w a1 D Q' W' v1 := s.aft (TrG.of_below b)
theorem un_out (s : UnS t r mb hb Q w a1 D Q' W v1) (k : TI N t r mb hb F H Q' W M n) {v : Int} {K : Value → World → Prop} (hK : ∀ W', Aft N t r mb hb F H Q w (M, n) W' → K (.int .i64 v) W') :
    stC ⟨a1, 0, none⟩ (.int .i64 v) W fun w => (w.heap[D]? = some (.deferred (some [])) ∧ (fun w : World => ∃ n21 : Int, w.cell? ⟨a1, 0, none⟩ = some (.int .i64 n21) ∧ K (.int .i64 n21) w) (w.putObj D (.deferred none))) := by
  refine stC_intro s.b1 (show 0 < 1 by decide) fun W1 k1 m1 z1 => ⟨(m1.block _ s.lt (Ne.symm s.ne)).trans s.hD, _, (blk_put k1 s.ne).cell rfl, hK _ ⟨Q', ?_, trg_mod (trg_mod s.g s.lo.1 m1) s.lo.2 (mod_putObj _ _ _)⟩⟩
  refine (k.keep fun j hj => m1.block j (k.lt j hj) fun e => s.n1 (e ▸ hj)).keep fun j hj => World.putObj_heap_other fun e => s.nD (e ▸ hj)
def UnlQ (N t r mb hb F : Nat) (H : List Nat) (Q : List SH) (w : World) (p : MS × Int) (v : Value) (w' : World) : Prop := v = .int .i64 p.2 ∧ Aft N t r mb hb F H Q w p.1 w'
/-- The name goes. -/
theorem un_end (s : UnS t r mb hb Q w a1 D Q' W v1) (h : TI N t r mb hb F H Q' W M n) {d k x c : Nat} {q : Option Addr} (hd : d < 200) (hx : x < 200) (hxd : x ≠ d) (dt : (nd M d).typ = 1) (hk : k < (nd M d).dir.length) (hxt : (nd M x).typ ≠ 0)
    (hxl : 1 ≤ (nd M x).links) (hdl : (nd M x).typ = 1 → 1 ≤ (nd M d).links) (hq : Rd 1 W q 16 (bv (List.replicate 16 0))) (hc : 16 ≤ c) (hsep : ∀ a, q = some a → ¬ RS r mb hb a.block) :
    Calls Tryd.prog 83 #[rp t, .pointer (some (ip t d)), .int .i64 ((k * 16 : Nat) : Int), .slice q 16 c] W fun e w' => e = .returned (.tuple #[]) ∧
      ∃ n18 : Int, w'.cell? ((ip t x).add 3) = some (.int .i64 n18) ∧ stC ((ip t x).add 3) (.int .i64 (IntKind.i64.wrap (n18 - (1 : Int)))) w' fun w' =>
      ∃ J19 : (Unit) → World → Prop, (∀ (_ : Env) (t20 : Unit) (w' : World), J19 t20 w' →
        Calls Tryd.prog 113 #[rp t, .pointer (some (ip t x))] w' fun e w' => e = .returned (.tuple #[]) ∧ stC ⟨a1, 0, none⟩ (.int .i64 (0 : Int)) w' fun w' =>
        (w'.heap[D]? = some (.deferred (some [])) ∧ (fun w' : World => ∃ n21 : Int, w'.cell? ⟨a1, 0, none⟩ = some (.int .i64 n21) ∧ UnlQ N t r mb hb F H Q w (unlD M n d k x, 0) (.int .i64 n21) w') (w'.putObj D (.deferred none)))) ∧
      ∃ n22 : Int, w'.cell? (ip t x) = some (.int .i64 n22) ∧
      cond (n22 == (1 : Int)) (∃ n23 : Int, w'.cell? ((ip t d).add 3) = some (.int .i64 n23) ∧ stC ((ip t d).add 3) (.int .i64 (IntKind.i64.wrap (n23 - (1 : Int)))) w' fun w' =>
        Calls Tryd.prog 112 #[rp t, .pointer (some (ip t x))] w' fun e w' => e = .returned (.tuple #[]) ∧ ∃ t : Unit, ([] : List Value) = tv [] t ∧ J19 t w') (∃ t : Unit, ([] : List Value) = tv [] t ∧ J19 t w') := by
  have hl := h.ok.1
  have okx := h.ok.2 x
  have okd := h.ok.2 d
  have e1 : nd (M.set d { nd M d with dir := (nd M d).dir.set k (0, []) }) x = nd M x := md_other (Ne.symm hxd)
  refine (c_MHole h hd dt hk hq hc hsep).mono ?_
  rintro _ w1 ⟨_, rfl, rfl, Q1, h1, g1⟩
  have hL := okx.links
  refine ⟨rfl, _, by have := h1.cell3 hx; rw [e1] at this; exact this, ?_⟩
  rw [wrap_in (by omega) (by omega)]
  refine h1.setLinks hx (by omega) (by rw [e1]; exact hxt) fun w2 h2 g2 => ?_
  rw [e1] at h2
  have s2 := (s.aft g1).aft g2
  have ex : nd ((M.set d { nd M d with dir := (nd M d).dir.set k (0, []) }).set x { nd M x with links := (nd M x).links - 1 }) x = { nd M x with links := (nd M x).links - 1 } := md_self (by rw [List.length_set]; omega)
  have ed : nd ((M.set d { nd M d with dir := (nd M d).dir.set k (0, []) }).set x { nd M x with links := (nd M x).links - 1 }) d = { nd M d with dir := (nd M d).dir.set k (0, []) } := by
    rw [md_other hxd]
    exact md_self (by omega)
  refine ⟨fun _ w' => ∃ Q3 M3 n3, UnS t r mb hb Q w a1 D Q3 w' v1 ∧ TI N t r mb hb F H Q3 w' M3 n3 ∧ letM M3 n3 x = unlD M n d k x, ?_, (nd M x).typ, by have := h2.cell0 hx; rw [ex] at this; exact this, c_eq (fun ht => ?_) (fun ht => ⟨(), rfl, Q1, _, n, s2, h2, ?_⟩)⟩
  · rintro _ _ w3 ⟨Q3, M3, n3, s3, h3, he⟩
    refine (c_MSettle h3 hx).mono ?_
    rintro _ w4 ⟨_, rfl, rfl, Q4, h4, g4⟩
    refine ⟨rfl, un_out (s3.aft g4) h4 fun W' ha => ⟨rfl, ?_⟩⟩
    show Aft N t r mb hb F H Q w (unlD M n d k x) W'
    rw [← he]
    exact ha
  · have hdl := hdl ht
    have hdL := okd.links
    refine ⟨_, by have := h2.cell3 hd; rw [ed] at this; exact this, ?_⟩
    rw [wrap_in (by show _ ≤ (nd M d).links - 1; omega) (by show (nd M d).links - 1 ≤ _; omega)]
    refine h2.setLinks hd (by show 0 ≤ (nd M d).links - 1 ∧ (nd M d).links - 1 ≤ 32767; omega) (by rw [ed]; show (nd M d).typ ≠ 0; omega) fun w3 h3 g3 => ?_
    rw [ed] at h3
    have ex3 : nd (((M.set d { nd M d with dir := (nd M d).dir.set k (0, []) }).set x { nd M x with links := (nd M x).links - 1 }).set d { nd M d with dir := (nd M d).dir.set k (0, []), links := (nd M d).links - 1 }) x = { nd M x with links := (nd M x).links - 1 } := by rw [md_other (Ne.symm hxd), ex]
    have hemp := c_MEmpty h3 hx (by rw [ex3]; exact hxt)
    rw [ex3] at hemp
    refine hemp.mono ?_
    rintro _ w4 ⟨_, rfl, rfl, Q4, h4, g4⟩
    refine ⟨rfl, (), rfl, Q4, _, _, (s2.aft g3).aft g4, h4, ?_⟩
    unfold unlD
    rw [if_pos ht]
    have e5 : ({ nd M x with links := (nd M x).links - 1, dat := [], dir := [] } : ND) = { nd M x with links := (nd M x).links - 1, dir := [] } := by rw [← okx.dat ht]
    have e6 : ({ nd M x with links := (nd M x).links - 1 } : ND).size = (nd M x).size := rfl
    have e7 : ∀ A B A' B' : ND, (((M.set d A).set x B).set d A').set x B' = (M.set d A').set x B' := fun A B A' B' => by rw [List.set_comm B A' hxd, List.set_set, List.set_set]
    show letM ((((M.set d _).set x _).set d _).set x { nd M x with links := (nd M x).links - 1, dat := [], dir := [] }) (n + blkN (nd M x).size) x = _
    rw [e7, e5]
  · unfold unlD
    rw [if_neg ht]
end
section
variable {N t r mb hb F : Nat} {H : List Nat} {Q : List SH} {w : World} {M : List ND} {n : Nat}
theorem z16 : (Array.range ((16 : Int).toNat * 1)).map (fun x => (#[.int .u8 0] : Array Value)[x % (#[.int .u8 0] : Array Value).size]!) = (bv (List.replicate 16 0)).toArray := by
  rw [zarr]; rfl
set_option maxRecDepth 100000 in
theorem c_MUnlink (h : TI N t r mb hb F H Q w M n) (cwd : Int) (s : List UInt8)
    (hv : (lastM M cwd s).2.2 = 0 → ∀ k, (nd M (lastM M cwd s).1.toNat).dir.findIdx? (isEn (lastM M cwd s).2.1) = some k → ∀ x, x = ((nd M (lastM M cwd s).1.toNat).dir.getD k (0, [])).1.toNat → (nd M x).typ ≠ 0 ∧ 1 ≤ (nd M x).links ∧ ((nd M x).typ = 1 → x ≠ (lastM M cwd s).1.toNat ∧ 1 ≤ (nd M (lastM M cwd s).1.toNat).links)) :
    Calls Tryd.prog 50 #[rp t, .int .i64 cwd, .string (str s)] w (Ret (UnlQ N t r mb hb F H Q w (unlinkM M n cwd s))) := by
  refine W50_ok _ _ _ w _ (newW_intro fun a1 w1 k1 l1 b1 => (c_Mlast (h.below b1) cwd s).mono ?_)
  rintro _ w2 ⟨_, rfl, rfl, b2⟩
  have z1 := b1.size
  have y1 := k1.lt
  have z2 := b2.size
  have b02 := b1.trans (b2.mono z1)
  have k2 := below_blk b2 y1 k1
  have h2 := h.below b02
  refine ⟨_, _, _, rfl, c_ne (fun hc => ?_) (fun hc => ?_)⟩
  · have e : unlinkM M n cwd s = ((M, n), (lastM M cwd s).2.2) := by unfold unlinkM; rw [if_pos hc]
    rw [e]
    exact stC_intro k2 (show 0 < 1 by decide) fun w3 k3 m3 z3 => ⟨_, k3.cell rfl, rfl, Aft.same h (b02.trans (m3.below (by omega) l1))⟩
  obtain ⟨d0, d1, dt, dm, _, _⟩ := lastM_ok h.ok hc
  have hv := hv hc
  have eM : unlinkM M n cwd s = match (nd M (lastM M cwd s).1.toNat).dir.findIdx? (isEn (lastM M cwd s).2.1) with
    | none => ((M, n), 182)
    | some k => if fullM (nd M ((nd M (lastM M cwd s).1.toNat).dir.getD k (0, [])).1.toNat) then ((M, n), 187) else
      (unlD M n (lastM M cwd s).1.toNat k ((nd M (lastM M cwd s).1.toNat).dir.getD k (0, [])).1.toNat, 0) := by
    unfold unlinkM
    rw [if_neg (by simpa using hc)]
    try rfl
  generalize hd : (lastM M cwd s).1 = dI at *
  generalize hnm : (lastM M cwd s).2.1 = nm at *
  obtain ⟨d, rfl⟩ : ∃ d : Nat, dI = (d : Int) := ⟨dI.toNat, by omega⟩
  rw [Int.toNat_natCast] at dt hv eM
  have hdl : d < 200 := by omega
  refine nl ⟨⟨by omega, by omega⟩, ?_⟩
  rw [Int.toNat_natCast, ip_eq]
  refine (c_Mlook h2 hdl nm).mono ?_
  rintro _ w3 ⟨_, rfl, rfl, b3⟩
  have z3 := b3.size
  have b03 := b02.trans (b3.mono (by omega))
  have k3 := below_blk b3 k2.lt k2
  have h3 := h2.below b3
  unfold lookMV
  cases hf : (nd M d).dir.findIdx? (isEn nm) with
  | none =>
    rw [hf] at eM
    have eM : unlinkM M n cwd s = ((M, n), 182) := eM
    rw [eM]
    exact ⟨_, _, _, rfl, c_nb (fun _ => stC_intro k3 (show 0 < 1 by decide) fun w4 k4 m4 z4 => ⟨_, k4.cell rfl, rfl, Aft.same h (b03.trans (m4.below (by omega) l1))⟩) (fun hc => absurd hc (by decide))⟩
  | some k =>
    rw [hf] at eM
    have eM : unlinkM M n cwd s = if fullM (nd M ((nd M d).dir.getD k (0, [])).1.toNat) then ((M, n), 187) else (unlD M n d k ((nd M d).dir.getD k (0, [])).1.toNat, 0) := eM
    have hk := (List.findIdx?_eq_some_iff_getElem.1 hf).1
    have hg : (nd M d).dir.getD k (0, []) = (nd M d).dir[k] := by rw [List.getD_eq_getElem?_getD, List.getElem?_eq_getElem hk]; rfl
    have hEok := (h.ok.2 d).ents _ (List.getElem_mem hk)
    obtain ⟨hxt, hxl, hxd⟩ := hv k hf _ rfl
    rw [hg] at hxt hxl hxd eM
    show ∃ n7 n8 b9, Ending.returned (Value.tuple #[.int .i64 ((nd M d).dir.getD k (0, [])).1, _, _]) = _ ∧ _
    rw [hg]
    have e1 := hEok.lo
    have e2 := hEok.hi
    generalize hE : (nd M d).dir[k].1 = xI at *
    obtain ⟨x, rfl⟩ : ∃ x : Nat, xI = (x : Int) := ⟨xI.toNat, by omega⟩
    rw [Int.toNat_natCast] at hxt hxl hxd eM
    have hxl2 : x < 200 := by omega
    have eM : unlinkM M n cwd s = if fullM (nd M x) then ((M, n), 187) else (unlD M n d k x, 0) := eM
    have hxne : x ≠ d := fun e => by
      subst e
      exact (hxd dt).1 rfl
    refine ⟨_, _, _, rfl, c_nb (fun hc => absurd hc (by decide)) (fun _ => nl ⟨⟨by omega, by omega⟩, ?_⟩)⟩
    rw [Int.toNat_natCast, ip_eq]
    refine c_entries _ _ fun c1 c2 w5 kc1 kc2 lc1 lc2 b5 => ?_
    have z5 := b5.size
    have y3 := k3.lt
    have yc2 := kc2.lt
    have b05 := b03.trans (b5.mono (by omega))
    have k5 := below_blk b5 y3 k3
    obtain ⟨fl, bs, L, t1, t2, t3⟩ := h.ex
    obtain ⟨xi, hxi, ai⟩ := t2.get hxl2
    have hox := h.ok.2 x
    obtain ⟨o1, o2, o3⟩ := t2.wf.ok x xi hxi
    refine rg_entries (N := N) (t := t) (r := r) (mb := mb) (hb := hb) (F := F) (fl := fl) (bs := bs) (L := L) (Q := Q) (i := x) (x := xi)
      (J := fun k W => Below w.heap.size w W ∧ (∀ j, j < k → blkE (cont bs xi.blk) j = false) ∧ Blk W a1 #[.int .i64 0] 43 ∧ Blk W c1 #[.pointer (some ⟨t, 0, none⟩)] 40 ∧ Blk W c2 #[.pointer (some (ip t x))] 165 ∧ W.heap[w5.heap.size]? = some (.deferred (some [])) ∧ w5.heap.size + 2 ≤ W.heap.size)
      (Z := fun W => Below w.heap.size w W ∧ (∃ k, k < nEnt xi ∧ blkE (cont bs xi.blk) k = true) ∧ Blk W a1 #[.int .i64 187] 43 ∧ W.heap[w5.heap.size]? = some (.deferred (some [])) ∧ w5.heap.size + 2 ≤ W.heap.size)
      hxi o1 o2 (by omega) ?_ ?_ ?_ ?_ ?_ ?_ ?_ ?_ ?_
    · rintro k W ⟨b, _, _, h1, h2, _, h3⟩
      exact ⟨t1.below b, h1.cell rfl, h2.cell rfl, h3⟩
    · rintro k W W' ⟨b, hno, h1, h5, h6, h7, h8⟩ b'
      exact ⟨b.trans (b'.mono b.size), hno, below_blk b' h1.lt h1, below_blk b' h5.lt h5, below_blk b' h6.lt h6, (b'.block _ (by omega)).trans h7, by have := b'.size; omega⟩
    · rintro k W o ⟨b, hno, h1, h5, h6, h7, h8⟩
      exact ⟨below_put b (Nat.le_refl _) (by omega), hno, blk_put h1 (by omega), blk_put h5 (by omega), blk_put h6 (by omega), (World.putObj_heap_other (by omega)).trans h7, by simpa using h8⟩
    · rintro W o ⟨b, hh, h3, h7, h8⟩
      exact ⟨below_put b (Nat.le_refl _) (by omega), hh, blk_put h3 (by omega), (World.putObj_heap_other (by omega)).trans h7, by simpa using h8⟩
    · rintro W ⟨_, _, _, _, h8⟩
      exact h8
    · intro o
      have e2 : (w5.alloc (.deferred (some []))).heap.size = w5.heap.size + 1 := by simp
      have e3 : ((w5.alloc (.deferred (some []))).alloc o).heap.size = w5.heap.size + 2 := by simp
      have ba := below_new w5 (.deferred (some []))
      have bb := below_new (w5.alloc (.deferred (some []))) o
      have bab := ba.trans (bb.mono (by omega : w5.heap.size ≤ _))
      exact ⟨b05.trans (bab.mono b05.size), fun j hj => by omega, below_blk bab k5.lt k5, below_blk bab kc1.lt kc1, below_blk bab kc2.lt kc2, (bb.block _ (by omega)).trans (heap_alloc_new w5 _), by omega⟩
    · rintro k W bg kn kr kx B hk ⟨b, hno, h1, h5, h6, h7, h8⟩ hBs hbg hkn hkr
      refine newW_intro fun a7 w7 k7 l7 b7 => stW_intro k7 fun w8 k8 m8 s8 => hbg _ _ (b7.trans (m8.below b7.size l7)) fun w9 hj9 m9 s9 hb9 => ?_
      obtain ⟨c, _, g1, g5, g6, g7, g8⟩ := hj9
      have hk8 := k8.lt
      have k9 := m9.blk (by omega : a7 ≠ w5.heap.size + 1) k8
      have next : blkE (cont bs xi.blk) k = false → kn w9 := fun hq => hkn _ ⟨c, fun j hj => by
        rcases Nat.lt_or_ge j k with h' | h'
        · exact hno j h'
        · have : j = k := by omega
          subst this; exact hq, g1, g5, g6, g7, g8⟩ hb9
      refine ⟨_, k9.cell rfl, c_ne (fun hne => c_dec (fun hge => ?_) (fun hlt => next ?_)) (fun he => next ?_)⟩
      · have hyes : blkE (cont bs xi.blk) k = true := by
          unfold blkE
          exact decide_eq_true ⟨hne, by have : ((k * 16 : Nat) : Int) ≥ 32 := hge; omega⟩
        exact stC_intro g1 (show 0 < 1 by decide) fun u1 q1 n1 t1 => hkr u1 ⟨c.trans (n1.below c.size (by omega)), ⟨k, hk, hyes⟩, q1, (n1.block _ (by omega) (by omega)).trans g7, by omega⟩ (hBs _ _ hb9 (n1.block _ (by omega) (by omega)))
      · unfold blkE
        refine decide_eq_false fun hh => ?_
        have : ¬ ((k * 16 : Nat) : Int) ≥ 32 := hlt
        omega
      · unfold blkE
        exact decide_eq_false fun hh => hh.1 he
    · rintro W ⟨b, hno, h1, h5, h6, h7, h8⟩
      have hno' := full_no ai hox hno
      rw [hno'] at eM
      have eM : unlinkM M n cwd s = (unlD M n d k x, 0) := eM
      rw [eM]
      refine ⟨by decide, newW_intro fun a17 w6 k6 l6 b6 => ?_⟩
      rw [z16] at k6
      have z6 := b6.size
      have bz := b.size
      have b06 := b.trans (b6.mono bz)
      have y1' : a1 < w5.heap.size := by omega
      have s6 : UnS t r mb hb Q w a1 w5.heap.size Q w6 0 := ⟨below_blk b6 h1.lt h1, (b6.block _ (by omega)).trans h7, fun hc => by have := h.lt _ hc; omega, fun hc => by have := h.lt _ hc; omega, by omega, ⟨l1, by omega⟩, by omega, TrG.of_below b06⟩
      have hrd : Rd 1 w6 (some ⟨a17, 0, none⟩) 16 (bv (List.replicate 16 0)) := ⟨by rw [bv_length, List.length_replicate], fun e => (by cases e), fun a ha => by cases ha; exact row_whole k6⟩
      have hsep : ∀ a : Addr, some (⟨a17, 0, none⟩ : Addr) = some a → ¬ RS r mb hb a.block := fun a ha hs => by
        cases ha
        have := h.lt _ (.inr (.inl hs))
        have : a17 < w.heap.size := this
        omega
      exact un_end s6 (h.below b06) hdl hxl2 hxne dt hk hxt hxl (fun ht => (hxd ht).2) hrd (Nat.le_refl _) hsep
    · rintro W ⟨b, ⟨k', hk', hy⟩, h1, h7, h8⟩
      have hyes := full_yes ai hox hk' hy
      rw [hyes] at eM
      have eM : unlinkM M n cwd s = ((M, n), 187) := eM
      rw [eM]
      exact ⟨h7, _, (blk_put h1 (by omega)).cell rfl, rfl, Aft.same h (below_put b (Nat.le_refl _) (by omega))⟩
end
end Go.Proofs.YthkcdkldpbndnaaDoor
