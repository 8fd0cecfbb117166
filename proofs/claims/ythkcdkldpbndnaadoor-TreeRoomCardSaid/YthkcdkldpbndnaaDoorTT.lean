/- The tree: its table in memory; there, grow, get, put. The tree: there, grow, get. The tree: grow, put. The tree: grow, put: what they hand back. The tree: put. The tree: a range over a directory's entries. The tree: look, place: a range over a directory's entries, as its users meet it. The tree: look, place. The tree: place, wants, free. The tree: free, wants, walk. The tree: from, Find, last. The tree: last. The tree: empty. The tree: a row of the table written; settle. The tree: Hold, Read, Trunc, Left. The tree: Trunc, Left, Drop. The tree: Drop; enter. The tree: enter. The tree: directory. The tree: New. The tree: Stat. The tree: Look. The tree: List. No condition. -/
import Derived.Test.YthkcdkldpbndnaaDoorKe
import Derived.Test.YthkcdkldpbndnaaDoorFr
import Derived.Test.YthkcdkldpbndnaaDoorSc
import Derived.Test.YthkcdkldpbndnaaDoorWt
set_option linter.unusedVariables false
namespace Go.Proofs.YthkcdkldpbndnaaDoor
open Go.RowKit Go.Hx
structure InD where
  typ : Int
  maj : Int
  min : Int
  links : Int
  refs : Int
  size : Nat
  blk : List Nat
abbrev SH := Option Addr × Nat
def inoV (x : InD) (s : SH) : List Value := [.int .i64 x.typ, .int .i16 x.maj, .int .i16 x.min, .int .i64 x.links, .int .i64 x.refs, .int .i64 ((x.size : Nat) : Int), .slice s.1 x.blk.length s.2]
def tabV7 : List InD → List SH → List Value
  | x :: L, s :: Q => inoV x s ++ tabV7 L Q
  | _, _ => []
def trV (r : Nat) (L : List InD) (Q : List SH) : List Value := rp r :: tabV7 L Q
theorem tab_split : ∀ {L : List InD} {Q : List SH} {i : Nat} {x : InD} {s : SH}, L[i]? = some x → Q[i]? = some s → ∃ A B, A.length = i * 7 ∧ tabV7 L Q = A ++ inoV x s ++ B ∧ ∀ x' s', tabV7 (L.set i x') (Q.set i s') = A ++ inoV x' s' ++ B
  | [], _, _, _, _, h, _ => by simp at h
  | _ :: _, [], _, _, _, _, h => by simp at h
  | y :: L, u :: Q, 0, x, s, h, h' => by
    simp at h h'
    subst h h'
    exact ⟨[], tabV7 L Q, rfl, rfl, fun _ _ => rfl⟩
  | y :: L, u :: Q, i + 1, x, s, h, h' => by
    obtain ⟨A, B, h1, h2, h3⟩ := tab_split (L := L) (Q := Q) (i := i) (x := x) (s := s) (by simpa using h) (by simpa using h')
    refine ⟨inoV y u ++ A, B, ?_, ?_, fun x' s' => ?_⟩
    · rw [List.length_append, h1]
      show 7 + i * 7 = _
      omega
    · show inoV y u ++ tabV7 L Q = _
      rw [h2]; simp
    · show inoV y u ++ tabV7 (L.set i x') (Q.set i s') = _
      rw [h3]; simp
theorem tr_split {r : Nat} {L : List InD} {Q : List SH} {i : Nat} {x : InD} {s : SH} (h : L[i]? = some x) (h' : Q[i]? = some s) : ∃ A B, A.length = 1 + i * 7 ∧ trV r L Q = A ++ inoV x s ++ B ∧ ∀ x' s', trV r (L.set i x') (Q.set i s') = A ++ inoV x' s' ++ B := by
  obtain ⟨A, B, h1, h2, h3⟩ := tab_split h h'
  refine ⟨rp r :: A, B, by rw [List.length_cons, h1]; omega, ?_, fun x' s' => ?_⟩
  · unfold trV; rw [h2]; rfl
  · unfold trV; rw [h3]; rfl
theorem tr_get {r : Nat} {L : List InD} {Q : List SH} {i k : Nat} {x : InD} {s : SH} (h : L[i]? = some x) (h' : Q[i]? = some s) (hk : k < 7) : (trV r L Q)[1 + i * 7 + k]? = (inoV x s)[k]? := by
  obtain ⟨A, B, h1, h2, _⟩ := tr_split (r := r) h h'
  rw [h2, List.append_assoc, List.getElem?_append_right (by omega), h1, show 1 + i * 7 + k - (1 + i * 7) = k by omega, List.getElem?_append_left (by show k < 7; exact hk)]
theorem tr_set {r : Nat} {L : List InD} {Q : List SH} {i k : Nat} {x x' : InD} {s s' : SH} {v : Value} (h : L[i]? = some x) (h' : Q[i]? = some s) (hk : k < 7) (e : (inoV x s).set k v = inoV x' s') : (trV r L Q).set (1 + i * 7 + k) v = trV r (L.set i x') (Q.set i s') := by
  obtain ⟨A, B, h1, h2, h3⟩ := tr_split (r := r) h h'
  rw [h2, h3, List.append_assoc, List.set_append, if_neg (by omega), h1, show 1 + i * 7 + k - (1 + i * 7) = k by omega, List.set_append, if_pos (by show k < 7; exact hk), e, List.append_assoc]
theorem tr_row {r : Nat} {L : List InD} {Q : List SH} {i : Nat} {x x' : InD} {s s' : SH} {l : List Value} (h : L[i]? = some x) (h' : Q[i]? = some s) (hl : l.length ≤ 7) (e : l ++ (inoV x s).drop l.length = inoV x' s') : ovw (trV r L Q).toArray (1 + i * 7) l = (trV r (L.set i x') (Q.set i s')).toArray := by
  obtain ⟨A, B, h1, h2, h3⟩ := tr_split (r := r) h h'
  have h7 : (inoV x s).length = 7 := rfl
  apply Array.ext'
  rw [ovw_list _ _ _ (by rw [h2]; simp [h1, h7]; omega), h2, h3, ← e]
  simp only [List.append_assoc]
  rw [List.take_left' h1, show 1 + i * 7 + l.length = A.length + l.length by omega, List.drop_append, List.drop_of_length_le (by omega), Nat.add_sub_cancel_left, List.nil_append, List.drop_append_of_le_length (by omega)]
theorem tr_len {r : Nat} : ∀ {L : List InD} {Q : List SH}, L.length = Q.length → (trV r L Q).length = 1 + L.length * 7
  | [], [], _ => rfl
  | x :: L, s :: Q, h => by
    have := tr_len (r := r) (L := L) (Q := Q) (by simpa using h)
    unfold trV at this ⊢
    rw [List.length_cons] at this ⊢
    show (inoV x s ++ tabV7 L Q).length + 1 = _
    rw [List.length_append, List.length_cons]
    show 7 + (tabV7 L Q).length + 1 = _
    omega
  | [], _ :: _, h => by simp at h
  | _ :: _, [], h => by simp at h
/-! ### The bytes of an inode -/
def cont (bs : List UInt8) (blk : List Nat) : List UInt8 := (blk.map fun f => win bs (f * 4096) 4096).flatten
theorem cont_cons (bs : List UInt8) (f : Nat) (r : List Nat) : cont bs (f :: r) = win bs (f * 4096) 4096 ++ cont bs r := by simp [cont]
theorem cont_len {bs : List UInt8} : ∀ {blk : List Nat}, (∀ f ∈ blk, f * 4096 + 4096 ≤ bs.length) → (cont bs blk).length = blk.length * 4096
  | [], _ => rfl
  | f :: r, h => by
    rw [cont_cons, List.length_append, win_len (h f (List.mem_cons_self ..)), cont_len fun g hg => h g (List.mem_cons_of_mem _ hg), List.length_cons]
    omega
theorem win_app_left {a b : List UInt8} {o n : Nat} (h : o + n ≤ a.length) : win (a ++ b) o n = win a o n := by
  apply List.ext_getElem?
  intro j
  rw [win_get, win_get]
  by_cases hj : j < n
  · rw [if_pos hj, if_pos hj, List.getElem?_append_left (by omega)]
  · rw [if_neg hj, if_neg hj]
theorem win_app_right {a b : List UInt8} {o n : Nat} (h : a.length ≤ o) : win (a ++ b) o n = win b (o - a.length) n := by
  apply List.ext_getElem?
  intro j
  rw [win_get, win_get]
  by_cases hj : j < n
  · rw [if_pos hj, if_pos hj, List.getElem?_append_right (by omega)]
    congr 1; omega
  · rw [if_neg hj, if_neg hj]
theorem win_win {bs : List UInt8} {a m o n : Nat} (h : o + n ≤ m) : win (win bs a m) o n = win bs (a + o) n := by
  apply List.ext_getElem?
  intro j
  rw [win_get, win_get, win_get]
  by_cases hj : j < n
  · rw [if_pos hj, if_pos hj, if_pos (by omega)]
    congr 1; omega
  · rw [if_neg hj, if_neg hj]
set_option maxRecDepth 100000 in
theorem cont_win {bs : List UInt8} : ∀ {blk : List Nat} {k f o n : Nat}, (∀ f ∈ blk, f * 4096 + 4096 ≤ bs.length) → blk[k]? = some f → o + n ≤ 4096 → win (cont bs blk) (k * 4096 + o) n = win bs (f * 4096 + o) n
  | [], _, _, _, _, _, h, _ => by simp at h
  | g :: r, 0, f, o, n, hb, h, ho => by
    simp at h
    subst h
    have hl := win_len (hb g (List.mem_cons_self ..))
    have e0 : 0 * 4096 + o = o := by omega
    rw [cont_cons, e0, win_app_left (by omega), win_win (by omega)]
  | g :: r, k + 1, f, o, n, hb, h, ho => by
    have hl := win_len (hb g (List.mem_cons_self ..))
    rw [cont_cons, win_app_right (by omega), hl, show (k + 1) * 4096 + o - 4096 = k * 4096 + o by omega]
    exact cont_win (fun g hg => hb g (List.mem_cons_of_mem _ hg)) (by simpa using h) ho
theorem ovl_app_left {a b x : List UInt8} {o : Nat} (h : o + x.length ≤ a.length) : ovl (a ++ b) o x = ovl a o x ++ b := by
  unfold ovl
  rw [List.take_append_of_le_length (by omega), List.drop_append_of_le_length (by omega)]
  simp
theorem ovl_app_right {a b x : List UInt8} {o : Nat} (h : a.length ≤ o) : ovl (a ++ b) o x = a ++ ovl b (o - a.length) x := by
  unfold ovl
  rw [List.take_append, List.take_of_length_le h, List.drop_append, List.drop_of_length_le (by omega), List.nil_append, show o + x.length - a.length = o - a.length + x.length by omega]
  simp
theorem win_ovl {bs x : List UInt8} {a m o : Nat} (h : a + m ≤ bs.length) (ho : o + x.length ≤ m) : win (ovl bs (a + o) x) a m = ovl (win bs a m) o x := by
  apply List.ext_getElem?
  intro j
  rw [ovl_get (bs := win bs a m) (o := o) (by rw [win_len h]; exact ho) j, win_get, win_get]
  by_cases hj : j < m
  · rw [if_pos hj, if_pos hj, ovl_get (by omega)]
    by_cases h1 : o ≤ j ∧ j < o + x.length
    · rw [if_pos h1, if_pos (by omega)]
      congr 1; omega
    · rw [if_neg h1, if_neg (by omega)]
  · rw [if_neg hj, if_neg hj, if_neg (by omega)]
set_option maxRecDepth 100000 in
theorem cont_off {bs x : List UInt8} {f o : Nat} (hb : f * 4096 + 4096 ≤ bs.length) (ho : o + x.length ≤ 4096) : ∀ {blk : List Nat}, f ∉ blk → cont (ovl bs (f * 4096 + o) x) blk = cont bs blk
  | [], _ => rfl
  | g :: r, h => by
    have hg : g ≠ f := fun e => h (List.mem_cons.2 (.inl e.symm))
    rw [cont_cons, cont_cons, cont_off hb ho fun h' => h (List.mem_cons_of_mem _ h'), win_off (by omega) (by omega)]
set_option maxRecDepth 100000 in
theorem cont_ovl {bs x : List UInt8} : ∀ {blk : List Nat} {k f o : Nat}, (∀ f ∈ blk, f * 4096 + 4096 ≤ bs.length) → blk.Nodup → blk[k]? = some f → o + x.length ≤ 4096 → cont (ovl bs (f * 4096 + o) x) blk = ovl (cont bs blk) (k * 4096 + o) x
  | [], _, _, _, _, _, h, _ => by simp at h
  | g :: r, 0, f, o, hb, hn, h, ho => by
    simp at h
    subst h
    have hg := hb g (List.mem_cons_self ..)
    have hl := win_len hg
    have e0 : 0 * 4096 + o = o := by omega
    rw [cont_cons, cont_cons, cont_off hg ho (List.nodup_cons.1 hn).1, win_ovl hg ho, e0, ovl_app_left (by omega)]
  | g :: r, k + 1, f, o, hb, hn, h, ho => by
    have hg := hb g (List.mem_cons_self ..)
    have hl := win_len hg
    have hf : f ∈ r := List.mem_of_getElem? (by simpa using h : r[k]? = some f)
    have hfb := hb f (List.mem_cons_of_mem _ hf)
    have hgf : g ≠ f := fun e => (List.nodup_cons.1 hn).1 (e ▸ hf)
    rw [cont_cons, cont_cons, cont_ovl (k := k) (fun g hg => hb g (List.mem_cons_of_mem _ hg)) (List.nodup_cons.1 hn).2 (by simpa using h) ho, win_off (by omega) (by omega), ovl_app_right (by omega), hl, show (k + 1) * 4096 + o - 4096 = k * 4096 + o by omega]
end Go.Proofs.YthkcdkldpbndnaaDoor
namespace Go.Proofs.YthkcdkldpbndnaaDoor
open Go.RowKit Go.Hx
/-- A list of frames, as numbers. -/
def fv (b : List Nat) : List Value := b.map fun j => .int .u64 ((fa j : Nat) : Int)
theorem fv_len (b : List Nat) : (fv b).length = b.length := by simp [fv]
theorem fv_get (b : List Nat) (i : Nat) : (fv b)[i]? = (b[i]?).map fun j => .int .u64 ((fa j : Nat) : Int) := by simp [fv]
/-- An inode's address. -/
def ip (t i : Nat) : Addr := ⟨t, 1 + i * 7, none⟩
theorem ip_eq (t i : Nat) : ((⟨t, 0, none⟩ : Addr).add 1).add (i * 7) = ip t i := by rw [Addr.add_lit, Addr.add_lit]; simp [ip]
theorem ip_add (t i k : Nat) : (ip t i).add k = ⟨t, 1 + i * 7 + k, none⟩ := by unfold ip; rw [Addr.add_lit]
/-- The tree at t: its table, its memory, its inodes' lists of blocks. -/
structure TrAt (N : Nat) (w : World) (t r mb hb F : Nat) (fl : List Nat) (bs : List UInt8) (L : List InD) (Q : List SH) : Prop where
  kt : Blk w t (trV r L Q).toArray 123
  lo : N ≤ t
  len : L.length = 200
  lenQ : Q.length = 200
  ram : RamAt N w r mb hb F fl bs
  ow : ∀ (i : Nat) (x : InD) (s : SH), L[i]? = some x → Q[i]? = some s → Ow 100 1 N w s.1 x.blk.length s.2 (fv x.blk)
  far : ∀ (i j : Nat) (s u : SH), i ≠ j → Q[i]? = some s → Q[j]? = some u → Far s.1 u.1
  held : ∀ (i : Nat) (x : InD), L[i]? = some x → ∀ f ∈ x.blk, 1 ≤ f ∧ f < F ∧ f ∉ fl
  nd : (L.map InD.blk).flatten.Nodup
section
variable {N : Nat} {w : World} {t r mb hb F : Nat} {fl : List Nat} {bs : List UInt8} {L : List InD} {Q : List SH}
theorem tree_ne_byte : (123 : TypeId) ≠ 5 := by decide
theorem tree_ne_ram : (123 : TypeId) ≠ 137 := by decide
theorem tree_ne_u64 : (123 : TypeId) ≠ 100 := by decide
theorem u64_ne_byte : (100 : TypeId) ≠ 5 := by decide
theorem u64_ne_ram : (100 : TypeId) ≠ 137 := by decide
theorem TrAt.getQ (h : TrAt N w t r mb hb F fl bs L Q) {i : Nat} {x : InD} (hx : L[i]? = some x) : ∃ s, Q[i]? = some s := ⟨_, List.getElem?_eq_getElem (by have := (List.getElem?_eq_some_iff.1 hx).1; have := h.len; have := h.lenQ; omega)⟩
theorem TrAt.getL (h : TrAt N w t r mb hb F fl bs L Q) {i : Nat} (hi : i < 200) : ∃ x, L[i]? = some x := ⟨_, List.getElem?_eq_getElem (by have := h.len; omega)⟩
theorem TrAt.cell (h : TrAt N w t r mb hb F fl bs L Q) {i k : Nat} {x : InD} {s : SH} (hx : L[i]? = some x) (hs : Q[i]? = some s) (hk : k < 7) {v : Value} (hv : (inoV x s)[k]? = some v) : w.cell? ((ip t i).add k) = some v := by
  rw [ip_add]
  exact h.kt.cell (by rw [List.getElem?_toArray, tr_get hx hs hk]; exact hv)
theorem TrAt.cell0 (h : TrAt N w t r mb hb F fl bs L Q) {i : Nat} {x : InD} (hx : L[i]? = some x) : w.cell? (ip t i) = some (.int .i64 x.typ) := by
  obtain ⟨s, hs⟩ := h.getQ hx
  have := h.cell (k := 0) hx hs (by decide) rfl
  rwa [ip_add] at this
theorem TrAt.mem (h : TrAt N w t r mb hb F fl bs L Q) : w.cell? (⟨t, 0, none⟩ : Addr) = some (rp r) := h.kt.cell rfl
/-- Where the tree lies. -/
def TS (t r mb hb : Nat) (Q : List SH) (k : Nat) : Prop := k = t ∨ RS r mb hb k ∨ ∃ (i : Nat) (s : SH) (a : Addr), Q[i]? = some s ∧ s.1 = some a ∧ k = a.block
theorem TrAt.keep {w' : World} (h : TrAt N w t r mb hb F fl bs L Q) (hk : ∀ k, TS t r mb hb Q k → w'.heap[k]? = w.heap[k]?) : TrAt N w' t r mb hb F fl bs L Q :=
  ⟨h.kt.keep (hk _ (.inl rfl)), h.lo, h.len, h.lenQ, h.ram.keep fun k hs => hk k (.inr (.inl hs)), fun i x s hx hs => (h.ow i x s hx hs).keep fun a ha => hk _ (.inr (.inr ⟨i, s, a, hs, ha, rfl⟩)), h.far, h.held, h.nd⟩
theorem TrAt.lt (h : TrAt N w t r mb hb F fl bs L Q) : ∀ k, TS t r mb hb Q k → k < w.heap.size := by
  rintro k (rfl | hs | ⟨i, s, a, hs, ha, rfl⟩)
  · exact h.kt.lt
  · exact h.ram.lt k hs
  · obtain ⟨x, hx⟩ := h.getL (i := i) (by have := (List.getElem?_eq_some_iff.1 hs).1; have := h.lenQ; omega)
    exact ((h.ow i x s hx hs).lt ha).1
theorem TrAt.below {w' : World} (h : TrAt N w t r mb hb F fl bs L Q) (b : Below w.heap.size w w') : TrAt N w' t r mb hb F fl bs L Q := h.keep fun k hk => b.block k (h.lt k hk)
theorem TrAt.drew (h : TrAt N w t r mb hb F fl bs L Q) : TrAt N w.drew t r mb hb F fl bs L Q := h.keep fun _ _ => rfl
/-! ### is, there -/
theorem c_tis (h : TrAt N w t r mb hb F fl bs L Q) : Calls Tryd.prog 80 #[rp t] w (Ret fun v w' => v = .bool true ∧ w = w') :=
  W80_ok _ w _ ⟨_, h.mem, rfl, rfl⟩
def nodeC (x : InD) : List Value := [.int .i64 x.typ, .int .i16 x.maj, .int .i16 x.min, .int .i64 x.links, .int .i64 x.refs, .int .i64 ((x.size : Nat) : Int)]
def nodeZ : List Value := [.int .i64 0, .int .i16 0, .int .i16 0, .int .i64 0, .int .i64 0, .int .i64 0]
def isZ (x : InD) : Bool := decide (x.typ = 0 ∧ x.maj = 0 ∧ x.min = 0 ∧ x.links = 0 ∧ x.refs = 0 ∧ x.size = 0)
theorem bNode : bldP Tryd.prog 118 [] (.agg nodeZ.toArray) := fun w => by kernel_rfl
def kN : List Kd := [.int .i64, .int .i16, .int .i16, .int .i64, .int .i64, .int .i64]
theorem eq_Node (x : InD) : AggEq Tryd.prog 118 (nodeC x).toArray nodeZ.toArray (isZ x) := by
  have hx : conf kN (nodeC x) := ⟨⟨_, rfl⟩, ⟨_, rfl⟩, ⟨_, rfl⟩, ⟨_, rfl⟩, ⟨_, rfl⟩, ⟨_, rfl⟩, trivial⟩
  have hy : conf kN nodeZ := ⟨⟨_, rfl⟩, ⟨_, rfl⟩, ⟨_, rfl⟩, ⟨_, rfl⟩, ⟨_, rfl⟩, ⟨_, rfl⟩, trivial⟩
  have h1 := aggEq_of (P := Tryd.prog) (t := 118) (ks := kN) (D := 3) (by decide) (by kernel_rfl) (by kernel_rfl) hx hy
  have e : leq (nodeC x) nodeZ = isZ x := by
    rw [Bool.eq_iff_iff, leq_iff hx hy, isZ, decide_eq_true_eq]
    simp only [nodeC, nodeZ, List.cons.injEq, Value.int.injEq, true_and, and_true]
    constructor
    · rintro ⟨a, b, c, d, e, f⟩
      exact ⟨a, b, c, d, e, by omega⟩
    · rintro ⟨a, b, c, d, e, f⟩
      exact ⟨a, b, c, d, e, by omega⟩
  rw [← e]
  exact h1
theorem TrAt.node (h : TrAt N w t r mb hb F fl bs L Q) {i : Nat} {x : InD} (hx : L[i]? = some x) : RowAt w (ip t i) (nodeC x).toArray := by
  obtain ⟨s, hs⟩ := h.getQ hx
  intro k v hv
  rw [List.getElem?_toArray] at hv
  have hk : k < 6 := (List.getElem?_eq_some_iff.1 hv).1
  refine h.cell hx hs (by omega) ?_
  show (nodeC x ++ [Value.slice s.1 x.blk.length s.2])[k]? = _
  rw [List.getElem?_append_left hk]
  exact hv
/-- Is there such an inode? -/
def thereD (L : List InD) (i : Int) : Bool := decide (0 < i) && decide (i < 200) && match L[i.toNat]? with
  | some x => !isZ x
  | none => false
theorem c_there (h : TrAt N w t r mb hb F fl bs L Q) (i : Int) : Calls Tryd.prog 81 #[rp t, .int .i64 i] w (Ret fun v w' => v = .bool (thereD L i) ∧ w = w') := by
  refine W81_ok _ _ w _ (c_dec (fun h1 => c_dec (fun h2 => ?_) (fun h2 => ⟨?_, rfl⟩)) (fun h1 => ⟨?_, rfl⟩))
  · have h1 : 0 < i := h1
    obtain ⟨x, hx⟩ := h.getL (i := i.toNat) (by omega)
    refine ⟨⟨by omega, h2⟩, (nodeC x).toArray, rfl, by rw [ip_eq]; exact h.node hx, _, bNode, _, eq_Node x, ?_, rfl⟩
    unfold thereD
    rw [decide_eq_true h1, decide_eq_true h2, hx]
    rfl
  · unfold thereD
    rw [decide_eq_false h2, Bool.and_false]; rfl
  · unfold thereD
    rw [decide_eq_false (by omega : ¬ 0 < i)]; rfl
/-! ### get -/
theorem TrAt.fits (h : TrAt N w t r mb hb F fl bs L Q) {i : Nat} {x : InD} (hx : L[i]? = some x) : ∀ f ∈ x.blk, f * 4096 + 4096 ≤ bs.length := fun f hf => by
  have := (h.held i x hx f hf).2.1
  have := h.ram.len
  omega
theorem win_snoc (C : List UInt8) (o k m : Nat) : win C o k ++ win C (o + k) m = win C o (k + m) := by
  apply List.ext_getElem?
  intro j
  rw [win_get]
  by_cases hlen : o + k ≤ C.length
  · have hl := win_len hlen
    rcases Nat.lt_or_ge j k with h | h
    · rw [List.getElem?_append_left (by omega), win_get, if_pos h, if_pos (by omega)]
    · rw [List.getElem?_append_right (by omega), hl, win_get]
      by_cases h2 : j < k + m
      · rw [if_pos h2, if_pos (by omega)]
        congr 1; omega
      · rw [if_neg h2, if_neg (by omega)]
  · have e : win C (o + k) m = [] := by
      unfold win
      rw [List.drop_of_length_le (by omega), List.take_nil]
    rw [e, List.append_nil, win_get]
    by_cases h1 : j < k
    · rw [if_pos h1, if_pos (by omega)]
    · rw [if_neg h1]
      by_cases h2 : j < k + m
      · rw [if_pos h2, List.getElem?_eq_none (by omega)]
      · rw [if_neg h2]
theorem pa_wrap {f o : Nat} (hf : f < 4096) (ho : o < 4096) : IntKind.u64.wrap (((fa f : Nat) : Int) + IntKind.u64.wrap ((o : Nat) : Int)) = ((fa f + o : Nat) : Int) := by
  rw [wu64 o (by omega), wuI (by unfold fa; omega) (by unfold fa; omega)]; omega
set_option maxRecDepth 100000 in
theorem c_get (h : TrAt N w t r mb hb F fl bs L Q) {i o n : Nat} {x : InD} (hx : L[i]? = some x) (hn : o + n ≤ x.blk.length * 4096) (hbig : x.blk.length ≤ 1000000) : Calls Tryd.prog 84 #[rp t, .pointer (some (ip t i)), .int .i64 ((o : Nat) : Int), .int .i64 ((n : Nat) : Int)] w
    (Ret fun v w' => ∃ q c, v = .slice q n c ∧ Ow 5 1 w.heap.size w' q n c (bv (win (cont bs x.blk) o n)) ∧ Below w.heap.size w w') := by
  obtain ⟨s, hs⟩ := h.getQ hx
  have hF := h.ram.F2
  have hfit := h.fits hx
  refine W84_ok _ _ _ _ w _ ⟨fun t' w' => ∃ (k : Nat) (q : Option Addr) (c : Nat), t' = (((o + k : Nat) : Int), ((n - k : Nat) : Int), (q, k, c), ()) ∧ k ≤ n ∧ Ow 5 1 w.heap.size w' q k c (bv (win (cont bs x.blk) o k)) ∧ Below w.heap.size w w', fun t' _ => t'.2.1.toNat,
    ⟨(((o : Nat) : Int), ((n : Nat) : Int), (none, 0, 0), ()), rfl, 0, none, 0, by simp, Nat.zero_le _, by
      have e : win (cont bs x.blk) o 0 = [] := rfl
      rw [e]; exact Ow.nil _ _ _ _, Below.refl _ _⟩, ?_⟩
  rintro _ _ w1 ⟨k, q, c, rfl, hk, o1, b1⟩
  have z1 := b1.size
  refine c_dec (fun hgt => ?_) (fun hle => ?_)
  · have hgt : k < n := by
      have : ((n - k : Nat) : Int) > 0 := hgt
      omega
    have h1 := (h.below b1).drew
    obtain ⟨f, hf⟩ : ∃ f, x.blk[(o + k) / 4096]? = some f := ⟨_, List.getElem?_eq_getElem (by omega)⟩
    have hfm := List.mem_of_getElem? hf
    obtain ⟨hf1, hf2, hf3⟩ := h.held i x hx f hfm
    -- how many bytes of this block
    obtain ⟨m, hm⟩ : ∃ m, m = min (n - k) (4096 - (o + k) % 4096) := ⟨_, rfl⟩
    have e1 : (((o + k : Nat) : Int)).tmod 4096 = (((o + k) % 4096 : Nat) : Int) := by rw [Int.tmod_eq_emod_of_nonneg (by omega)]; omega
    have e2 : IntKind.i64.wrap ((((o + k : Nat) : Int)).tdiv 4096) = (((o + k) / 4096 : Nat) : Int) := by rw [Int.tdiv_eq_ediv_of_nonneg (by omega), wrap_in (by omega) (by omega)]; omega
    have e3 : (if IntKind.i64.wrap (4096 - (((o + k : Nat) : Int)).tmod 4096) < ((n - k : Nat) : Int) then IntKind.i64.wrap (4096 - (((o + k : Nat) : Int)).tmod 4096) else ((n - k : Nat) : Int)) = ((m : Nat) : Int) := by
      rw [e1, wrap_in (by omega) (by omega)]
      split <;> omega
    dsimp only
    rw [e1, e2]
    rw [e1] at e3
    rw [e3]
    refine ⟨by decide, fun w' => w' = w1.drew, rfl, _, fun w' e => (by rw [e]; exact h1.mem), s.1, x.blk.length, s.2, fun w' e => (by rw [e]; exact h1.cell (k := 6) hx hs (by decide) rfl), by decide, ?_⟩
    have hq := (h1.ow i x s hx hs).rd
    refine hq.at1 (i := (o + k) / 4096) (by omega) fun a v ha hv hc => ?_
    rw [fv_get, hf] at hv
    have hv : v = .int .u64 ((fa f : Nat) : Int) := by simpa using hv.symm
    subst hv
    refine ⟨_, fun w' e => (by rw [e, Int.toNat_natCast]; exact hc), by decide, ?_⟩
    rw [pa_wrap (by omega) (by omega)]
    refine (c_rRead h1.ram hf2 hf3 (o := (o + k) % 4096) (n := m) (by omega) (by omega)).mono ?_
    rintro _ w2 ⟨_, rfl, q2, c2, rfl, o2, b2⟩
    have b2 : Below w1.heap.size w1 w2 := undrew b2
    refine ⟨_, _, _, _, rfl, (o1.below b2).appR (by have := b2.size; omega) o2.rd kBs kB (fun u hu => ?_) (by omega) (by unfold maxLen; omega) fun q' c' w3 o3 b3 _ => ?_⟩
    · simp only [bv, List.mem_map] at hu
      obtain ⟨b, _, rfl⟩ := hu
      rfl
    · rw [← bv_app] at o3
      have ew : win (cont bs x.blk) (o + k) m = win bs (f * 4096 + (o + k) % 4096) m := by
        have := cont_win (bs := bs) (blk := x.blk) (k := (o + k) / 4096) (f := f) (o := (o + k) % 4096) (n := m) hfit hf (by omega)
        rw [← this]
        congr 1; omega
      rw [← ew, win_snoc] at o3
      refine ⟨(((o + (k + m) : Nat) : Int), ((n - (k + m) : Nat) : Int), (q', k + m, c'), ()), ?_, ⟨k + m, q', c', rfl, by omega, o3, (b1.trans (b2.mono z1)).trans b3⟩, ?_⟩
      · have e4 : IntKind.i64.wrap (((o + k : Nat) : Int) + ((m : Nat) : Int)) = ((o + (k + m) : Nat) : Int) := by rw [wrap_in (by omega) (by omega)]; omega
        have e5 : IntKind.i64.wrap (((n - k : Nat) : Int) - ((m : Nat) : Int)) = ((n - (k + m) : Nat) : Int) := by rw [wrap_in (by omega) (by omega)]; omega
        rw [e4, e5]; rfl
      · show (((n - (k + m) : Nat) : Int)).toNat < (((n - k : Nat) : Int)).toNat
        omega
  · have hkn : k = n := by
      have : ¬ ((n - k : Nat) : Int) > 0 := hle
      omega
    subst hkn
    exact ⟨q, c, rfl, o1, b1⟩
end
end Go.Proofs.YthkcdkldpbndnaaDoor
namespace Go.Proofs.YthkcdkldpbndnaaDoor
open Go.RowKit Go.Hx
/-- From w to w' only the tree's own blocks have turned; its new ones are new. -/
def TrG (t r mb hb : Nat) (Q Q' : List SH) (w w' : World) : Prop := Kp (TS t r mb hb Q) w.heap.size w w' ∧ ∀ k, TS t r mb hb Q' k → TS t r mb hb Q k ∨ w.heap.size ≤ k
theorem TrG.trans {t r mb hb : Nat} {Q Q' Q'' : List SH} {w w' w'' : World} (h : TrG t r mb hb Q Q' w w') (k : TrG t r mb hb Q' Q'' w' w'') : TrG t r mb hb Q Q'' w w'' := by
  have hz := h.1.size
  refine ⟨⟨k.1.os.trans h.1.os, k.1.tape.trans h.1.tape, k.1.output.trans h.1.output, Nat.le_trans h.1.size k.1.size, fun j hj hs => (k.1.block j (by omega) fun hs' => ?_).trans (h.1.block j hj hs)⟩, fun j hj => ?_⟩
  · rcases h.2 j hs' with h1 | h1
    · exact hs h1
    · omega
  · rcases k.2 j hj with h1 | h1
    · exact h.2 j h1
    · exact .inr (by omega)
theorem TrG.of_below {t r mb hb : Nat} {Q : List SH} {w w' : World} (h : Below w.heap.size w w') : TrG t r mb hb Q Q w w' := ⟨Kp.of_below h (Nat.le_refl _), fun _ hk => .inl hk⟩
theorem TrG.of_ram {t r mb hb : Nat} {Q : List SH} {w w' : World} (h : Kp (RS r mb hb) w.heap.size w w') : TrG t r mb hb Q Q w w' := ⟨h.mono (fun _ _ hs => .inr (.inl hs)) (Nat.le_refl _), fun _ hk => .inl hk⟩
theorem TrG.of_mod {t r mb hb : Nat} {Q : List SH} {w w' : World} (h : Mod t w w') : TrG t r mb hb Q Q w w' := ⟨kp_of_mod h (.inl rfl), fun _ hk => .inl hk⟩
theorem TrG.size {t r mb hb : Nat} {Q Q' : List SH} {w w' : World} (h : TrG t r mb hb Q Q' w w') : w.heap.size ≤ w'.heap.size := h.1.size
section
variable {N : Nat} {w : World} {t r mb hb F : Nat} {fl : List Nat} {bs : List UInt8} {L : List InD} {Q : List SH}
/-- What is not the memory's own stays, where the memory turns. -/
theorem TrAt.notRS (h : TrAt N w t r mb hb F fl bs L Q) : ¬ RS r mb hb t := by
  obtain ⟨ks, hk, _⟩ := h.ram.kh
  rintro (e | e | e)
  · exact tree_ne_ram (h.kt.ty (by rw [e]; exact h.ram.kr))
  · exact tree_ne_byte (h.kt.ty (by rw [e]; exact h.ram.km))
  · exact mp_ne hk h.kt e
theorem TrAt.owRS (h : TrAt N w t r mb hb F fl bs L Q) {i : Nat} {x : InD} {s : SH} (hx : L[i]? = some x) (hs : Q[i]? = some s) {a : Addr} (ha : s.1 = some a) : ¬ RS r mb hb a.block ∧ a.block ≠ t := by
  obtain ⟨_, cs, hB⟩ := (h.ow i x s hx hs).rdT.2 a ha
  obtain ⟨ks, hk, _⟩ := h.ram.kh
  refine ⟨?_, fun e => tree_ne_u64 (h.kt.ty (by rw [← e]; exact hB))⟩
  rintro (e | e | e)
  · exact u64_ne_ram (hB.ty (by rw [e]; exact h.ram.kr))
  · exact u64_ne_byte (hB.ty (by rw [e]; exact h.ram.km))
  · exact mp_ne hk hB e
/-- The memory turns, the table stays. -/
theorem TrAt.ramTo {w' : World} {fl' : List Nat} {bs' : List UInt8} (h : TrAt N w t r mb hb F fl bs L Q) (hr : RamAt N w' r mb hb F fl' bs') (kp : Kp (RS r mb hb) w.heap.size w w') (hh : ∀ (i : Nat) (x : InD), L[i]? = some x → ∀ f ∈ x.blk, f ∉ fl') : TrAt N w' t r mb hb F fl' bs' L Q :=
  ⟨h.kt.keep (kp.block _ h.kt.lt h.notRS), h.lo, h.len, h.lenQ, hr, fun i x s hx hs => (h.ow i x s hx hs).keep fun a ha => kp.block _ ((h.ow i x s hx hs).lt ha).1 (h.owRS hx hs ha).1, h.far, fun i x hx f hf => ⟨(h.held i x hx f hf).1, (h.held i x hx f hf).2.1, hh i x hx f hf⟩, h.nd⟩
theorem blk_set {L : List InD} {i : Nat} {x x' : InD} (hx : L[i]? = some x) (hbk : x'.blk = x.blk) : (L.set i x').map InD.blk = L.map InD.blk := by
  rw [List.map_set]
  apply List.ext_getElem?
  intro j
  rw [List.getElem?_set]
  by_cases hj : i = j
  · subst hj
    have := (List.getElem?_eq_some_iff.1 hx).1
    rw [if_pos rfl, List.length_map, if_pos this, List.getElem?_map, hx]; show some x'.blk = some x.blk; rw [hbk]
  · rw [if_neg hj]
/-- One field of an inode is written. -/
theorem TrAt.setF (h : TrAt N w t r mb hb F fl bs L Q) {i k : Nat} {x x' : InD} {v : Value} (hx : L[i]? = some x) (hk : k < 6) (hbk : x'.blk = x.blk) (he : ∀ s, (inoV x s).set k v = inoV x' s) {K : World → Prop}
    (hK : ∀ w', TrAt N w' t r mb hb F fl bs (L.set i x') Q → Mod t w w' → w'.heap.size = w.heap.size → K w') : stC ((ip t i).add k) v w K := by
  obtain ⟨s, hs⟩ := h.getQ hx
  have hil : i < L.length := (List.getElem?_eq_some_iff.1 hx).1
  have hsQ : Q.set i s = Q := by
    apply List.ext_getElem?
    intro j
    rw [List.getElem?_set]
    by_cases hj : i = j
    · subst hj
      rw [if_pos rfl, if_pos (by have := h.lenQ; have := h.len; omega), hs]
    · rw [if_neg hj]
  rw [ip_add]
  refine stC_intro h.kt (by rw [List.size_toArray, tr_len (by rw [h.len, h.lenQ]), h.len]; have := h.len; omega) fun w' k' m s' => ?_
  rw [List.setIfInBounds_toArray, tr_set hx hs (by omega) (he s), hsQ] at k'
  refine hK w' ⟨k', h.lo, by rw [List.length_set]; exact h.len, h.lenQ, ?_, fun j y u hy hu => ?_, h.far, fun j y hy f hf => ?_, by rw [blk_set hx hbk]; exact h.nd⟩ m s'
  · obtain ⟨ks, hk, _⟩ := h.ram.kh
    exact h.ram.keep fun b hs => m.block b (h.ram.lt b hs) fun e => h.notRS (e ▸ hs)
  · rw [List.getElem?_set] at hy
    have key : ∀ y, L[j]? = some y → Ow 100 1 N w' u.1 y.blk.length u.2 (fv y.blk) := fun y hy => (h.ow j y u hy hu).keep fun a ha => m.block _ ((h.ow j y u hy hu).lt ha).1 (h.owRS hy hu ha).2
    by_cases hj : i = j
    · subst hj
      rw [if_pos rfl, if_pos hil] at hy
      cases hy
      rw [hbk]
      exact key x hx
    · rw [if_neg hj] at hy
      exact key y hy
  · rw [List.getElem?_set] at hy
    by_cases hj : i = j
    · subst hj
      rw [if_pos rfl, if_pos hil] at hy
      cases hy
      rw [hbk] at hf
      exact h.held i x hx f hf
    · rw [if_neg hj] at hy
      exact h.held j y hy f hf
end
end Go.Proofs.YthkcdkldpbndnaaDoor
namespace Go.Proofs.YthkcdkldpbndnaaDoor
open Go.RowKit Go.Hx
theorem kUs : slT Tryd.prog 48 100 = true := by kernel_rfl
theorem kU : infB Tryd.prog 100 1 8 = true := by kernel_rfl
theorem set_self {α : Type} {L : List α} {i : Nat} {x y : α} (h : L[i]? = some x) : (L.set i y)[i]? = some y := by
  have := (List.getElem?_eq_some_iff.1 h).1
  rw [List.getElem?_set, if_pos rfl, if_pos this]
theorem set_other {α : Type} {L : List α} {i j : Nat} {y : α} (h : i ≠ j) : (L.set i y)[j]? = L[j]? := by rw [List.getElem?_set, if_neg h]
theorem set_case {α : Type} {L : List α} {i j : Nat} {x y z : α} (h : L[i]? = some x) (hz : (L.set i y)[j]? = some z) : (i = j ∧ z = y) ∨ (i ≠ j ∧ L[j]? = some z) := by
  by_cases hj : i = j
  · subst hj
    rw [set_self h] at hz
    exact .inl ⟨rfl, (Option.some.inj hz).symm⟩
  · rw [set_other hj] at hz
    exact .inr ⟨hj, hz⟩
theorem flat_set {L : List InD} {i : Nat} {x x' : InD} {f : Nat} (hx : L[i]? = some x) (hb : x'.blk = x.blk ++ [f]) (hn : (L.map InD.blk).flatten.Nodup) (hf : ∀ (j : Nat) (y : InD), L[j]? = some y → f ∉ y.blk) : ((L.set i x').map InD.blk).flatten.Nodup := by
  induction L generalizing i with
  | nil => simp at hx
  | cons y r ih =>
    rw [List.map_cons, List.flatten_cons, List.nodup_append] at hn
    obtain ⟨h1, h2, h3⟩ := hn
    have hfr : f ∉ (r.map InD.blk).flatten := fun hc => by
      obtain ⟨l, hl, hfl⟩ := List.mem_flatten.1 hc
      obtain ⟨z, hz, rfl⟩ := List.mem_map.1 hl
      obtain ⟨j, hj⟩ := List.mem_iff_getElem?.1 hz
      exact hf (j + 1) z (by simpa using hj) hfl
    cases i with
    | zero =>
      simp at hx
      subst hx
      have hfy := hf 0 y rfl
      rw [List.set_cons_zero, List.map_cons, List.flatten_cons, hb, List.nodup_append]
      refine ⟨List.nodup_append.2 ⟨h1, by simp, fun a ha b hb => by simp at hb; subst hb; rintro rfl; exact hfy ha⟩, h2, fun a ha b hb => ?_⟩
      rcases List.mem_append.1 ha with ha | ha
      · exact h3 a ha b hb
      · simp at ha
        subst ha
        rintro rfl
        exact hfr hb
    | succ i =>
      rw [List.set_cons_succ, List.map_cons, List.flatten_cons, List.nodup_append]
      refine ⟨h1, ih (i := i) (by simpa using hx) h2 fun j z hz => hf (j + 1) z (by simpa using hz), fun a ha b hb' => ?_⟩
      obtain ⟨l, hl, hbl⟩ := List.mem_flatten.1 hb'
      obtain ⟨z, hz, rfl⟩ := List.mem_map.1 hl
      obtain ⟨j, hj⟩ := List.mem_iff_getElem?.1 hz
      rcases set_case (by simpa using hx) hj with ⟨_, rfl⟩ | ⟨_, hj⟩
      · rw [hb] at hbl
        rcases List.mem_append.1 hbl with hbl | hbl
        · refine h3 a ha b (List.mem_flatten.2 ⟨x.blk, List.mem_map.2 ⟨x, List.mem_of_getElem? (i := i) (by simpa using hx), rfl⟩, hbl⟩)
        · simp at hbl
          subst hbl
          rintro rfl
          exact hf 0 y rfl ha
      · exact h3 a ha b (List.mem_flatten.2 ⟨z.blk, List.mem_map.2 ⟨z, List.mem_of_getElem? hj, rfl⟩, hbl⟩)
section
variable {N : Nat} {w : World} {t r mb hb F : Nat} {fl : List Nat} {bs : List UInt8} {L : List InD} {Q : List SH}
theorem c_grow0 (h : TrAt N w t r mb hb F [] bs L Q) (p : Option Addr) : Calls Tryd.prog 82 #[rp t, .pointer p] w (Ret fun v w' => v = .bool false ∧ w = w') := by
  refine W82_ok _ _ w _ ⟨_, h.mem, (c_Alloc0 h.ram).mono ?_⟩
  rintro _ _ ⟨_, rfl, rfl, rfl⟩
  exact ⟨_, _, rfl, rfl, rfl⟩
theorem c_grow {f i : Nat} {x : InD} (h : TrAt N w t r mb hb F (f :: fl) bs L Q) (hN : N ≤ w.heap.size) (hx : L[i]? = some x) (hbig : x.blk.length ≤ 100000) : Calls Tryd.prog 82 #[rp t, .pointer (some (ip t i))] w
    (Ret fun v w' => v = .bool true ∧ ∃ Q', TrAt N w' t r mb hb F fl (alB bs f) (L.set i { x with blk := x.blk ++ [f] }) Q' ∧ TrG t r mb hb Q Q' w w') := by
  obtain ⟨s, hs⟩ := h.getQ hx
  have hlow := h.ram.low f (List.mem_cons_self ..)
  have hnf : f ∉ fl := (List.nodup_cons.1 h.ram.nd).1
  refine W82_ok _ _ w _ ⟨_, h.mem, (c_Alloc h.ram).mono ?_⟩
  rintro _ w1 ⟨_, rfl, rfl, hr1, kp1⟩
  have z1 := kp1.size
  have h1 := h.ramTo hr1 kp1 fun j y hy g hg hc => (h.held j y hy g hg).2.2 (List.mem_cons_of_mem _ hc)
  refine ⟨_, _, rfl, s.1, x.blk.length, s.2, h1.cell hx hs (by decide) rfl, ?_⟩
  refine (h1.ow i x s hx hs).push (by omega) kUs kU rfl (by decide) (fun u hu => by simp [Value.cells] at hu; rw [hu]; rfl) (by omega) (by unfold maxLen; omega) fun q' c' w2 o2 b2 g2 => nl ?_
  have z2 := b2.size
  have hlt1 := h1.lt
  -- what the append leaves
  have keep2 : ∀ k, TS t r mb hb Q k → (∀ a, s.1 = some a → k ≠ a.block) → w2.heap[k]? = w1.heap[k]? := fun k hk hne => g2.block k (hlt1 k hk) hne
  have hblk : fv x.blk ++ (Value.int .u64 ((fa f : Nat) : Int)).cells.toList = fv (x.blk ++ [f]) := by
    unfold fv
    rw [List.map_append]; rfl
  rw [hblk] at o2
  -- the table, with the new list's header written
  have kt2 : Blk w2 t (trV r L Q).toArray 123 := h1.kt.keep (keep2 t (.inl rfl) fun a ha e => (h1.owRS hx hs ha).2 e.symm)
  rw [ip_add]
  refine stC_intro kt2 (by rw [List.size_toArray, tr_len (by rw [h.len, h.lenQ]), h.len]; have := (List.getElem?_eq_some_iff.1 hx).1; have := h.len; omega) fun w3 k3 m3 s3 => ?_
  rw [List.setIfInBounds_toArray, tr_set (x' := { x with blk := x.blk ++ [f] }) (s' := (q', c')) hx hs (by decide) (by
    show _ = [_, _, _, _, _, _, Value.slice q' (x.blk ++ [f]).length c']
    rw [List.length_append]; rfl)] at k3
  -- where the new list lies
  have hq' : ∀ a, q' = some a → (s.1 = some a ∨ w1.heap.size ≤ a.block) ∧ a.block ≠ t := fun a ha => by
    refine ⟨g2.new a ha, fun e => ?_⟩
    obtain ⟨_, cs, hB⟩ := o2.rdT.2 a ha
    rw [e] at hB
    exact tree_ne_u64 (kt2.ty hB)
  have hold : ∀ (j : Nat) (u : SH), i ≠ j → Q[j]? = some u → Far q' u.1 := fun j u hij hu a b ha hb' => by
    rcases (hq' a ha).1 with e | e
    · exact h.far i j s u hij hs hu a b e hb'
    · have := hlt1 _ (.inr (.inr ⟨j, u, b, hu, hb', rfl⟩)); omega
  refine ⟨rfl, Q.set i (q', c'), ⟨k3, h.lo, by rw [List.length_set]; exact h.len, by rw [List.length_set]; exact h.lenQ, ?_, fun j y u hy hu => ?_, fun j j' u u' hj hu hu' => ?_, fun j y hy g hg => ?_, ?_⟩, ?_⟩
  · refine (hr1.keep fun k hk => (keep2 k (.inr (.inl hk)) fun a ha e => (h1.owRS hx hs ha).1 (e ▸ hk))).keep fun k hk => m3.block k ?_ fun e => h.notRS (e ▸ hk)
    have := hr1.lt k hk; omega
  · rcases set_case hx hy with ⟨rfl, rfl⟩ | ⟨hij, hy'⟩
    · rw [set_self hs] at hu
      cases hu
      have hl : (x.blk ++ [f]).length = x.blk.length + 1 := by simp
      show Ow _ _ _ _ q' (x.blk ++ [f]).length c' _
      rw [hl]
      exact o2.keep fun a ha => m3.block _ (o2.lt ha).1 (hq' a ha).2
    · rw [set_other hij] at hu
      have o := h1.ow j y u hy' hu
      refine o.keep fun a ha => ?_
      have hts : TS t r mb hb Q a.block := .inr (.inr ⟨j, u, a, hu, ha, rfl⟩)
      rw [m3.block _ (by have := (o.lt ha).1; omega) (h1.owRS hy' hu ha).2]
      exact keep2 _ hts fun b hb' e => h.far i j s u hij hs hu b a hb' ha e.symm
  · rcases set_case hs hu with ⟨rfl, rfl⟩ | ⟨hij, hu⟩
    · rw [set_other hj] at hu'
      exact hold j' u' hj hu'
    · rcases set_case hs hu' with ⟨rfl, rfl⟩ | ⟨hij', hu'⟩
      · exact (hold j u hij hu).symm
      · exact h.far j j' u u' hj hu hu'
  · rcases set_case hx hy with ⟨rfl, rfl⟩ | ⟨hij, hy⟩
    · have hg : g ∈ x.blk ++ [f] := hg
      rcases List.mem_append.1 hg with hg | hg
      · exact h1.held i x hx g hg
      · simp at hg
        subst hg
        exact ⟨hlow.1, hlow.2, hnf⟩
    · exact h1.held j y hy g hg
  · exact flat_set hx rfl h.nd fun j y hy hc => (h.held j y hy f hc).2.2 (List.mem_cons_self ..)
  · refine (TrG.of_ram kp1).trans ⟨⟨m3.os.trans g2.os, m3.tape.trans g2.tape, m3.output.trans g2.output, by omega, fun k hk hs' => ?_⟩, fun k hk => ?_⟩
    · rw [m3.block k (by omega) fun e => hs' (.inl e)]
      exact g2.block k hk fun a ha e => hs' (.inr (.inr ⟨i, s, a, hs, ha, e⟩))
    · rcases hk with e | e | ⟨j, u, a, hu, ha, e⟩
      · exact .inl (.inl e)
      · exact .inl (.inr (.inl e))
      · rcases set_case hs hu with ⟨rfl, rfl⟩ | ⟨hij, hu⟩
        · rcases (hq' a ha).1 with h2 | h2
          · exact .inl (.inr (.inr ⟨i, s, a, hs, h2, e⟩))
          · exact .inr (by omega)
        · exact .inl (.inr (.inr ⟨j, u, a, hu, ha, e⟩))
end
end Go.Proofs.YthkcdkldpbndnaaDoor
namespace Go.Proofs.YthkcdkldpbndnaaDoor
open Go.RowKit Go.Hx
theorem ovl_next {C a b : List UInt8} {o : Nat} (h : o + a.length + b.length ≤ C.length) : ovl (ovl C o a) (o + a.length) b = ovl C o (a ++ b) := by
  apply List.ext_getElem?
  intro j
  rw [ovl_get (by rw [ovl_len (by omega)]; omega), ovl_get (by omega), ovl_get (by rw [List.length_append]; omega), List.length_append]
  by_cases h1 : o + a.length ≤ j ∧ j < o + a.length + b.length
  · rw [if_pos h1, if_pos (by omega), List.getElem?_append_right (by omega)]
    congr 1; omega
  · rw [if_neg h1]
    by_cases h2 : o ≤ j ∧ j < o + a.length
    · rw [if_pos h2, if_pos (by omega), List.getElem?_append_left (by omega)]
    · rw [if_neg h2, if_neg (by omega)]
section
variable {N : Nat} {w : World} {t r mb hb F : Nat} {fl : List Nat} {bs : List UInt8} {L : List InD} {Q : List SH}
theorem mem_flat {x : InD} {i : Nat} (hx : L[i]? = some x) {f : Nat} (hf : f ∈ x.blk) : f ∈ (L.map InD.blk).flatten := List.mem_flatten.2 ⟨x.blk, List.mem_map.2 ⟨x, List.mem_of_getElem? hx, rfl⟩, hf⟩
theorem TrAt.nodup (h : TrAt N w t r mb hb F fl bs L Q) {i : Nat} {x : InD} (hx : L[i]? = some x) : x.blk.Nodup :=
  h.nd.sublist (List.sublist_flatten_of_mem (List.mem_map.2 ⟨x, List.mem_of_getElem? hx, rfl⟩))
set_option maxRecDepth 100000 in
theorem c_put (h : TrAt N w t r mb hb F fl bs L Q) {i o n c : Nat} {x : InD} {q : Option Addr} {xs : List UInt8} (hx : L[i]? = some x) (hq : Rd 1 w q n (bv xs)) (hc : n ≤ c) (hsep : ∀ a, q = some a → ¬ RS r mb hb a.block) (hn : o + n ≤ x.blk.length * 4096) (hbig : x.blk.length ≤ 1000000) :
    Calls Tryd.prog 83 #[rp t, .pointer (some (ip t i)), .int .i64 ((o : Nat) : Int), .slice q n c] w
      (Ret fun v w' => v = .tuple #[] ∧ ∃ bs', TrAt N w' t r mb hb F fl bs' (L.set i { x with size := max x.size (o + n) }) Q ∧ cont bs' x.blk = ovl (cont bs x.blk) o xs ∧ (∀ B : List Nat, (∀ f ∈ B, f ∉ x.blk) → cont bs' B = cont bs B) ∧ TrG t r mb hb Q Q w w') := by
  obtain ⟨s, hs⟩ := h.getQ hx
  have hF := h.ram.F2
  have lx : xs.length = n := by have := hq.len; rw [bv_length, Nat.mul_one] at this; exact this
  have hC := cont_len (bs := bs) (h.fits hx)
  refine W83_ok _ _ _ _ _ _ w _ ⟨fun t' w' => ∃ (k : Nat) (qk : Option Addr) (ck : Nat) (bk : List UInt8), t' = (((o + k : Nat) : Int), (qk, n - k, ck), ()) ∧ k ≤ n ∧ n - k ≤ ck ∧ Rd 1 w' qk (n - k) (bv (xs.drop k)) ∧ (∀ a, qk = some a → ¬ RS r mb hb a.block) ∧ TrAt N w' t r mb hb F fl bk L Q ∧ cont bk x.blk = ovl (cont bs x.blk) o (xs.take k) ∧ (∀ B : List Nat, (∀ f ∈ B, f ∉ x.blk) → cont bk B = cont bs B) ∧ Kp (RS r mb hb) w.heap.size w w', fun t' _ => t'.2.1.2.1,
    ⟨(((o : Nat) : Int), (q, n, c), ()), rfl, 0, q, c, bs, rfl, Nat.zero_le _, hc, hq, hsep, h, by rw [List.take_zero, ovl_nil], fun _ _ => rfl, Kp.refl _ _ _⟩, ?_⟩
  rintro _ _ w1 ⟨k, qk, ck, bk, rfl, hk, hck, hqk, hsk, h1, hck1, hck2, kp1⟩
  have z1 := kp1.size
  refine c_dec (fun hgt => ?_) (fun hle => ?_)
  · have hgt : k < n := by
      have : ((n - k : Nat) : Int) > 0 := hgt
      omega
    have h1d := h1.drew
    obtain ⟨f, hf⟩ : ∃ f, x.blk[(o + k) / 4096]? = some f := ⟨_, List.getElem?_eq_getElem (by omega)⟩
    have hfm := List.mem_of_getElem? hf
    obtain ⟨hf1, hf2, hf3⟩ := h1.held i x hx f hfm
    obtain ⟨m, hm⟩ : ∃ m, m = min (n - k) (4096 - (o + k) % 4096) := ⟨_, rfl⟩
    have e1 : (((o + k : Nat) : Int)).tmod 4096 = (((o + k) % 4096 : Nat) : Int) := by rw [Int.tmod_eq_emod_of_nonneg (by omega)]; omega
    have e2 : IntKind.i64.wrap ((((o + k : Nat) : Int)).tdiv 4096) = (((o + k) / 4096 : Nat) : Int) := by rw [Int.tdiv_eq_ediv_of_nonneg (by omega), wrap_in (by omega) (by omega)]; omega
    have e3 : (if IntKind.i64.wrap (4096 - (((o + k : Nat) : Int)).tmod 4096) < ((n - k : Nat) : Int) then IntKind.i64.wrap (4096 - (((o + k : Nat) : Int)).tmod 4096) else ((n - k : Nat) : Int)) = ((m : Nat) : Int) := by
      rw [e1, wrap_in (by omega) (by omega)]
      split <;> omega
    dsimp only
    rw [e1, e2]
    rw [e1] at e3
    rw [e3]
    refine ⟨by decide, fun w' => w' = w1.drew, rfl, _, fun w' e => (by rw [e]; exact h1d.mem), s.1, x.blk.length, s.2, fun w' e => (by rw [e]; exact h1d.cell (k := 6) hx hs (by decide) rfl), by decide, ?_⟩
    have hqq := (h1d.ow i x s hx hs).rd
    refine hqq.at1 (i := (o + k) / 4096) (by omega) fun a v ha hv hcl => ?_
    rw [fv_get, hf] at hv
    have hv : v = .int .u64 ((fa f : Nat) : Int) := by simpa using hv.symm
    subst hv
    refine ⟨_, fun w' e => (by rw [e, Int.toNat_natCast]; exact hcl), by decide, ⟨Int.natCast_nonneg m, by omega⟩, ?_⟩
    rw [pa_wrap (by omega) (by omega), Int.toNat_natCast, slB0, Nat.sub_zero]
    have hrd := (hqk.drew).take (i := m) (by omega)
    rw [bv_take] at hrd
    refine (c_rWrite h1d.ram hrd hf2 hf3 (o := (o + k) % 4096) (by omega) (by omega)).mono ?_
    rintro _ w2 ⟨_, rfl, rfl, hr2, kp2⟩
    have kp12 : Kp (RS r mb hb) w1.heap.size w1 w2 := kp_then kp_drew kp2
    have z2 := kp12.size
    have h2 := h1.ramTo hr2 kp12 fun j y hy g hg => (h1.held j y hy g hg).2.2
    have hlm : ((xs.drop k).take m).length = m := by rw [List.length_take, List.length_drop]; omega
    have hfit1 := h1.fits hx
    refine ⟨_, rfl, ⟨Int.natCast_nonneg m, by omega⟩, (((o + (k + m) : Nat) : Int), (slB qk m ck 1, n - (k + m), ck - m), ()), ?_, ⟨k + m, _, _, _, rfl, by omega, by omega, ?_, ?_, h2, ?_, fun B hB => ?_, kp_then (kp1) kp12⟩, ?_⟩
    · have e4 : IntKind.i64.wrap (((o + k : Nat) : Int) + ((m : Nat) : Int)) = ((o + (k + m) : Nat) : Int) := by rw [wrap_in (by omega) (by omega)]; omega
      rw [e4, show n - (k + m) = n - k - m by omega]; rfl
    · have hkeep : Rd 1 w2 qk (n - k) (bv (xs.drop k)) := hqk.keep fun a ha hne => kp12.block _ (hqk.lt ha hne) (hsk a ha)
      by_cases hall : m = n - k
      · have e0 : n - (k + m) = 0 := by omega
        have e9 : xs.drop (k + m) = [] := List.drop_of_length_le (by omega)
        rw [e0, e9]
        exact Rd.empty _ _ _
      · have hd := hkeep.drop (i := m) (c := ck) (by omega) hck
        rw [bv_drop, List.drop_drop] at hd
        rw [show n - (k + m) = n - k - m by omega]
        exact hd
    · intro a ha
      unfold slB at ha
      split at ha
      · exact hsk a ha
      · cases qk with
        | none => cases ha
        | some b =>
          cases ha
          rw [add_block]
          exact hsk b rfl
    · have hov := cont_ovl (bs := bk) (x := (xs.drop k).take m) (k := (o + k) / 4096) (f := f) (o := (o + k) % 4096) hfit1 (h1.nodup hx) hf (by omega)
      rw [hov, hck1]
      have hlk : (xs.take k).length = k := by rw [List.length_take]; omega
      have e8 : (o + k) / 4096 * 4096 + (o + k) % 4096 = o + (xs.take k).length := by omega
      rw [e8, ovl_next (by rw [hlk, hlm, hC]; omega)]
      congr 1
      rw [List.take_add]
    · rw [← hck2 B hB]
      exact cont_off (by have := hfit1 f hfm; omega) (by omega) fun hc => hB f hc hfm
    · show n - (k + m) < n - k
      omega
  · have hkn : k = n := by
      have : ¬ ((n - k : Nat) : Int) > 0 := hle
      omega
    subst hkn
    rw [List.take_of_length_le (by omega)] at hck1
    refine ⟨((x.size : Nat) : Int), h1.cell (k := 5) hx hs (by decide) rfl, nl (h1.setF (k := 5) (x' := { x with size := max x.size (o + k) }) hx (by decide) rfl (fun s => ?_) fun w2 h2 m2 s2 => ⟨rfl, bk, h2, hck1, hck2, (TrG.of_ram kp1).trans (TrG.of_mod m2)⟩)⟩
    dsimp only
    have e : (if ((o + k : Nat) : Int) > ((x.size : Nat) : Int) then ((o + k : Nat) : Int) else ((x.size : Nat) : Int)) = ((max x.size (o + k) : Nat) : Int) := by split <;> omega
    rw [e]; rfl
end
end Go.Proofs.YthkcdkldpbndnaaDoor
namespace Go.Proofs.YthkcdkldpbndnaaDoor
open Go.RowKit Go.Hx
/-- An entry's number and name. -/
def entD (d : List UInt8) : Int × List UInt8 := (inoOf d, ahead (d.drop 2) 0)
def entC (d : List UInt8) : Array Value := dirC (entD d).1 (entD d).2
/-- How many entries a range over an inode meets. -/
def nEnt (x : InD) : Nat := if x.typ = 1 then x.size / 16 else 0
section
variable {N : Nat} {w : World} {t r mb hb F : Nat} {fl : List Nat} {bs : List UInt8} {L : List InD} {Q : List SH}
set_option maxRecDepth 100000 in
/-- The iterator: yield is called for each entry, until it says no. -/
theorem c_iter {i : Nat} {x : InD} {y : Value} {a1 a2 : Nat} {J : Nat → World → Prop} {Z : World → Prop} (hx : L[i]? = some x) (h16 : x.typ = 1 → x.size % 16 = 0) (hsz : x.size ≤ x.blk.length * 4096) (hbig : x.blk.length ≤ 1000000)
    (hJ : ∀ k W, J k W → TrAt N W t r mb hb F fl bs L Q ∧ W.cell? ⟨a1, 0, none⟩ = some (.pointer (some ⟨t, 0, none⟩)) ∧ W.cell? ⟨a2, 0, none⟩ = some (.pointer (some (ip t i))))
    (hJb : ∀ k W W', J k W → Below W.heap.size W W' → J k W')
    (hy : ∀ k W, k < nEnt x → J k W → calV Tryd.prog y [.int .i64 ((k * 16 : Nat) : Int), .agg (entC (win (cont bs x.blk) (k * 16) 16))] W fun e W' => (e = .returned (.bool true) ∧ J (k + 1) W') ∨ (e = .returned (.bool false) ∧ Z W'))
    (h0 : J 0 w) : Calls Tryd.prog 137 #[y, .pointer (some ⟨a2, 0, none⟩), .pointer (some ⟨a1, 0, none⟩)] w (Ret fun v w' => v = .tuple #[] ∧ (J (nEnt x) w' ∨ Z w')) := by
  obtain ⟨h, hc1, hc2⟩ := hJ 0 w h0
  refine W137_ok _ _ _ w _ ⟨_, hc2, x.typ, h.cell0 hx, c_ne (fun hne => ⟨rfl, .inl ?_⟩) (fun he => ?_)⟩
  · unfold nEnt
    rw [if_neg hne]; exact h0
  · have hn : nEnt x = x.size / 16 := by unfold nEnt; rw [if_pos he]
    have h16 := h16 he
    refine ⟨fun t' w' => ∃ k : Nat, t' = (((k * 16 : Nat) : Int), ()) ∧ k ≤ nEnt x ∧ J k w', fun t' _ => x.size - t'.1.toNat, ⟨(((0 : Nat) : Int), ()), rfl, 0, rfl, Nat.zero_le _, h0⟩, ?_⟩
    rintro _ _ w1 ⟨k, rfl, hk, j1⟩
    obtain ⟨h1, hd1, hd2⟩ := hJ k w1 j1
    obtain ⟨s, hs⟩ := h.getQ hx
    refine ⟨_, hd2, _, h1.cell (k := 5) hx hs (by decide) rfl, c_dec (fun hlt => ?_) (fun hge => ?_)⟩
    · have hlt : k * 16 < x.size := by
        have : ((k * 16 : Nat) : Int) < ((x.size : Nat) : Int) := hlt
        omega
      refine ⟨_, hd1, _, hd2, (c_get h1 (o := k * 16) (n := 16) hx (by omega) hbig).mono ?_⟩
      rintro _ w2 ⟨_, rfl, q, c, rfl, o2, b2⟩
      have hl16 : (win (cont bs x.blk) (k * 16) 16).length = 16 := by
        have := o2.len
        rw [bv_length] at this; omega
      refine ⟨_, _, _, rfl, (c_Unpack o2.rd o2.le).mono ?_⟩
      rintro _ w3 ⟨_, rfl, u3⟩
      obtain ⟨hu, b3⟩ := u3
      rw [if_pos hl16] at hu
      subst hu
      refine ⟨_, _, rfl, newW_intro fun a16 w4 k4 l4 b4 => stW_intro k4 fun w5 k5 m5 s5 => ⟨_, rfl, row_whole k5, ?_⟩⟩
      have z2 := b2.size
      have z3 := b3.size
      have z4 := b4.size
      have b5 : Below w1.heap.size w1 w5 := ((b2.trans (b3.mono z2)).trans (b4.mono (by omega))).trans (m5.below (by omega) (by omega))
      have hyk := hy k w5 (by omega) (hJb k w1 w5 j1 b5)
      refine calV_mono ?_ hyk
      rintro e w6 (⟨rfl, j6⟩ | ⟨rfl, z6⟩)
      · refine ⟨true, rfl, ?_⟩
        have e1 : IntKind.i64.wrap (((k * 16 : Nat) : Int) + 16) = (((k + 1) * 16 : Nat) : Int) := by rw [wrap_in (by omega) (by omega)]; omega
        refine ⟨((((k + 1) * 16 : Nat) : Int), ()), by (try dsimp only); rw [e1]; rfl, ⟨k + 1, rfl, by omega, j6⟩, ?_⟩
        show x.size - ((((k + 1) * 16 : Nat) : Int)).toNat < x.size - (((k * 16 : Nat) : Int)).toNat
        omega
      · exact ⟨false, rfl, rfl, .inr z6⟩
    · have hge : ¬ k * 16 < x.size := by
        have : ¬ ((k * 16 : Nat) : Int) < ((x.size : Nat) : Int) := hge
        omega
      have hkn : k = nEnt x := by omega
      subst hkn
      exact ⟨rfl, .inl j1⟩
end
end Go.Proofs.YthkcdkldpbndnaaDoor
namespace Go.Proofs.YthkcdkldpbndnaaDoor
open Go.RowKit Go.Hx
theorem mod_putObj (w : World) (b : Nat) (o : Obj) : Mod b w (w.putObj b o) := ⟨rfl, rfl, rfl, by simp, fun k _ hk => World.putObj_heap_other hk⟩
section
variable {N : Nat} {w : World} {t r mb hb F : Nat} {fl : List Nat} {bs : List UInt8} {L : List InD} {Q : List SH}
theorem plain_iter : plainFn Tryd.prog 137 = true := by kernel_rfl
/-- The rule: J k: k entries were met, and the range goes on; Z: it was left by a return. D, D + 1: what the range lays for itself. -/
theorem rg_entries {n1 n2 a1 a2 i : Nat} {x : InD} {J : Nat → World → Prop} {Z : World → Prop} {body : Tup [(n1, .int .i64), (n2, .agg)] → World → (World → (World → Prop) → Prop) → (World → Prop) → (World → Prop) → (Nat → World → Prop) → Prop} {Qn Qr : Nat → World → Prop} {Qx : Nat → Nat → World → Prop}
    (hx : L[i]? = some x) (h16 : x.typ = 1 → x.size % 16 = 0) (hsz : x.size ≤ x.blk.length * 4096) (hbig : x.blk.length ≤ 1000000)
    (hJ : ∀ k W, J k W → TrAt N W t r mb hb F fl bs L Q ∧ W.cell? ⟨a1, 0, none⟩ = some (.pointer (some ⟨t, 0, none⟩)) ∧ W.cell? ⟨a2, 0, none⟩ = some (.pointer (some (ip t i))) ∧ w.heap.size + 2 ≤ W.heap.size)
    (hJb : ∀ k W W', J k W → Below W.heap.size W W' → J k W')
    (hJp : ∀ k W o, J k W → J k (W.putObj (w.heap.size + 1) o)) (hZp : ∀ W o, Z W → Z (W.putObj (w.heap.size + 1) o)) (hZs : ∀ W, Z W → w.heap.size + 2 ≤ W.heap.size)
    (h0 : ∀ o, J 0 ((w.alloc (.deferred (some []))).alloc o))
    (hbody : ∀ (k : Nat) (W : World) (bg : World → (World → Prop) → Prop) (kn kr : World → Prop) (kx : Nat → World → Prop) (B : World → Prop), k < nEnt x → J k W →
      (∀ W W', B W → W'.heap[w.heap.size + 1]? = W.heap[w.heap.size + 1]? → B W') →
      (∀ W' K, Below W.heap.size W W' → (∀ W'', J k W'' → Mod (w.heap.size + 1) W' W'' → W''.heap.size = W'.heap.size → B W'' → K W'') → bg W' K) →
      (∀ W', J (k + 1) W' → B W' → kn W') → (∀ W', Z W' → B W' → kr W') →
      body (((k * 16 : Nat) : Int), entC (win (cont bs x.blk) (k * 16) 16), ()) W bg kn kr kx)
    (hn : ∀ W, J (nEnt x) W → Qn w.heap.size W) (hr : ∀ W, Z W → Qr w.heap.size W) :
    rgW Tryd.prog [(n1, .int .i64), (n2, .agg)] (.func (.func 137) #[] #[.pointer (some ⟨a2, 0, none⟩), .pointer (some ⟨a1, 0, none⟩)]) w body Qn Qr Qx := by
  unfold rgW
  dsimp only
  rw [plain_iter]
  intro rr hY
  have e : (#[].toList ++ [Value.func (.yield (w.heap.size + 1)) #[] #[]] ++ (#[Value.pointer (some ⟨a2, 0, none⟩), .pointer (some ⟨a1, 0, none⟩)] : Array Value).toList).toArray = #[Value.func (.yield (w.heap.size + 1)) #[] #[], .pointer (some ⟨a2, 0, none⟩), .pointer (some ⟨a1, 0, none⟩)] := rfl
  rw [e]
  have ready0 : ((w.alloc (.deferred (some []))).alloc (.loop (rr .ready none))).heap[w.heap.size + 1]? = some (.loop (rr .ready none)) := by
    have := heap_alloc_new (w.alloc (.deferred (some []))) (.loop (rr .ready none))
    have e2 : (w.alloc (.deferred (some []))).heap.size = w.heap.size + 1 := by simp
    rw [e2] at this
    exact this
  have main := c_iter (N := N) (t := t) (r := r) (mb := mb) (hb := hb) (F := F) (fl := fl) (bs := bs) (L := L) (Q := Q) (i := i) (x := x) (a1 := a1) (a2 := a2) (y := .func (.yield (w.heap.size + 1)) #[] #[])
    (J := fun k W => J k W ∧ W.heap[w.heap.size + 1]? = some (.loop (rr .ready none))) (Z := fun W => Z W ∧ W.heap[w.heap.size + 1]? = some (.loop (rr .done (some .ret))))
    (w := (w.alloc (.deferred (some []))).alloc (.loop (rr .ready none))) hx h16 hsz hbig (fun k W h => ⟨(hJ k W h.1).1, (hJ k W h.1).2.1, (hJ k W h.1).2.2.1⟩)
    (fun k W W' h b => ⟨hJb k W W' h.1 b, (b.block _ (by have := (hJ k W h.1).2.2.2; omega)).trans h.2⟩) ?_ ⟨h0 _, ready0⟩
  · refine main.mono ?_
    rintro e1 W ⟨v, rfl, rfl, h⟩
    refine ⟨_, rfl, ?_⟩
    rcases h with ⟨h1, h2⟩ | ⟨h1, h2⟩
    · exact .inl ⟨h2, hn _ (hJp _ _ _ h1)⟩
    · exact .inr (.inl ⟨h2, hr _ (hZp _ _ h1)⟩)
  · intro k W hk hj
    show YldAt _ _ _ _ _
    refine hY (((k * 16 : Nat) : Int), entC (win (cont bs x.blk) (k * 16) 16), ()) W _ hj.2 (hbody k W _ _ _ _ (fun W => W.heap[w.heap.size + 1]? = some (.loop (rr .busy none))) hk hj.1 (fun W W' h e => e.trans h) (fun W' K b hK => ?_) (fun W' h1 h2 => ⟨h2, .inl ⟨rfl, hJp _ _ _ h1, ?_⟩⟩) (fun W' h1 h2 => ⟨h2, .inr ⟨rfl, hZp _ _ h1, ?_⟩⟩))
    · have hsz := (hJ k W hj.1).2.2.2
      have hz := b.size
      refine ⟨(b.block _ (by omega)).trans hj.2, hK _ (hJp _ _ _ (hJb _ _ _ hj.1 b)) (mod_putObj _ _ _) (by simp) (World.putObj_heap_same (by omega))⟩
    · exact World.putObj_heap_same (by have := (hJ _ _ h1).2.2.2; omega)
    · exact World.putObj_heap_same (by have := hZs _ h1; omega)
end
end Go.Proofs.YthkcdkldpbndnaaDoor
namespace Go.Proofs.YthkcdkldpbndnaaDoor
open Go.RowKit Go.Hx
/-- The first below n. -/
def firstK (p : Nat → Bool) : Nat → Option Nat
  | 0 => none
  | n + 1 => match firstK p n with
    | some k => some k
    | none => if p n then some n else none
theorem firstK_none {p : Nat → Bool} : ∀ {n : Nat}, (∀ k, k < n → p k = false) → firstK p n = none
  | 0, _ => rfl
  | n + 1, h => by
    unfold firstK
    rw [firstK_none fun k hk => h k (by omega), h n (by omega)]
    rfl
theorem firstK_some {p : Nat → Bool} {k : Nat} (hp : p k = true) (hb : ∀ j, j < k → p j = false) : ∀ {n : Nat}, k < n → firstK p n = some k
  | 0, h => by omega
  | n + 1, h => by
    unfold firstK
    by_cases hk : k < n
    · rw [firstK_some hp hb hk]
    · have : k = n := by omega
      subst this
      rw [firstK_none hb, hp]
      rfl
def isE (C : List UInt8) (s : List UInt8) (k : Nat) : Bool := decide ((entD (win C (k * 16) 16)).1 ≠ 0 ∧ (entD (win C (k * 16) 16)).2 = s)
def lookV (C : List UInt8) (s : List UInt8) (n : Nat) : Value := match firstK (isE C s) n with
  | some k => .tuple #[.int .i64 (entD (win C (k * 16) 16)).1, .int .i64 ((k * 16 : Nat) : Int), .bool true]
  | none => .tuple #[.int .i64 0, .int .i64 0, .bool false]
section
variable {N : Nat} {w : World} {t r mb hb F : Nat} {fl : List Nat} {bs : List UInt8} {L : List InD} {Q : List SH}
/-- entries: the iterator, with its two cells. -/
theorem c_entries (p q : Option Addr) {K : Value → World → Prop} (hK : ∀ b1 b2 w', Blk w' b1 #[.pointer p] 40 → Blk w' b2 #[.pointer q] 165 → w.heap.size ≤ b1 → b1 < b2 → Below w.heap.size w w' → K (.func (.func 137) #[] #[.pointer (some ⟨b2, 0, none⟩), .pointer (some ⟨b1, 0, none⟩)]) w') :
    Calls Tryd.prog 111 #[.pointer p, .pointer q] w (Ret K) :=
  W111_ok _ _ w _ (newW_intro fun b1 w1 k1 l1 h1 => newW_intro fun b2 w2 k2 l2 h2 => hK b1 b2 w2 (below_blk h2 k1.lt k1) k2 l1 (by have := k1.lt; omega) (h1.trans (h2.mono h1.size)))
/-- A block stays where another object turns. -/
theorem blk_put {W : World} {b D : Nat} {cs : Array Value} {ty : TypeId} {o : Obj} (h : Blk W b cs ty) (hne : b ≠ D) : Blk (W.putObj D o) b cs ty := (mod_putObj W D o).blk hne h
theorem below_put {B : Nat} {W W' : World} {D : Nat} {o : Obj} (h : Below B W W') (hB : B ≤ W.heap.size) (hD : B ≤ D) : Below B W (W'.putObj D o) := h.trans ((mod_putObj W' D o).below (Nat.le_trans hB h.size) hD)
set_option maxRecDepth 100000 in
theorem c_look (h : TrAt N w t r mb hb F fl bs L Q) {i : Nat} {x : InD} (hx : L[i]? = some x) (h16 : x.typ = 1 → x.size % 16 = 0) (hsz : x.size ≤ x.blk.length * 4096) (hbig : x.blk.length ≤ 1000000) (s : List UInt8) :
    Calls Tryd.prog 76 #[rp t, .pointer (some (ip t i)), .string (str s)] w (Ret fun v w' => v = lookV (cont bs x.blk) s (nEnt x) ∧ Below w.heap.size w w') := by
  refine W76_ok _ _ _ w _ (newW_intro fun a1 w1 k1 l1 b1 => newW_intro fun a2 w2 k2 l2 b2 => newW_intro fun a3 w3 k3 l3 b3 => newW_intro fun a4 w4 k4 l4 b4 => c_entries _ _ fun c1 c2 w5 kc1 kc2 lc1 lc2 b5 => ?_)
  have z1 := b1.size
  have z2 := b2.size
  have z3 := b3.size
  have z4 := b4.size
  have z5 := b5.size
  have y1 := k1.lt
  have y2 := k2.lt
  have y3 := k3.lt
  have y4 := k4.lt
  have yc2 := kc2.lt
  have b05 : Below w.heap.size w w5 := (((b1.trans (b2.mono z1)).trans (b3.mono (by omega))).trans (b4.mono (by omega))).trans (b5.mono (by omega))
  have k15 : Blk w5 a1 _ _ := below_blk b5 (by omega) (below_blk b4 (by omega) (below_blk b3 (by omega) (below_blk b2 y1 k1)))
  have k25 : Blk w5 a2 _ _ := below_blk b5 (by omega) (below_blk b4 (by omega) (below_blk b3 y2 k2))
  have k35 : Blk w5 a3 _ _ := below_blk b5 (by omega) (below_blk b4 y3 k3)
  have k45 : Blk w5 a4 _ _ := below_blk b5 y4 k4
  let D := w5.heap.size
  refine rg_entries (N := N) (t := t) (r := r) (mb := mb) (hb := hb) (F := F) (fl := fl) (bs := bs) (L := L) (Q := Q) (i := i) (x := x)
    (J := fun k W => Below w.heap.size w W ∧ (∀ j, j < k → isE (cont bs x.blk) s j = false) ∧ Blk W a1 #[.string (str s)] 9 ∧ Blk W a2 #[.int .i64 0] 3 ∧ Blk W a3 #[.int .i64 0] 3 ∧ Blk W a4 #[.bool false] 4 ∧ Blk W c1 #[.pointer (some ⟨t, 0, none⟩)] 40 ∧ Blk W c2 #[.pointer (some (ip t i))] 165 ∧ W.heap[w5.heap.size]? = some (.deferred (some [])) ∧ w5.heap.size + 2 ≤ W.heap.size)
    (Z := fun W => Below w.heap.size w W ∧ (∃ k, k < nEnt x ∧ isE (cont bs x.blk) s k = true ∧ (∀ j, j < k → isE (cont bs x.blk) s j = false) ∧ Blk W a2 #[.int .i64 (entD (win (cont bs x.blk) (k * 16) 16)).1] 3 ∧ Blk W a3 #[.int .i64 ((k * 16 : Nat) : Int)] 3 ∧ Blk W a4 #[.bool true] 4) ∧ W.heap[w5.heap.size]? = some (.deferred (some [])) ∧ w5.heap.size + 2 ≤ W.heap.size)
    hx h16 hsz hbig ?_ ?_ ?_ ?_ ?_ ?_ ?_ ?_ ?_
  · rintro k W ⟨b, _, _, _, _, _, h1, h2, _, h3⟩
    exact ⟨h.below b, h1.cell rfl, h2.cell rfl, h3⟩
  · rintro k W W' ⟨b, hno, h1, h2, h3, h4, h5, h6, h7, h8⟩ b'
    exact ⟨b.trans (b'.mono b.size), hno, below_blk b' h1.lt h1, below_blk b' h2.lt h2, below_blk b' h3.lt h3, below_blk b' h4.lt h4, below_blk b' h5.lt h5, below_blk b' h6.lt h6, (b'.block _ (by omega)).trans h7, by have := b'.size; omega⟩
  · rintro k W o ⟨b, hno, h1, h2, h3, h4, h5, h6, h7, h8⟩
    exact ⟨below_put b (Nat.le_refl _) (by omega), hno, blk_put h1 (by omega), blk_put h2 (by omega), blk_put h3 (by omega), blk_put h4 (by omega), blk_put h5 (by omega), blk_put h6 (by omega), (World.putObj_heap_other (by omega)).trans h7, by simpa using h8⟩
  · rintro W o ⟨b, ⟨k, hk, h1, h2, h3, h4, h5⟩, h7, h8⟩
    exact ⟨below_put b (Nat.le_refl _) (by omega), ⟨k, hk, h1, h2, blk_put h3 (by omega), blk_put h4 (by omega), blk_put h5 (by omega)⟩, (World.putObj_heap_other (by omega)).trans h7, by simpa using h8⟩
  · rintro W ⟨_, _, _, h8⟩
    exact h8
  · intro o
    have e2 : (w5.alloc (.deferred (some []))).heap.size = w5.heap.size + 1 := by simp
    have e3 : ((w5.alloc (.deferred (some []))).alloc o).heap.size = w5.heap.size + 2 := by simp
    have ba := below_new w5 (.deferred (some []))
    have bb := below_new (w5.alloc (.deferred (some []))) o
    have bab := ba.trans (bb.mono (by omega : w5.heap.size ≤ _))
    refine ⟨b05.trans (bab.mono b05.size), fun j hj => by omega, below_blk bab k15.lt k15, below_blk bab k25.lt k25, below_blk bab k35.lt k35, below_blk bab k45.lt k45, below_blk bab kc1.lt kc1, below_blk bab kc2.lt kc2, ?_, by omega⟩
    exact (bb.block _ (by omega)).trans (heap_alloc_new w5 _)
  · rintro k W bg kn kr kx B hk ⟨b, hno, h1, h2, h3, h4, h5, h6, h7, h8⟩ hBs hbg hkn hkr
    refine newW_intro fun a7 w7 k7 l7 b7 => stW_intro k7 fun w8 k8 m8 s8 => hbg _ _ (b7.trans (m8.below b7.size l7)) fun w9 hj9 m9 s9 hb9 => ?_
    obtain ⟨c, _, g1, g2, g3, g4, g5, g6, g7, g8⟩ := hj9
    have hk8 := k8.lt
    have k9 := m9.blk (by omega : a7 ≠ w5.heap.size + 1) k8
    refine ⟨fun t' w' => t' = (isE (cont bs x.blk) s k, ()) ∧ w9 = w', ?_, ?_⟩
    · rintro _ _ _ ⟨rfl, rfl⟩
      refine c_b (fun hyes => ?_) (fun hno' => hkn _ ⟨c, fun j hj => ?_, g1, g2, g3, g4, g5, g6, g7, g8⟩ hb9)
      · refine ⟨_, k9.cell rfl, stC_intro g2 (show 0 < 1 by decide) fun u1 q1 n1 t1 => stC_intro (n1.blk (by omega : a3 ≠ a2) g3) (show 0 < 1 by decide) fun u2 q2 n2 t2 => stC_intro (n2.blk (by omega : a4 ≠ a3) (n1.blk (by omega : a4 ≠ a2) g4)) (show 0 < 1 by decide) fun u3 q3 n3 t3 => ?_⟩
        have q13 := n3.blk (by omega : a2 ≠ a4) (n2.blk (by omega : a2 ≠ a3) q1)
        have q23 := n3.blk (by omega : a3 ≠ a4) q2
        have keepD : ∀ d, w5.heap.size ≤ d → d < w9.heap.size → u3.heap[d]? = w9.heap[d]? := fun d hd hl => by
          rw [n3.block d (by omega) (by omega), n2.block d (by omega) (by omega), n1.block d (by omega) (by omega)]
        refine hkr u3 ⟨((c.trans (n1.below c.size (by omega))).trans (n2.below (by have := c.size; omega) (by omega))).trans (n3.below (by have := c.size; omega) (by omega)), ⟨k, hk, hyes, hno, q13, q23, q3⟩, (keepD _ (Nat.le_refl _) (by omega)).trans g7, by omega⟩ (hBs _ _ hb9 (keepD _ (by omega) (by omega)))
      · rcases Nat.lt_or_ge j k with h' | h'
        · exact hno j h'
        · have : j = k := by omega
          subst this; exact hno'
    · refine ⟨_, k9.cell rfl, c_ne (fun hne => ⟨_, k9.at rfl, _, g1.cell rfl, (isE (cont bs x.blk) s k, ()), ?_, rfl, rfl⟩) (fun he => ⟨(false, ()), rfl, ?_, rfl⟩)⟩
      · rw [strEq_str]
        congr 2
        unfold isE
        rw [decide_eq_decide]
        exact ⟨fun e => ⟨hne, e⟩, fun e => e.2⟩
      · congr 1
        unfold isE
        rw [decide_eq_false]
        exact fun e => e.1 he
  · rintro W ⟨b, hno, h1, h2, h3, h4, h5, h6, h7, h8⟩
    refine stC_intro h2 (show 0 < 1 by decide) fun u1 q1 n1 t1 => stC_intro (n1.blk (by omega : a3 ≠ a2) h3) (show 0 < 1 by decide) fun u2 q2 n2 t2 => stC_intro (n2.blk (by omega : a4 ≠ a3) (n1.blk (by omega : a4 ≠ a2) h4)) (show 0 < 1 by decide) fun u3 q3 n3 t3 => ?_
    have q13 := n3.blk (by omega : a2 ≠ a4) (n2.blk (by omega : a2 ≠ a3) q1)
    have q23 := n3.blk (by omega : a3 ≠ a4) q2
    refine ⟨by rw [n3.block _ (by omega) (by omega), n2.block _ (by omega) (by omega), n1.block _ (by omega) (by omega)]; exact h7, _, (blk_put q13 (by omega)).cell rfl, _, (blk_put q23 (by omega)).cell rfl, _, (blk_put q3 (by omega)).cell rfl, ?_, ?_⟩
    · unfold lookV
      rw [firstK_none hno]
    · have bz := b.size
      exact below_put (((b.trans (n1.below bz (by omega))).trans (n2.below (by omega) (by omega))).trans (n3.below (by omega) (by omega))) (Nat.le_refl _) (by omega)
  · rintro W ⟨b, ⟨k, hk, h1, h2, h3, h4, h5⟩, h7, h8⟩
    refine ⟨h7, _, (blk_put h3 (by omega)).cell rfl, _, (blk_put h4 (by omega)).cell rfl, _, (blk_put h5 (by omega)).cell rfl, ?_, below_put b (Nat.le_refl _) (by omega)⟩
    unfold lookV
    rw [firstK_some h1 h2 hk]
end
end Go.Proofs.YthkcdkldpbndnaaDoor
namespace Go.Proofs.YthkcdkldpbndnaaDoor
open Go.RowKit Go.Hx
def hole (C : List UInt8) (k : Nat) : Bool := decide ((entD (win C (k * 16) 16)).1 = 0)
/-- Where a new entry goes. -/
def placeD (C : List UInt8) (x : InD) : Nat := match firstK (hole C) (nEnt x) with
  | some k => k * 16
  | none => x.size
section
variable {N : Nat} {w : World} {t r mb hb F : Nat} {fl : List Nat} {bs : List UInt8} {L : List InD} {Q : List SH}
set_option maxRecDepth 100000 in
theorem c_place (h : TrAt N w t r mb hb F fl bs L Q) {i : Nat} {x : InD} (hx : L[i]? = some x) (h16 : x.typ = 1 → x.size % 16 = 0) (hsz : x.size ≤ x.blk.length * 4096) (hbig : x.blk.length ≤ 1000000) :
    Calls Tryd.prog 120 #[rp t, .pointer (some (ip t i))] w (Ret fun v w' => v = .int .i64 ((placeD (cont bs x.blk) x : Nat) : Int) ∧ Below w.heap.size w w') := by
  refine W120_ok _ _ w _ (newW_intro fun a1 w1 k1 l1 b1 => c_entries _ _ fun c1 c2 w5 kc1 kc2 lc1 lc2 b5 => ?_)
  have z1 := b1.size
  have z5 := b5.size
  have y1 := k1.lt
  have yc2 := kc2.lt
  have b05 : Below w.heap.size w w5 := b1.trans (b5.mono z1)
  have k15 : Blk w5 a1 _ _ := below_blk b5 y1 k1
  refine rg_entries (N := N) (t := t) (r := r) (mb := mb) (hb := hb) (F := F) (fl := fl) (bs := bs) (L := L) (Q := Q) (i := i) (x := x)
    (J := fun k W => Below w.heap.size w W ∧ (∀ j, j < k → hole (cont bs x.blk) j = false) ∧ Blk W a1 #[.int .i64 0] 3 ∧ Blk W c1 #[.pointer (some ⟨t, 0, none⟩)] 40 ∧ Blk W c2 #[.pointer (some (ip t i))] 165 ∧ W.heap[w5.heap.size]? = some (.deferred (some [])) ∧ w5.heap.size + 2 ≤ W.heap.size)
    (Z := fun W => Below w.heap.size w W ∧ (∃ k, k < nEnt x ∧ hole (cont bs x.blk) k = true ∧ (∀ j, j < k → hole (cont bs x.blk) j = false) ∧ Blk W a1 #[.int .i64 ((k * 16 : Nat) : Int)] 3) ∧ W.heap[w5.heap.size]? = some (.deferred (some [])) ∧ w5.heap.size + 2 ≤ W.heap.size)
    hx h16 hsz hbig ?_ ?_ ?_ ?_ ?_ ?_ ?_ ?_ ?_
  · rintro k W ⟨b, _, _, h1, h2, _, h3⟩
    exact ⟨h.below b, h1.cell rfl, h2.cell rfl, h3⟩
  · rintro k W W' ⟨b, hno, h1, h5, h6, h7, h8⟩ b'
    exact ⟨b.trans (b'.mono b.size), hno, below_blk b' h1.lt h1, below_blk b' h5.lt h5, below_blk b' h6.lt h6, (b'.block _ (by omega)).trans h7, by have := b'.size; omega⟩
  · rintro k W o ⟨b, hno, h1, h5, h6, h7, h8⟩
    exact ⟨below_put b (Nat.le_refl _) (by omega), hno, blk_put h1 (by omega), blk_put h5 (by omega), blk_put h6 (by omega), (World.putObj_heap_other (by omega)).trans h7, by simpa using h8⟩
  · rintro W o ⟨b, ⟨k, hk, h1, h2, h3⟩, h7, h8⟩
    exact ⟨below_put b (Nat.le_refl _) (by omega), ⟨k, hk, h1, h2, blk_put h3 (by omega)⟩, (World.putObj_heap_other (by omega)).trans h7, by simpa using h8⟩
  · rintro W ⟨_, _, _, h8⟩
    exact h8
  · intro o
    have e2 : (w5.alloc (.deferred (some []))).heap.size = w5.heap.size + 1 := by simp
    have e3 : ((w5.alloc (.deferred (some []))).alloc o).heap.size = w5.heap.size + 2 := by simp
    have ba := below_new w5 (.deferred (some []))
    have bb := below_new (w5.alloc (.deferred (some []))) o
    have bab := ba.trans (bb.mono (by omega : w5.heap.size ≤ _))
    refine ⟨b05.trans (bab.mono b05.size), fun j hj => by omega, below_blk bab k15.lt k15, below_blk bab kc1.lt kc1, below_blk bab kc2.lt kc2, ?_, by omega⟩
    exact (bb.block _ (by omega)).trans (heap_alloc_new w5 _)
  · rintro k W bg kn kr kx B hk ⟨b, hno, h1, h5, h6, h7, h8⟩ hBs hbg hkn hkr
    refine newW_intro fun a7 w7 k7 l7 b7 => stW_intro k7 fun w8 k8 m8 s8 => hbg _ _ (b7.trans (m8.below b7.size l7)) fun w9 hj9 m9 s9 hb9 => ?_
    obtain ⟨c, _, g1, g5, g6, g7, g8⟩ := hj9
    have hk8 := k8.lt
    have k9 := m9.blk (by omega : a7 ≠ w5.heap.size + 1) k8
    refine ⟨_, k9.cell rfl, c_eq (fun hz => ?_) (fun hnz => hkn _ ⟨c, fun j hj => ?_, g1, g5, g6, g7, g8⟩ hb9)⟩
    · have hyes : hole (cont bs x.blk) k = true := by
        unfold hole
        rw [decide_eq_true]; exact hz
      refine stC_intro g1 (show 0 < 1 by decide) fun u1 q1 n1 t1 => ?_
      exact hkr u1 ⟨c.trans (n1.below c.size (by omega)), ⟨k, hk, hyes, hno, q1⟩, (n1.block _ (by omega) (by omega)).trans g7, by omega⟩ (hBs _ _ hb9 (n1.block _ (by omega) (by omega)))
    · rcases Nat.lt_or_ge j k with h' | h'
      · exact hno j h'
      · have : j = k := by omega
        subst this
        unfold hole
        rw [decide_eq_false]; exact hnz
  · rintro W ⟨b, hno, h1, h5, h6, h7, h8⟩
    have hW := h.below b
    obtain ⟨s, hs⟩ := h.getQ hx
    refine ⟨_, hW.cell (k := 5) hx hs (by decide) rfl, stC_intro h1 (show 0 < 1 by decide) fun u1 q1 n1 t1 => ⟨(n1.block _ (by omega) (by omega)).trans h7, _, (blk_put q1 (by omega)).cell rfl, ?_, ?_⟩⟩
    · unfold placeD
      rw [firstK_none hno]
    · exact below_put (b.trans (n1.below b.size (by omega))) (Nat.le_refl _) (by omega)
  · rintro W ⟨b, ⟨k, hk, h1, h2, h3⟩, h7, h8⟩
    refine ⟨h7, _, (blk_put h3 (by omega)).cell rfl, ?_, below_put b (Nat.le_refl _) (by omega)⟩
    unfold placeD
    rw [firstK_some h1 h2 hk]
end
end Go.Proofs.YthkcdkldpbndnaaDoor
namespace Go.Proofs.YthkcdkldpbndnaaDoor
open Go.RowKit Go.Hx
/-- What holds of every tree's table: sizes, and entries that lead to inodes. -/
structure WfL (bs : List UInt8) (L : List InD) : Prop where
  ok : ∀ (i : Nat) (x : InD), L[i]? = some x → (x.typ = 1 → x.size % 16 = 0) ∧ x.size ≤ x.blk.length * 4096 ∧ x.blk.length ≤ 64
  rng : ∀ (i : Nat) (x : InD), L[i]? = some x → (0 ≤ x.refs ∧ x.refs ≤ 2147483647) ∧ 0 ≤ x.links ∧ x.links ≤ 32767
  ent : ∀ (i : Nat) (x : InD) (k : Nat), L[i]? = some x → k < nEnt x → (entD (win (cont bs x.blk) (k * 16) 16)).1 < 200
theorem inoOf_nonneg (d : List UInt8) : 0 ≤ inoOf d := by unfold inoOf; omega
/-- The lowest inode from k on that is not there; 0: none. -/
def freeD (L : List InD) : Nat → Nat → Nat
  | 0, _ => 0
  | n + 1, k => if thereD L ((k : Nat) : Int) then freeD L n (k + 1) else k
/-- How many frames an entry more takes. -/
def wantD (C : List UInt8) (x : InD) : Int × Bool := if placeD C x = 262144 then (0, false) else if placeD C x = x.size ∧ placeD C x % 4096 = 0 then (1, true) else (0, true)
/-- Names are followed. -/
def walkD (bs : List UInt8) (L : List InD) : Nat → List (List UInt8) → Int × Int
  | at_, [] => (((at_ : Nat) : Int), 0)
  | at_, s :: r => match L[at_]? with
    | none => (0, 0)
    | some x => if x.typ ≠ 1 then (0, 183) else match firstK (isE (cont bs x.blk) s) (nEnt x) with
      | none => (0, 182)
      | some k => walkD bs L (entD (win (cont bs x.blk) (k * 16) 16)).1.toNat r
theorem free_step (L : List InD) (n k : Nat) : freeD L (n + 1) k = if thereD L ((k : Nat) : Int) then freeD L n (k + 1) else k := rfl
theorem walk_cons {bs : List UInt8} {L : List InD} {i : Nat} {x : InD} {s : List UInt8} {r : List (List UInt8)} (hx : L[i]? = some x) : walkD bs L i (s :: r) = if x.typ ≠ 1 then (0, 183) else match firstK (isE (cont bs x.blk) s) (nEnt x) with
    | none => (0, 182)
    | some k => walkD bs L (entD (win (cont bs x.blk) (k * 16) 16)).1.toNat r := by
  conv => lhs; unfold walkD
  rw [hx]
theorem firstK_lt {p : Nat → Bool} {k : Nat} : ∀ {n : Nat}, firstK p n = some k → k < n ∧ p k = true
  | 0, h => by cases h
  | n + 1, h => by
    unfold firstK at h
    cases e : firstK p n with
    | some j =>
      rw [e] at h
      cases h
      have := firstK_lt e
      exact ⟨by omega, this.2⟩
    | none =>
      rw [e] at h
      by_cases hp : p n = true
      · rw [if_pos hp] at h
        cases h
        exact ⟨by omega, hp⟩
      · rw [if_neg hp] at h; cases h
section
variable {N : Nat} {w : World} {t r mb hb F : Nat} {fl : List Nat} {bs : List UInt8} {L : List InD} {Q : List SH}
set_option maxRecDepth 100000 in
theorem c_free (h : TrAt N w t r mb hb F fl bs L Q) : Calls Tryd.prog 75 #[rp t] w (Ret fun v w' => v = .int .i64 ((freeD L 199 1 : Nat) : Int) ∧ w = w') := by
  refine W75_ok _ w _ ⟨fun t' w' => ∃ k : Nat, t' = ((k : Int), ()) ∧ 1 ≤ k ∧ k ≤ 200 ∧ freeD L (200 - k) k = freeD L 199 1 ∧ w = w', fun t' _ => 200 - t'.1.toNat, ⟨(((1 : Nat) : Int), ()), rfl, 1, rfl, by omega, by omega, congrArg (fun n => freeD L n 1) (by decide : 200 - 1 = 199), rfl⟩, ?_⟩
  rintro _ _ _ ⟨k, rfl, h1, h2, he, rfl⟩
  refine c_dec (fun hlt => ?_) (fun hge => ?_)
  · have hlt : k < 200 := by
      have : (k : Int) < 200 := hlt
      omega
    refine (c_there h _).mono ?_
    rintro _ _ ⟨_, rfl, rfl, rfl⟩
    have e9 : 200 - k = (200 - (k + 1)) + 1 := by omega
    rw [e9, free_step] at he
    refine ⟨_, rfl, c_nb (fun hno => ⟨?_, rfl⟩) (fun hyes => ?_)⟩
    · have hno : thereD L ((k : Nat) : Int) = false := hno
      rw [hno] at he
      rw [← he]; rfl
    · have hyes : thereD L ((k : Nat) : Int) = true := hyes
      rw [hyes] at he
      refine ⟨(((k + 1 : Nat) : Int), ()), by (try dsimp only); rw [step1 hlt (by omega)]; rfl, ⟨k + 1, rfl, by omega, hlt, he, rfl⟩, ?_⟩
      show 200 - (((k + 1 : Nat) : Int)).toNat < 200 - (k : Int).toNat
      omega
  · have hk : k = 200 := by
      have : ¬ (k : Int) < 200 := hge
      omega
    subst hk
    have e0 : freeD L (200 - 200) 200 = 0 := congrArg (fun n => freeD L n 200) (by decide : 200 - 200 = 0)
    refine ⟨?_, rfl⟩
    rw [← he, e0]
    rfl
theorem c_wants (h : TrAt N w t r mb hb F fl bs L Q) (wf : WfL bs L) {i : Nat} {x : InD} (hx : L[i]? = some x) : Calls Tryd.prog 77 #[rp t, .pointer (some (ip t i))] w
    (Ret fun v w' => v = .tuple #[.int .i64 (wantD (cont bs x.blk) x).1, .bool (wantD (cont bs x.blk) x).2] ∧ Below w.heap.size w w') := by
  obtain ⟨o1, o2, o3⟩ := wf.ok i x hx
  obtain ⟨s, hs⟩ := h.getQ hx
  refine W77_ok _ _ w _ ((c_place h hx o1 o2 (by omega)).mono ?_)
  rintro _ w1 ⟨_, rfl, rfl, b1⟩
  refine ⟨_, rfl, c_eq (fun he => ⟨?_, b1⟩) (fun hne => ⟨fun t' w' => t' = (decide (placeD (cont bs x.blk) x = x.size ∧ placeD (cont bs x.blk) x % 4096 = 0), ()) ∧ w1 = w', ?_, ?_⟩)⟩
  · unfold wantD
    rw [if_pos (by omega)]
  · rintro _ _ _ ⟨rfl, rfl⟩
    refine c_dec (fun hd => ⟨?_, b1⟩) (fun hd => ⟨?_, b1⟩)
    · unfold wantD
      rw [if_neg (by omega), if_pos hd]
    · unfold wantD
      rw [if_neg (by omega), if_neg hd]
  · refine ⟨_, (h.below b1).cell (k := 5) hx hs (by decide) rfl, c_eq (fun he => ⟨by decide, (decide (placeD (cont bs x.blk) x = x.size ∧ placeD (cont bs x.blk) x % 4096 = 0), ()), ?_, rfl, rfl⟩) (fun hne2 => ⟨(false, ()), rfl, ?_, rfl⟩)⟩
    · have e1 : (((placeD (cont bs x.blk) x : Nat) : Int)).tmod 4096 = ((placeD (cont bs x.blk) x % 4096 : Nat) : Int) := by rw [Int.tmod_eq_emod_of_nonneg (by omega)]; omega
      rw [e1]
      have : (((placeD (cont bs x.blk) x % 4096 : Nat) : Int) == (0 : Int)) = decide (placeD (cont bs x.blk) x = x.size ∧ placeD (cont bs x.blk) x % 4096 = 0) := by
        rw [Bool.eq_iff_iff, beq_iff_eq, decide_eq_true_eq]
        omega
      rw [this]; rfl
    · rw [decide_eq_false (by omega)]
theorem c_walk (h : TrAt N w t r mb hb F fl bs L Q) (wf : WfL bs L) {at_ : Nat} {q : Option Addr} {n c : Nat} {l : List (List UInt8)} (hat : at_ < 200) (hq : Rd 1 w q n (sv l)) (hm : n ≤ 1000000) :
    Calls Tryd.prog 110 #[rp t, .int .i64 ((at_ : Nat) : Int), .slice q n c] w (Ret fun v w' => v = .tuple #[.int .i64 (walkD bs L at_ l).1, .int .i64 (walkD bs L at_ l).2] ∧ Below w.heap.size w w') := by
  have ll : l.length = n := by have := hq.len; rw [sv_length, Nat.mul_one] at this; exact this
  refine W110_ok _ _ _ _ _ w _ ⟨fun t' w' => ((t'.2.1 ≠ 0 ∧ walkD bs L at_ l = (0, t'.2.1)) ∨ (t'.2.1 = 0 ∧ walkD bs L at_ l = (t'.1, 0))) ∧ Below w.heap.size w w', ?_, ?_⟩
  · rintro _ t' w1 ⟨hh, b1⟩
    refine c_ne (fun hne => ⟨?_, b1⟩) (fun he => ⟨?_, b1⟩)
    · rcases hh with ⟨_, h2⟩ | ⟨h1, _⟩
      · rw [h2]
      · exact absurd h1 hne
    · rcases hh with ⟨h1, _⟩ | ⟨_, h2⟩
      · exact absurd he h1
      · rw [h2]
  · refine ⟨fun t' w' => ∃ (i k : Nat), t' = ((i : Int), (0 : Int), (k : Int), ()) ∧ i < 200 ∧ k ≤ n ∧ walkD bs L i (l.drop k) = walkD bs L at_ l ∧ Below w.heap.size w w', fun t' _ => n - t'.2.2.1.toNat, ⟨(((at_ : Nat) : Int), (0 : Int), ((0 : Nat) : Int), ()), rfl, at_, 0, rfl, hat, Nat.zero_le _, rfl, Below.refl _ _⟩, ?_⟩
    rintro _ _ w1 ⟨i, k, rfl, hi, hk, he, b1⟩
    have h1 := h.below b1
    refine c_dec (fun hlt => ?_) (fun hge => ?_)
    · have hlt : k < n := by
        have : (k : Int) < ((n : Nat) : Int) := hlt
        omega
      refine rd_str (hq.below b1) hlt fun s hs => ?_
      obtain ⟨x, hx⟩ := h.getL hi
      obtain ⟨o1, o2, o3⟩ := wf.ok i x hx
      have hdrop : l.drop k = s :: l.drop (k + 1) := by
        obtain ⟨g1, g2⟩ := List.getElem?_eq_some_iff.1 hs
        rw [List.drop_eq_getElem_cons g1, g2]
      rw [hdrop, walk_cons hx] at he
      refine ⟨⟨Int.natCast_nonneg i, by show (i : Int) < ((200 : Nat) : Int); omega⟩, ?_⟩
      dsimp only
      rw [Int.toNat_natCast, ip_eq]
      refine (c_look h1 hx o1 o2 (by omega) s).mono ?_
      rintro _ w2 ⟨_, rfl, rfl, b2⟩
      have b12 := b1.trans (b2.mono b1.size)
      have hc0 : w2.cell? (((⟨t, 0, none⟩ : Addr).add 1).add (i * 7)) = some (.int .i64 x.typ) := by rw [ip_eq]; exact (h.below b12).cell0 hx
      unfold lookV
      cases hf : firstK (isE (cont bs x.blk) s) (nEnt x) with
      | none =>
        rw [hf] at he
        refine ⟨_, _, _, rfl, ⟨Int.natCast_nonneg i, by show (i : Int) < ((200 : Nat) : Int); omega⟩, _, hc0, c_ne (fun hne => ⟨((i : Int), 183, ()), rfl, .inl ⟨show (183 : Int) ≠ 0 by decide, ?_⟩, b12⟩) (fun ht => ⟨((i : Int), 182, ()), rfl, .inl ⟨show (182 : Int) ≠ 0 by decide, ?_⟩, b12⟩)⟩
        · have he : (if x.typ ≠ 1 then ((0 : Int), (183 : Int)) else (0, 182)) = walkD bs L at_ l := he
          rw [if_pos hne] at he
          exact he.symm
        · have he : (if x.typ ≠ 1 then ((0 : Int), (183 : Int)) else (0, 182)) = walkD bs L at_ l := he
          rw [if_neg (by simpa using ht)] at he
          exact he.symm
      | some j =>
        rw [hf] at he
        obtain ⟨hj, _⟩ := firstK_lt hf
        have hent := wf.ent i x j hx hj
        have hnn : 0 ≤ (entD (win (cont bs x.blk) (j * 16) 16)).1 := inoOf_nonneg _
        refine ⟨_, _, _, rfl, ⟨Int.natCast_nonneg i, by show (i : Int) < ((200 : Nat) : Int); omega⟩, _, hc0, c_ne (fun hne => ⟨((i : Int), 183, ()), rfl, .inl ⟨show (183 : Int) ≠ 0 by decide, ?_⟩, b12⟩) (fun ht => ⟨((entD (win (cont bs x.blk) (j * 16) 16)).1, (0 : Int), ((k + 1 : Nat) : Int), ()), ?_, ⟨(entD (win (cont bs x.blk) (j * 16) 16)).1.toNat, k + 1, ?_, by omega, by omega, ?_, b12⟩, ?_⟩)⟩
        · have he : (if x.typ ≠ 1 then ((0 : Int), (183 : Int)) else walkD bs L (entD (win (cont bs x.blk) (j * 16) 16)).1.toNat (l.drop (k + 1))) = walkD bs L at_ l := he
          rw [if_pos hne] at he
          exact he.symm
        · rw [step1 hlt (by omega)]; rfl
        · rw [Int.toNat_of_nonneg hnn]
        · have he : (if x.typ ≠ 1 then ((0 : Int), (183 : Int)) else walkD bs L (entD (win (cont bs x.blk) (j * 16) 16)).1.toNat (l.drop (k + 1))) = walkD bs L at_ l := he
          rw [if_neg (by simpa using ht)] at he
          exact he
        · show n - (((k + 1 : Nat) : Int)).toNat < n - (k : Int).toNat
          omega
    · have hkn : k = n := by
        have : ¬ (k : Int) < ((n : Nat) : Int) := hge
        omega
      subst hkn
      rw [List.drop_of_length_le (by omega)] at he
      exact ⟨((i : Int), 0, ()), rfl, .inr ⟨rfl, he.symm⟩, b1⟩
end
end Go.Proofs.YthkcdkldpbndnaaDoor
namespace Go.Proofs.YthkcdkldpbndnaaDoor
open Go.RowKit Go.Hx
/-- Where a path begins. -/
def begD (cwd : Int) (s : List UInt8) : Nat := if s.head? = some 47 then 1 else cwd.toNat
/-- Why a path is refused before it is followed; 0: it is not. -/
def refD (L : List InD) (cwd : Int) (s : List UInt8) : Int := if thereD L cwd = false then 180 else if okS s = false then 181 else 0
def findD (bs : List UInt8) (L : List InD) (cwd : Int) (s : List UInt8) : Int × Int := if refD L cwd s ≠ 0 then (0, refD L cwd s) else walkD bs L (begD cwd s) (names s)
/-- The directory and the name of a path's last name. -/
def lastD (bs : List UInt8) (L : List InD) (cwd : Int) (s : List UInt8) : Int × List UInt8 × Int :=
  if refD L cwd s ≠ 0 then (0, [], refD L cwd s) else match (names s).getLast? with
    | none => (0, [], 184)
    | some nm => if nm = [46] ∨ nm = [46, 46] then (0, [], 184) else if (walkD bs L (begD cwd s) (names s).dropLast).2 ≠ 0 then (0, [], (walkD bs L (begD cwd s) (names s).dropLast).2)
      else if (L[(walkD bs L (begD cwd s) (names s).dropLast).1.toNat]?.map InD.typ) ≠ some 1 then (0, [], 183) else ((walkD bs L (begD cwd s) (names s).dropLast).1, nm, 0)
theorem thereD_lt {L : List InD} {i : Int} (h : thereD L i = true) : 0 < i ∧ i < 200 := by
  unfold thereD at h
  rw [Bool.and_eq_true, Bool.and_eq_true, decide_eq_true_eq, decide_eq_true_eq] at h
  exact h.1
theorem begD_lt {L : List InD} {cwd : Int} {s : List UInt8} (h : refD L cwd s = 0) : begD cwd s < 200 := by
  unfold refD at h
  split at h
  · cases h
  · rename_i ht
    have := thereD_lt (by simpa using ht)
    unfold begD
    split <;> omega
theorem walkD_lt {bs : List UInt8} {L : List InD} (wf : WfL bs L) : ∀ (l : List (List UInt8)) (i : Nat), i < 200 → (walkD bs L i l).2 = 0 → 0 ≤ (walkD bs L i l).1 ∧ (walkD bs L i l).1 < 200
  | [], i, hi, _ => by
    show 0 ≤ ((i : Nat) : Int) ∧ ((i : Nat) : Int) < 200
    omega
  | s :: r, i, hi, h => by
    cases hx : L[i]? with
    | none =>
      unfold walkD
      rw [hx]
      exact ⟨Int.le_refl _, show (0 : Int) < 200 by decide⟩
    | some x =>
      rw [walk_cons hx] at h ⊢
      by_cases ht : x.typ ≠ 1
      · rw [if_pos ht] at h
        exact absurd h (show (183 : Int) ≠ 0 by decide)
      · rw [if_neg ht] at h ⊢
        cases hf : firstK (isE (cont bs x.blk) s) (nEnt x) with
        | none =>
          rw [hf] at h
          exact absurd h (show (182 : Int) ≠ 0 by decide)
        | some k =>
          rw [hf] at h
          have hk := (firstK_lt hf).1
          have := wf.ent i x k hx hk
          have hnn : 0 ≤ (entD (win (cont bs x.blk) (k * 16) 16)).1 := inoOf_nonneg _
          exact walkD_lt wf r _ (by omega) h
section
variable {N : Nat} {w : World} {t r mb hb F : Nat} {fl : List Nat} {bs : List UInt8} {L : List InD} {Q : List SH}
theorem c_tfrom (h : TrAt N w t r mb hb F fl bs L Q) (cwd : Int) (s : List UInt8) : Calls Tryd.prog 109 #[rp t, .int .i64 cwd, .string (str s)] w
    (Ret fun v w' => ∃ (q : Option Addr) (n c : Nat), v = .tuple #[.int .i64 (if refD L cwd s = 0 then ((begD cwd s : Nat) : Int) else 0), .slice q n c, .int .i64 (refD L cwd s)] ∧ (refD L cwd s = 0 → Ow 9 1 w.heap.size w' q n c (sv (names s))) ∧ Below w.heap.size w w') := by
  refine W109_ok _ _ _ w _ ((c_tis h).mono ?_)
  rintro _ _ ⟨_, rfl, rfl, rfl⟩
  refine ⟨_, rfl, (c_there h cwd).mono ?_⟩
  rintro _ _ ⟨_, rfl, rfl, rfl⟩
  refine ⟨_, rfl, c_nb (fun ht => ?_) (fun ht => (c_treeSplit s w).mono ?_)⟩
  · have e : refD L cwd s = 180 := by unfold refD; rw [if_pos ht]
    rw [e]
    exact ⟨none, 0, 0, rfl, fun h => absurd h (by decide), Below.refl _ _⟩
  · rintro _ w1 ⟨_, rfl, q, n, c, rfl, o1, b1⟩
    have htl := thereD_lt ht
    refine ⟨_, _, _, _, rfl, c_nb (fun hs => ?_) (fun hs => ?_)⟩
    · have e : refD L cwd s = 181 := by unfold refD; rw [if_neg (by rw [ht]; decide), if_pos hs]
      rw [e]
      exact ⟨none, 0, 0, rfl, fun h => absurd h (by decide), b1⟩
    · have e : refD L cwd s = 0 := by unfold refD; rw [if_neg (by rw [ht]; decide), if_neg (by rw [hs]; decide)]
      rw [e]
      refine ⟨fun t' w' => t' = (((begD cwd s : Nat) : Int), ()) ∧ w1 = w', ?_, ?_⟩
      · rintro _ _ _ ⟨rfl, rfl⟩
        exact ⟨q, n, c, rfl, fun _ => o1, b1⟩
      · rw [str_lit #[], strEq_str]
        refine c_ndec (fun hne => ?_) (fun he => ⟨(cwd, ()), rfl, ?_, rfl⟩)
        · cases s with
          | nil => exact absurd rfl hne
          | cons b rest =>
            refine ⟨by decide, b, by rw [str_get]; rfl, c_eq (fun h47 => ⟨(1, ()), rfl, ?_, rfl⟩) (fun h47 => ⟨(cwd, ()), rfl, ?_, rfl⟩)⟩
            · have hb : b = 47 := UInt8.toNat_inj.1 (by show _ = 47; omega)
              subst hb
              rfl
            · have hb : b ≠ 47 := fun e => h47 (by rw [e]; rfl)
              unfold begD
              rw [if_neg (by simpa using hb), Int.toNat_of_nonneg (by omega)]
        · have he : s = [] := he
          subst he
          unfold begD
          rw [if_neg (by simp), Int.toNat_of_nonneg (by omega)]
theorem names_len (s : List UInt8) : (names s).length ≤ 200 := by
  unfold names
  split
  · rename_i h
    unfold okS at h
    rw [Bool.and_eq_true, decide_eq_true_eq] at h
    have h1 := cuts_len (pieces 47 s)
    have h2 := pieces_len 47 s
    omega
  · exact Nat.zero_le _
theorem c_Find (h : TrAt N w t r mb hb F fl bs L Q) (wf : WfL bs L) (cwd : Int) (s : List UInt8) : Calls Tryd.prog 48 #[rp t, .int .i64 cwd, .string (str s)] w
    (Ret fun v w' => v = .tuple #[.int .i64 (findD bs L cwd s).1, .int .i64 (findD bs L cwd s).2] ∧ Below w.heap.size w w') := by
  refine W48_ok _ _ _ w _ ((c_tfrom h cwd s).mono ?_)
  rintro _ w1 ⟨_, rfl, q, n, c, rfl, ho, b1⟩
  have z1 := b1.size
  refine ⟨_, _, _, _, _, rfl, c_ne (fun hne => ⟨?_, b1⟩) (fun he => ?_)⟩
  · unfold findD
    rw [if_pos hne]
  · have o1 := ho he
    have hn : n ≤ 200 := by
      have h1 := o1.len
      rw [sv_length, Nat.mul_one] at h1
      have := names_len s
      omega
    rw [if_pos he]
    refine (c_walk (h.below b1) wf (begD_lt he) o1.rd (by omega)).mono ?_
    rintro _ w2 ⟨_, rfl, rfl, b2⟩
    refine ⟨_, _, rfl, ?_, b1.trans (b2.mono z1)⟩
    unfold findD
    rw [if_neg (by rw [he]; decide)]
end
end Go.Proofs.YthkcdkldpbndnaaDoor
namespace Go.Proofs.YthkcdkldpbndnaaDoor
open Go.RowKit Go.Hx
section
variable {N : Nat} {w : World} {t r mb hb F : Nat} {fl : List Nat} {bs : List UInt8} {L : List InD} {Q : List SH}
theorem sv_take (l : List (List UInt8)) (n : Nat) : (sv l).take n = sv (l.take n) := by simp [sv, List.map_take]
def LastV (p : Int × List UInt8 × Int) : Value := .tuple #[.int .i64 p.1, .string (str p.2.1), .int .i64 p.2.2]
theorem c_tlast (h : TrAt N w t r mb hb F fl bs L Q) (wf : WfL bs L) (cwd : Int) (s : List UInt8) : Calls Tryd.prog 73 #[rp t, .int .i64 cwd, .string (str s)] w
    (Ret fun v w' => v = LastV (lastD bs L cwd s) ∧ Below w.heap.size w w') := by
  refine W73_ok _ _ _ w _ ((c_tfrom h cwd s).mono ?_)
  rintro _ w1 ⟨_, rfl, q, n, c, rfl, ho, b1⟩
  have z1 := b1.size
  refine ⟨_, _, _, _, _, rfl, c_ne (fun hne => ⟨?_, b1⟩) (fun he => ?_)⟩
  · unfold lastD
    rw [if_pos hne]; rfl
  · have o1 := ho he
    have hlen := o1.len
    rw [sv_length, Nat.mul_one] at hlen
    have hnl := names_len s
    have e1 : lastD bs L cwd s = match (names s).getLast? with
      | none => (0, [], 184)
      | some nm => if nm = [46] ∨ nm = [46, 46] then (0, [], 184) else if (walkD bs L (begD cwd s) (names s).dropLast).2 ≠ 0 then (0, [], (walkD bs L (begD cwd s) (names s).dropLast).2)
        else if (L[(walkD bs L (begD cwd s) (names s).dropLast).1.toNat]?.map InD.typ) ≠ some 1 then (0, [], 183) else ((walkD bs L (begD cwd s) (names s).dropLast).1, nm, 0) := by
      unfold lastD
      rw [if_neg (by rw [he]; decide)]
      try rfl
    rw [if_pos he]
    by_cases h0 : n = 0
    · subst h0
      have hnil : names s = [] := List.length_eq_zero_iff.1 hlen
      have e2 : lastD bs L cwd s = (0, [], 184) := by rw [e1, hnil]; rfl
      have ew : IntKind.i64.wrap (((0 : Nat) : Int) - 1) = -1 := by rw [wrap_in (by decide) (by decide)]; rfl
      refine ⟨fun t' w' => t' = (true, ()) ∧ w1 = w', ?_, ?_⟩
      · rintro _ _ _ ⟨rfl, rfl⟩
        exact ⟨by rw [e2]; rfl, b1⟩
      · rw [ew]
        exact ⟨(true, ()), rfl, rfl, rfl⟩
    · have ew : IntKind.i64.wrap (((n : Nat) : Int) - 1) = ((n - 1 : Nat) : Int) := by rw [wrap_in (by omega) (by omega)]; omega
      obtain ⟨nm, hnm⟩ : ∃ nm, (names s)[n - 1]? = some nm := ⟨_, List.getElem?_eq_getElem (by omega)⟩
      have hgl : (names s).getLast? = some nm := by rw [List.getLast?_eq_getElem?, hlen]; exact hnm
      have hdl : (names s).dropLast = (names s).take (n - 1) := by rw [List.dropLast_eq_take, hlen]
      rw [hgl] at e1
      have e1 : lastD bs L cwd s = if nm = [46] ∨ nm = [46, 46] then (0, [], 184) else if (walkD bs L (begD cwd s) (names s).dropLast).2 ≠ 0 then (0, [], (walkD bs L (begD cwd s) (names s).dropLast).2)
        else if (L[(walkD bs L (begD cwd s) (names s).dropLast).1.toNat]?.map InD.typ) ≠ some 1 then (0, [], 183) else ((walkD bs L (begD cwd s) (names s).dropLast).1, nm, 0) := e1
      rw [hdl] at e1
      generalize hW : walkD bs L (begD cwd s) ((names s).take (n - 1)) = Wd at e1
      rw [ew]
      refine ⟨fun t' w' => t' = (decide (nm = [46] ∨ nm = [46, 46]), ()) ∧ w1 = w', ?_, ?_⟩
      · rintro _ _ _ ⟨rfl, rfl⟩
        refine c_dec (fun hd => ⟨by rw [e1, if_pos hd]; rfl, b1⟩) (fun hd => ?_)
        rw [if_neg hd] at e1
        have hcap := o1.le
        refine ⟨⟨by omega, by omega⟩, ?_⟩
        rw [slB0, Int.toNat_natCast, Nat.sub_zero, Nat.sub_zero]
        have hrd := o1.rd.take (i := n - 1) (by omega)
        rw [sv_take] at hrd
        refine (c_walk (h.below b1) wf (begD_lt he) hrd (by omega)).mono ?_
        rintro _ w2 ⟨_, rfl, rfl, b2⟩
        rw [hW]
        have b12 := b1.trans (b2.mono z1)
        refine ⟨_, _, rfl, c_ne (fun hne => ⟨by rw [e1, if_pos hne]; rfl, b12⟩) (fun hz => ?_)⟩
        rw [if_neg (by simpa using hz)] at e1
        have hlt := walkD_lt wf ((names s).take (n - 1)) (begD cwd s) (begD_lt he) (by rw [hW]; exact hz)
        rw [hW] at hlt
        obtain ⟨x, hx⟩ := h.getL (i := Wd.1.toNat) (by omega)
        rw [hx] at e1
        refine ⟨⟨hlt.1, hlt.2⟩, x.typ, by rw [ip_eq]; exact (h.below b12).cell0 hx, c_ne (fun hne => ⟨?_, b12⟩) (fun ht => ?_)⟩
        · have e3 : (Option.map InD.typ (some x)) ≠ some 1 := fun e => hne (by simpa using e)
          rw [e1, if_pos e3]; rfl
        · have e3 : ¬ (Option.map InD.typ (some x)) ≠ some 1 := fun hc => hc (by show some x.typ = some 1; rw [ht])
          rw [if_neg e3] at e1
          have o2 := (o1.below b2).drew
          refine rd_str (i := n - 1) o2.rd (by omega) fun nm' hnm' => ?_
          rw [hnm] at hnm'
          cases hnm'
          exact ⟨by rw [e1]; rfl, b12.trans (below_drew _ _)⟩
      · refine c_dec (fun hlt => absurd hlt (by omega)) (fun _ => ?_)
        refine rd_str (i := n - 1) o1.rd (by omega) fun nm' hnm' => ?_
        rw [hnm] at hnm'
        cases hnm'
        rw [str_lit #[46], str_lit #[46, 46], strEq_str]
        refine c_dec (fun h1 => ⟨(true, ()), rfl, ?_, rfl⟩) (fun h1 => ?_)
        · rw [decide_eq_true (Or.inl h1)]
        · refine rd_str (i := n - 1) o1.rd (by omega) fun nm' hnm' => ?_
          rw [hnm] at hnm'
          cases hnm'
          rw [strEq_str]
          refine ⟨(decide (nm = [46, 46]), ()), rfl, ?_, rfl⟩
          congr 1
          rw [decide_eq_decide]
          exact ⟨.inr, fun hc => hc.resolve_left h1⟩
end
end Go.Proofs.YthkcdkldpbndnaaDoor
namespace Go.Proofs.YthkcdkldpbndnaaDoor
open Go.RowKit Go.Hx
section
variable {N : Nat} {w : World} {t r mb hb F : Nat} {fl : List Nat} {bs : List UInt8} {L : List InD} {Q : List SH}
set_option maxRecDepth 100000 in
theorem cont_thr {f : Nat} (hb : f * 4096 + 4096 ≤ bs.length) {B : List Nat} (hB : f ∉ B) : cont (thrB bs f fl) B = cont bs B := by
  have e := cont_off (bs := bs) (x := leN 8 (nx fl) ++ List.replicate 4088 5) (f := f) (o := 0) hb (by rw [thr_len]; exact Nat.le_refl _) hB
  rw [Nat.add_zero] at e
  exact e
theorem flat_cut {L : List InD} {i : Nat} {x x' : InD} (hx : L[i]? = some x) (hb : x'.blk = []) (hn : (L.map InD.blk).flatten.Nodup) : ((L.set i x').map InD.blk).flatten.Nodup := by
  refine hn.sublist ?_
  induction L generalizing i with
  | nil => simp at hx
  | cons y r ih =>
    cases i with
    | zero =>
      rw [List.set_cons_zero, List.map_cons, List.map_cons, List.flatten_cons, List.flatten_cons, hb, List.nil_append]
      exact List.sublist_append_right _ _
    | succ i =>
      rw [List.set_cons_succ, List.map_cons, List.map_cons, List.flatten_cons, List.flatten_cons]
      rw [List.map_cons, List.flatten_cons, List.nodup_append] at hn
      exact (List.Sublist.refl _).append (ih (by simpa using hx) hn.2.1)
theorem nd_other {L : List InD} {i j : Nat} {x y : InD} {f : Nat} (hn : (L.map InD.blk).flatten.Nodup) (hx : L[i]? = some x) (hy : L[j]? = some y) (hij : i ≠ j) (hf : f ∈ x.blk) : f ∉ y.blk := by
  induction L generalizing i j with
  | nil => simp at hx
  | cons z r ih =>
    rw [List.map_cons, List.flatten_cons, List.nodup_append] at hn
    obtain ⟨_, h2, h3⟩ := hn
    cases i with
    | zero =>
      cases j with
      | zero => exact absurd rfl hij
      | succ j =>
        have hx : z = x := by simpa using hx
        subst hx
        exact fun hc => h3 f hf f (mem_flat (i := j) (by simpa using hy) hc) rfl
    | succ i =>
      cases j with
      | zero =>
        have hy : z = y := by simpa using hy
        subst hy
        exact fun hc => h3 f hc f (mem_flat (i := i) (by simpa using hx) hf) rfl
      | succ j => exact ih h2 (by simpa using hx) (by simpa using hy) (fun e => hij (by rw [e]))
set_option maxRecDepth 100000 in
theorem c_empty (h : TrAt N w t r mb hb F fl bs L Q) {i : Nat} {x : InD} (hx : L[i]? = some x) (hbig : x.blk.length ≤ 1000000) : Calls Tryd.prog 112 #[rp t, .pointer (some (ip t i))] w
    (Ret fun v w' => v = .tuple #[] ∧ ∃ bs', TrAt N w' t r mb hb F (x.blk.reverse ++ fl) bs' (L.set i { x with size := 0, blk := [] }) (Q.set i (none, 0)) ∧ (∀ B : List Nat, (∀ f ∈ B, f ∉ x.blk) → cont bs' B = cont bs B) ∧ TrG t r mb hb Q (Q.set i (none, 0)) w w') := by
  obtain ⟨s, hs⟩ := h.getQ hx
  have hnd := h.nodup hx
  refine W112_ok _ _ w _ ⟨s.1, x.blk.length, s.2, h.cell (k := 6) hx hs (by decide) rfl, fun t' w' => ∃ (k : Nat) (bk : List UInt8), t' = ((k : Int), ()) ∧ k ≤ x.blk.length ∧ RamAt N w' r mb hb F ((x.blk.take k).reverse ++ fl) bk ∧ (∀ B : List Nat, (∀ f ∈ B, f ∉ x.blk) → cont bk B = cont bs B) ∧ Kp (RS r mb hb) w.heap.size w w', fun t' _ => x.blk.length - t'.1.toNat,
    ⟨(((0 : Nat) : Int), ()), rfl, 0, bs, rfl, Nat.zero_le _, by simpa using h.ram, fun _ _ => rfl, Kp.refl _ _ _⟩, ?_⟩
  rintro _ _ w1 ⟨k, bk, rfl, hk, hr1, hc1, kp1⟩
  have z1 := kp1.size
  have o1 : Ow 100 1 N w1 s.1 x.blk.length s.2 (fv x.blk) := (h.ow i x s hx hs).keep fun a ha => kp1.block _ ((h.ow i x s hx hs).lt ha).1 (h.owRS hx hs ha).1
  have kt1 : Blk w1 t (trV r L Q).toArray 123 := h.kt.keep (kp1.block _ h.kt.lt h.notRS)
  refine c_dec (fun hlt => ?_) (fun hge => ?_)
  · have hlt : k < x.blk.length := by simpa using hlt
    obtain ⟨f, hf⟩ : ∃ f, x.blk[k]? = some f := ⟨_, List.getElem?_eq_getElem hlt⟩
    have hfm := List.mem_of_getElem? hf
    obtain ⟨h1, h2, h3⟩ := h.held i x hx f hfm
    have hnot : f ∉ (x.blk.take k).reverse ++ fl := fun hc => by
      rcases List.mem_append.1 hc with hc | hc
      · have hc := List.mem_reverse.1 hc
        obtain ⟨j, hj⟩ := List.mem_iff_getElem?.1 hc
        have hjk : j < k := by
          have := (List.getElem?_eq_some_iff.1 hj).1
          rw [List.length_take] at this; omega
        rw [List.getElem?_take_of_lt hjk] at hj
        have := (List.getElem?_inj (by omega) hnd).1 (hj.trans hf.symm)
        omega
      · exact h3 hc
    refine o1.rd.at1 hlt fun a v ha hv hc => ?_
    rw [fv_get, hf] at hv
    have hv : v = .int .u64 ((fa f : Nat) : Int) := by simpa using hv.symm
    subst hv
    refine ⟨_, by rw [Int.toNat_natCast]; exact hc, _, kt1.cell rfl, (c_rFree hr1 h1 h2 hnot).mono ?_⟩
    rintro _ w2 ⟨_, rfl, rfl, hr2, kp2⟩
    refine ⟨_, rfl, (((k + 1 : Nat) : Int), ()), by (try dsimp only); rw [step1 hlt (by omega)]; rfl, ⟨k + 1, thrB bk f ((x.blk.take k).reverse ++ fl), rfl, hlt, ?_, fun B hB => ?_, kp_then kp1 kp2⟩, ?_⟩
    · rw [takeL_snoc hf, List.reverse_append, List.append_assoc]
      exact hr2
    · have hfit : f * 4096 + 4096 ≤ bk.length := by have := hr1.len; omega
      rw [cont_thr hfit fun hc => hB f hc hfm]
      exact hc1 B hB
    · show x.blk.length - (((k + 1 : Nat) : Int)).toNat < x.blk.length - (k : Int).toNat
      omega
  · have hge : k = x.blk.length := by
      have : ¬ k < x.blk.length := by simpa using hge
      omega
    subst hge
    rw [List.take_length] at hr1
    have hl200 := (List.getElem?_eq_some_iff.1 hx).1
    have hsz : (trV r L Q).toArray.size = 1 + 200 * 7 := by rw [List.size_toArray, tr_len (by rw [h.len, h.lenQ]), h.len]
    have hL := h.len
    refine nl ?_
    rw [ip_add]
    refine stC_intro kt1 (by omega) fun w2 k2 m2 s2 => nl ?_
    rw [List.setIfInBounds_toArray, tr_set (x' := { x with blk := [] }) (s' := (none, 0)) hx hs (by decide) rfl] at k2
    rw [ip_add]
    have hx2 : (L.set i { x with blk := [] })[i]? = some { x with blk := [] } := set_self hx
    have hs2 : (Q.set i (none, 0))[i]? = some (none, 0) := set_self hs
    refine stC_intro k2 (by rw [List.size_toArray, tr_len (by rw [List.length_set, List.length_set, h.len, h.lenQ]), List.length_set]; omega) fun w3 k3 m3 s3 => ⟨rfl, bk, ?_, hc1, ?_⟩
    · rw [List.setIfInBounds_toArray, tr_set (x' := { x with size := 0, blk := [] }) (s' := (none, 0)) hx2 hs2 (by decide) rfl, List.set_set, List.set_set] at k3
      refine ⟨k3, h.lo, by rw [List.length_set]; exact h.len, by rw [List.length_set]; exact h.lenQ, (hr1.keep fun b hb' => ?_), fun j y u hy hu => ?_, fun j j' u u' hj hu hu' => ?_, fun j y hy f hf => ?_, flat_cut hx rfl h.nd⟩
      · rw [m3.block b (by have := hr1.lt b hb'; omega) fun e => h.notRS (e ▸ hb'), m2.block b (hr1.lt b hb') fun e => h.notRS (e ▸ hb')]
      · rcases set_case hx hy with ⟨rfl, rfl⟩ | ⟨hij, hy'⟩
        · rw [set_self hs] at hu
          cases hu
          exact Ow.nil _ _ _ _
        · rw [set_other hij] at hu
          have o := h.ow j y u hy' hu
          refine o.keep fun a ha => ?_
          have hl := (o.lt ha).1
          have hn := h.owRS hy' hu ha
          rw [m3.block _ (by omega) hn.2, m2.block _ (by omega) hn.2]
          exact kp1.block _ hl hn.1
      · rcases set_case hs hu with ⟨rfl, rfl⟩ | ⟨hij, hu⟩
        · exact fun a b ha => by cases ha
        · rcases set_case hs hu' with ⟨rfl, rfl⟩ | ⟨hij', hu'⟩
          · exact fun a b _ hb' => by cases hb'
          · exact h.far j j' u u' hj hu hu'
      · rcases set_case hx hy with ⟨rfl, rfl⟩ | ⟨hij, hy⟩
        · cases hf
        · obtain ⟨g1, g2, g3⟩ := h.held j y hy f hf
          refine ⟨g1, g2, fun hc => ?_⟩
          rcases List.mem_append.1 hc with hc | hc
          · exact nd_other h.nd hx hy hij (List.mem_reverse.1 hc) hf
          · exact g3 hc
    · refine (TrG.of_ram kp1).trans ⟨kp_then (kp_of_mod m2 (.inl rfl)) (kp_of_mod m3 (.inl rfl)), fun b hb' => ?_⟩
      rcases hb' with e | e | ⟨j, u, a, hu, ha, e⟩
      · exact .inl (.inl e)
      · exact .inl (.inr (.inl e))
      · rcases set_case hs hu with ⟨rfl, rfl⟩ | ⟨hij, hu⟩
        · cases ha
        · exact .inl (.inr (.inr ⟨j, u, a, hu, ha, e⟩))
end
end Go.Proofs.YthkcdkldpbndnaaDoor
namespace Go.Proofs.YthkcdkldpbndnaaDoor
open Go.RowKit Go.Hx
section
variable {N : Nat} {w : World} {t r mb hb F : Nat} {fl : List Nat} {bs : List UInt8} {L : List InD} {Q : List SH}
theorem set_same {α : Type} {L : List α} {i : Nat} {x : α} (h : L[i]? = some x) : L.set i x = L := by
  apply List.ext_getElem?
  intro j
  by_cases hj : i = j
  · subst hj; rw [set_self h, h]
  · rw [set_other hj]
/-- The table turns at one inode, whose list of blocks stays. -/
theorem TrAt.tabTo {w' : World} (h : TrAt N w t r mb hb F fl bs L Q) {i : Nat} {x x' : InD} (hx : L[i]? = some x) (hbk : x'.blk = x.blk) (k' : Blk w' t (trV r (L.set i x') Q).toArray 123) (m : Mod t w w') : TrAt N w' t r mb hb F fl bs (L.set i x') Q := by
  refine ⟨k', h.lo, by rw [List.length_set]; exact h.len, h.lenQ, ?_, fun j y u hy hu => ?_, h.far, fun j y hy f hf => ?_, by rw [blk_set hx hbk]; exact h.nd⟩
  · exact h.ram.keep fun b hs => m.block b (h.ram.lt b hs) fun e => h.notRS (e ▸ hs)
  · have key : ∀ y, L[j]? = some y → Ow 100 1 N w' u.1 y.blk.length u.2 (fv y.blk) := fun y hy => (h.ow j y u hy hu).keep fun a ha => m.block _ ((h.ow j y u hy hu).lt ha).1 (h.owRS hy hu ha).2
    rcases set_case hx hy with ⟨rfl, rfl⟩ | ⟨_, hy⟩
    · rw [hbk]; exact key x hx
    · exact key y hy
  · rcases set_case hx hy with ⟨rfl, rfl⟩ | ⟨_, hy⟩
    · rw [hbk] at hf; exact h.held i x hx f hf
    · exact h.held j y hy f hf
theorem TrAt.setRow (h : TrAt N w t r mb hb F fl bs L Q) {i n : Nat} {x x' : InD} {s : SH} {l : List Value} (hx : L[i]? = some x) (hs : Q[i]? = some s) (hbk : x'.blk = x.blk) (hn : l.length = n) (h7 : n ≤ 7) (he : l ++ (inoV x s).drop n = inoV x' s) (h1 : ∀ c ∈ l, one c = true) {K : World → Prop}
    (hK : ∀ w', TrAt N w' t r mb hb F fl bs (L.set i x') Q → Mod t w w' → w'.heap.size = w.heap.size → K w') : stA n (ip t i) l.toArray w K := by
  have hil := (List.getElem?_eq_some_iff.1 hx).1
  have hL := h.len
  unfold ip
  refine stA_intro h.kt (by simpa using hn) (by rw [List.size_toArray, tr_len (by rw [h.len, h.lenQ])]; omega) (by simpa using h1) fun w' k' m s' => hK w' (h.tabTo hx hbk ?_ m) m s'
  have e := tr_row (r := r) (x' := x') (s' := s) (l := l) hx hs (by omega) (by rw [hn]; exact he)
  rw [set_same hs] at e
  rw [← e]
  exact k'
def zeroI : InD := ⟨0, 0, 0, 0, 0, 0, []⟩
theorem bIno : bldP Tryd.prog 120 [] (.agg (inoV zeroI (none, 0)).toArray) := fun w => by kernel_rfl
theorem c_settle0 (h : TrAt N w t r mb hb F fl bs L Q) {i : Nat} {x : InD} (hx : L[i]? = some x) (hn : ¬ (x.links = 0 ∧ x.refs = 0)) : Calls Tryd.prog 113 #[rp t, .pointer (some (ip t i))] w (Ret fun v w' => v = .tuple #[] ∧ w = w') := by
  obtain ⟨s, hs⟩ := h.getQ hx
  refine W113_ok _ _ w _ ⟨fun t' w' => t' = (false, ()) ∧ w = w', ?_, _, h.cell (k := 3) hx hs (by decide) rfl, c_eq (fun h0 => ⟨_, h.cell (k := 4) hx hs (by decide) rfl, (false, ()), ?_, rfl, rfl⟩) (fun h0 => ⟨(false, ()), rfl, rfl, rfl⟩)⟩
  · rintro _ _ _ ⟨rfl, rfl⟩
    exact ⟨rfl, rfl⟩
  · have : (x.refs == (0 : Int)) = false := by
      rw [beq_eq_false_iff_ne]
      exact fun e => hn ⟨h0, e⟩
    rw [this]; rfl
theorem c_settle1 (h : TrAt N w t r mb hb F fl bs L Q) {i : Nat} {x : InD} (hx : L[i]? = some x) (hn : x.links = 0 ∧ x.refs = 0) (hbig : x.blk.length ≤ 1000000) : Calls Tryd.prog 113 #[rp t, .pointer (some (ip t i))] w
    (Ret fun v w' => v = .tuple #[] ∧ ∃ bs', TrAt N w' t r mb hb F (x.blk.reverse ++ fl) bs' (L.set i zeroI) (Q.set i (none, 0)) ∧ (∀ B : List Nat, (∀ f ∈ B, f ∉ x.blk) → cont bs' B = cont bs B) ∧ TrG t r mb hb Q (Q.set i (none, 0)) w w') := by
  obtain ⟨s, hs⟩ := h.getQ hx
  refine W113_ok _ _ w _ ⟨fun t' w' => t' = (true, ()) ∧ w = w', ?_, _, h.cell (k := 3) hx hs (by decide) rfl, c_eq (fun h0 => ⟨_, h.cell (k := 4) hx hs (by decide) rfl, (true, ()), ?_, rfl, rfl⟩) (fun h0 => absurd hn.1 h0)⟩
  · rintro _ _ _ ⟨rfl, rfl⟩
    refine (c_empty h hx hbig).mono ?_
    rintro _ w1 ⟨_, rfl, rfl, bs', h1, hc, g1⟩
    have hx1 : (L.set i { x with size := 0, blk := [] })[i]? = some { x with size := 0, blk := [] } := set_self hx
    have hs1 : (Q.set i (none, 0))[i]? = some (none, 0) := set_self hs
    refine ⟨rfl, _, bIno, nl (h1.setRow (x' := zeroI) (l := inoV zeroI (none, 0)) hx1 hs1 rfl rfl (Nat.le_refl _) rfl (fun c hc => List.all_eq_true.1 (show (inoV zeroI (none, 0)).all one = true by rfl) c hc) fun w2 h2 m2 s2 => ⟨rfl, bs', ?_, hc, g1.trans (TrG.of_mod m2)⟩)⟩
    rw [List.set_set] at h2
    exact h2
  · rw [hn.2]; rfl
end
end Go.Proofs.YthkcdkldpbndnaaDoor
namespace Go.Proofs.YthkcdkldpbndnaaDoor
open Go.RowKit Go.Hx
theorem there_get {L : List InD} {i : Int} (h : thereD L i = true) : ∃ x, L[i.toNat]? = some x ∧ isZ x = false ∧ 0 < i ∧ i < 200 := by
  have hl := thereD_lt h
  unfold thereD at h
  rw [Bool.and_eq_true] at h
  cases e : L[i.toNat]? with
  | none => rw [e] at h; exact absurd h.2 (by decide)
  | some x =>
    rw [e] at h
    exact ⟨x, rfl, by simpa using h.2, hl.1, hl.2⟩
section
variable {N : Nat} {w : World} {t r mb hb F : Nat} {fl : List Nat} {bs : List UInt8} {L : List InD} {Q : List SH}
theorem ip_int {i : Int} (h : 0 < i) : ((⟨t, 0, none⟩ : Addr).add 1).add (i.toNat * 7) = ip t i.toNat := ip_eq _ _
theorem c_Hold (h : TrAt N w t r mb hb F fl bs L Q) (wf : WfL bs L) (i : Int) : Calls Tryd.prog 52 #[rp t, .int .i64 i] w
    (Ret fun v w' => (thereD L i = false ∧ v = .int .i64 180 ∧ w = w') ∨ ∃ x, thereD L i = true ∧ L[i.toNat]? = some x ∧
      ((x.refs = 2147483647 ∧ v = .int .i64 190 ∧ w = w') ∨ (x.refs ≠ 2147483647 ∧ v = .int .i64 0 ∧ TrAt N w' t r mb hb F fl bs (L.set i.toNat { x with refs := x.refs + 1 }) Q ∧ TrG t r mb hb Q Q w w'))) := by
  refine W52_ok _ _ w _ ((c_tis h).mono ?_)
  rintro _ _ ⟨_, rfl, rfl, rfl⟩
  refine ⟨_, rfl, (c_there h i).mono ?_⟩
  rintro _ _ ⟨_, rfl, rfl, rfl⟩
  refine ⟨_, rfl, c_nb (fun hn => .inl ⟨hn, rfl, rfl⟩) (fun hy => ?_)⟩
  obtain ⟨x, hx, _, h0, h2⟩ := there_get hy
  obtain ⟨s, hs⟩ := h.getQ hx
  have hr := (wf.rng _ x hx).1
  have cell : ∀ w', TrAt N w' t r mb hb F fl bs L Q → w'.cell? ((((⟨t, 0, none⟩ : Addr).add 1).add (i.toNat * 7)).add 4) = some (.int .i64 x.refs) := fun w' h' => by
    rw [ip_eq]; exact h'.cell (k := 4) hx hs (by decide) rfl
  have hbd : 0 ≤ i ∧ i < ((200 : Nat) : Int) := ⟨by omega, by omega⟩
  refine ⟨hbd, _, cell w h, c_eq (fun he => .inr ⟨x, hy, hx, .inl ⟨he, rfl, rfl⟩⟩) (fun hne => ⟨hbd, fun w' => w' = w.drew, rfl, _, fun w' e => (by rw [e]; exact cell _ h.drew), hbd, ?_⟩)⟩
  rw [ip_eq, wrap_in (by omega) (by omega)]
  exact h.drew.setF (k := 4) (x' := { x with refs := x.refs + 1 }) hx (by decide) rfl (fun s => rfl) fun w2 h2 m2 s2 => .inr ⟨x, hy, hx, .inr ⟨hne, rfl, h2, (TrG.of_below (below_drew _ _)).trans (TrG.of_mod m2)⟩⟩
/-- Read. -/
theorem c_tRead (h : TrAt N w t r mb hb F fl bs L Q) (wf : WfL bs L) (i o n : Int) : Calls Tryd.prog 28 #[rp t, .int .i64 i, .int .i64 o, .int .i64 n] w
    (Ret fun v w' => ∃ (q : Option Addr) (m c : Nat), v = .slice q m c ∧ Below w.heap.size w w' ∧ Ow 5 1 w.heap.size w' q m c (bv (match L[i.toNat]? with
      | some x => if thereD L i = true ∧ x.typ ≠ 3 ∧ 0 ≤ o ∧ 0 ≤ n ∧ o ≤ ((x.size : Nat) : Int) then win (cont bs x.blk) o.toNat (min n.toNat (x.size - o.toNat)) else []
      | none => []))) := by
  have nil : ∀ {w' : World} {l : List UInt8}, l = [] → Below w.heap.size w w' → ∃ (q : Option Addr) (m c : Nat), Value.slice none 0 0 = .slice q m c ∧ Below w.heap.size w w' ∧ Ow 5 1 w.heap.size w' q m c (bv l) := fun e b => ⟨none, 0, 0, rfl, b, by rw [e]; exact Ow.nil _ _ _ _⟩
  refine W28_ok _ _ _ _ w _ ((c_tis h).mono ?_)
  rintro _ _ ⟨_, rfl, rfl, rfl⟩
  refine ⟨_, rfl, (c_there h i).mono ?_⟩
  rintro _ _ ⟨_, rfl, rfl, rfl⟩
  refine ⟨_, rfl, c_nb (fun hn => ?_) (fun hy => ?_)⟩
  · refine nil ?_ (Below.refl _ _)
    cases e : L[i.toNat]? with
    | none => rfl
    | some x => show (if _ then _ else _) = _; rw [if_neg (by rw [hn]; exact fun hc => absurd hc.1 (by decide))]
  · obtain ⟨x, hx, _, h0, h2⟩ := there_get hy
    obtain ⟨s, hs⟩ := h.getQ hx
    obtain ⟨_, o2, o3⟩ := wf.ok _ x hx
    rw [hx]
    have hbd : 0 ≤ i ∧ i < ((200 : Nat) : Int) := ⟨by omega, by omega⟩
    have no : ∀ {p : Prop}, ¬ p → (thereD L i = true ∧ x.typ ≠ 3 ∧ 0 ≤ o ∧ 0 ≤ n ∧ o ≤ ((x.size : Nat) : Int) → p) → (if thereD L i = true ∧ x.typ ≠ 3 ∧ 0 ≤ o ∧ 0 ≤ n ∧ o ≤ ((x.size : Nat) : Int) then win (cont bs x.blk) o.toNat (min n.toNat (x.size - o.toNat)) else []) = [] := fun hp hc => if_neg fun h' => hp (hc h')
    refine ⟨hbd, _, by rw [ip_eq]; exact h.cell0 hx, c_eq (fun h3 => nil (no (fun h' : x.typ ≠ 3 => h' h3) fun h' => h'.2.1) (Below.refl _ _)) (fun h3 => c_dec (fun ho => nil (no (by omega : ¬ 0 ≤ o) fun h' => h'.2.2.1) (Below.refl _ _)) (fun ho => c_dec (fun hn => nil (no (by omega : ¬ 0 ≤ n) fun h' => h'.2.2.2.1) (Below.refl _ _)) (fun hn => ⟨_, by rw [ip_eq]; exact h.cell (k := 5) hx hs (by decide) rfl, c_dec (fun hs' => nil (no (by omega : ¬ o ≤ ((x.size : Nat) : Int)) fun h' => h'.2.2.2.2) (Below.refl _ _)) (fun hs' => ?_)⟩)))⟩
    obtain ⟨a, ha⟩ : ∃ a : Nat, o = (a : Int) := ⟨o.toNat, by omega⟩
    obtain ⟨m, hm⟩ : ∃ m : Nat, n = (m : Int) := ⟨n.toNat, by omega⟩
    subst ha hm
    have e : (if IntKind.i64.wrap (((x.size : Nat) : Int) - (a : Int)) < (m : Int) then IntKind.i64.wrap (((x.size : Nat) : Int) - (a : Int)) else (m : Int)) = ((min m (x.size - a) : Nat) : Int) := by
      rw [wrap_in (by omega) (by omega)]
      split <;> omega
    refine ⟨((x.size : Nat) : Int), by rw [ip_eq]; exact h.cell (k := 5) hx hs (by decide) rfl, ?_⟩
    rw [e, ip_eq]
    refine (c_get h (o := a) (n := min m (x.size - a)) hx (by omega) (by omega)).mono ?_
    rintro _ w1 ⟨_, rfl, q, c, rfl, o1, b1⟩
    refine ⟨q, _, c, rfl, q, _, c, rfl, b1, ?_⟩
    have hif : (if thereD L i = true ∧ x.typ ≠ 3 ∧ 0 ≤ ((a : Nat) : Int) ∧ 0 ≤ ((m : Nat) : Int) ∧ ((a : Nat) : Int) ≤ ((x.size : Nat) : Int) then win (cont bs x.blk) (((a : Nat) : Int)).toNat (min (((m : Nat) : Int)).toNat (x.size - (((a : Nat) : Int)).toNat)) else []) = win (cont bs x.blk) a (min m (x.size - a)) := by
      rw [if_pos ⟨hy, h3, by omega, by omega, by omega⟩, Int.toNat_natCast, Int.toNat_natCast]
    show Ow _ _ _ _ _ _ _ (bv (if _ then _ else _))
    rw [hif]
    exact o1
end
end Go.Proofs.YthkcdkldpbndnaaDoor
namespace Go.Proofs.YthkcdkldpbndnaaDoor
open Go.RowKit Go.Hx
section
variable {N : Nat} {w : World} {t r mb hb F : Nat} {fl : List Nat} {bs : List UInt8} {L : List InD} {Q : List SH}
theorem c_Trunc (h : TrAt N w t r mb hb F fl bs L Q) (wf : WfL bs L) (i : Int) : Calls Tryd.prog 51 #[rp t, .int .i64 i] w
    (Ret fun v w' => (thereD L i = false ∧ v = .int .i64 180 ∧ w = w') ∨ ∃ x, thereD L i = true ∧ L[i.toNat]? = some x ∧ ((x.typ ≠ 2 ∧ v = .int .i64 183 ∧ w = w') ∨
      (x.typ = 2 ∧ v = .int .i64 0 ∧ ∃ bs', TrAt N w' t r mb hb F (x.blk.reverse ++ fl) bs' (L.set i.toNat { x with size := 0, blk := [] }) (Q.set i.toNat (none, 0)) ∧ (∀ B : List Nat, (∀ f ∈ B, f ∉ x.blk) → cont bs' B = cont bs B) ∧ TrG t r mb hb Q (Q.set i.toNat (none, 0)) w w'))) := by
  refine W51_ok _ _ w _ ((c_tis h).mono ?_)
  rintro _ _ ⟨_, rfl, rfl, rfl⟩
  refine ⟨_, rfl, (c_there h i).mono ?_⟩
  rintro _ _ ⟨_, rfl, rfl, rfl⟩
  refine ⟨_, rfl, c_nb (fun hn => .inl ⟨hn, rfl, rfl⟩) (fun hy => ?_)⟩
  obtain ⟨x, hx, _, h0, h2⟩ := there_get hy
  obtain ⟨_, _, o3⟩ := wf.ok _ x hx
  have hbd : 0 ≤ i ∧ i < ((200 : Nat) : Int) := ⟨by omega, by omega⟩
  refine ⟨hbd, _, by rw [ip_eq]; exact h.cell0 hx, c_ne (fun hne => .inr ⟨x, hy, hx, .inl ⟨hne, rfl, rfl⟩⟩) (fun he => ⟨hbd, ?_⟩)⟩
  rw [ip_eq]
  refine (c_empty h hx (by omega)).mono ?_
  rintro _ w1 ⟨_, rfl, rfl, bs', h1, hc, g1⟩
  exact ⟨rfl, .inr ⟨x, hy, hx, .inr ⟨he, rfl, bs', h1, hc, g1⟩⟩⟩
/-- How many inodes from k on are free. -/
def leftD (L : List InD) : Nat → Nat → Nat
  | 0, _ => 0
  | n + 1, k => (if thereD L ((k : Nat) : Int) then 0 else 1) + leftD L n (k + 1)
theorem left_step (L : List InD) (n k : Nat) : leftD L (n + 1) k = (if thereD L ((k : Nat) : Int) then 0 else 1) + leftD L n (k + 1) := rfl
set_option maxRecDepth 100000 in
theorem c_Left (h : TrAt N w t r mb hb F fl bs L Q) : Calls Tryd.prog 56 #[rp t] w (Ret fun v w' => v = .int .i64 ((leftD L 199 1 : Nat) : Int) ∧ w = w') := by
  refine W56_ok _ w _ ((c_tis h).mono ?_)
  rintro _ _ ⟨_, rfl, rfl, rfl⟩
  refine ⟨_, rfl, fun t' w' => ∃ a k : Nat, t' = ((a : Int), (k : Int), ()) ∧ 1 ≤ k ∧ k ≤ 200 ∧ a ≤ k ∧ a + leftD L (200 - k) k = leftD L 199 1 ∧ w = w', fun t' _ => 200 - t'.2.1.toNat, ⟨(((0 : Nat) : Int), ((1 : Nat) : Int), ()), rfl, 0, 1, rfl, by omega, by omega, by omega, (Nat.zero_add _).trans (congrArg (fun n => leftD L n 1) (by decide : 200 - 1 = 199)), rfl⟩, ?_⟩
  rintro _ _ _ ⟨a, k, rfl, h1, h2, ha, he, rfl⟩
  refine c_dec (fun hlt => ?_) (fun hge => ?_)
  · have hlt : k < 200 := by
      have : (k : Int) < 200 := hlt
      omega
    have e9 : 200 - k = (200 - (k + 1)) + 1 := by omega
    rw [e9, left_step] at he
    refine (c_there h _).mono ?_
    rintro _ _ ⟨_, rfl, rfl, rfl⟩
    refine ⟨_, rfl, c_nb (fun hno => ?_) (fun hyes => ?_)⟩
    · have hno : thereD L ((k : Nat) : Int) = false := hno
      rw [hno] at he
      have he : a + (1 + leftD L (200 - (k + 1)) (k + 1)) = leftD L 199 1 := he
      refine ⟨(((a + 1 : Nat) : Int), ((k + 1 : Nat) : Int), ()), by (try dsimp only); rw [step1 hlt (by omega), step1 (i := a) (n := a + 1) (by omega) (by omega)]; rfl, ⟨a + 1, k + 1, rfl, by omega, hlt, by omega, by omega, rfl⟩, ?_⟩
      show 200 - (((k + 1 : Nat) : Int)).toNat < 200 - (k : Int).toNat
      omega
    · have hyes : thereD L ((k : Nat) : Int) = true := hyes
      rw [hyes] at he
      have he : a + (0 + leftD L (200 - (k + 1)) (k + 1)) = leftD L 199 1 := he
      refine ⟨((a : Int), ((k + 1 : Nat) : Int), ()), by (try dsimp only); rw [step1 hlt (by omega)]; rfl, ⟨a, k + 1, rfl, by omega, hlt, by omega, by omega, rfl⟩, ?_⟩
      show 200 - (((k + 1 : Nat) : Int)).toNat < 200 - (k : Int).toNat
      omega
  · have hk : k = 200 := by
      have : ¬ (k : Int) < 200 := hge
      omega
    subst hk
    have e0 : leftD L (200 - 200) 200 = 0 := congrArg (fun n => leftD L n 200) (by decide : 200 - 200 = 0)
    rw [e0, Nat.add_zero] at he
    exact ⟨by rw [← he], rfl⟩
end
end Go.Proofs.YthkcdkldpbndnaaDoor
namespace Go.Proofs.YthkcdkldpbndnaaDoor
open Go.RowKit Go.Hx
section
variable {N : Nat} {w : World} {t r mb hb F : Nat} {fl : List Nat} {bs : List UInt8} {L : List InD} {Q : List SH}
theorem c_Drop (h : TrAt N w t r mb hb F fl bs L Q) (wf : WfL bs L) (i : Int) : Calls Tryd.prog 53 #[rp t, .int .i64 i] w
    (Ret fun v w' => (thereD L i = false ∧ v = .int .i64 180 ∧ w = w') ∨ ∃ x, thereD L i = true ∧ L[i.toNat]? = some x ∧ ((x.refs = 0 ∧ v = .int .i64 1 ∧ w = w') ∨
      (x.refs ≠ 0 ∧ ¬ (x.links = 0 ∧ x.refs = 1) ∧ v = .int .i64 0 ∧ TrAt N w' t r mb hb F fl bs (L.set i.toNat { x with refs := x.refs - 1 }) Q ∧ TrG t r mb hb Q Q w w') ∨
      (x.links = 0 ∧ x.refs = 1 ∧ v = .int .i64 0 ∧ ∃ bs', TrAt N w' t r mb hb F (x.blk.reverse ++ fl) bs' (L.set i.toNat zeroI) (Q.set i.toNat (none, 0)) ∧ (∀ B : List Nat, (∀ f ∈ B, f ∉ x.blk) → cont bs' B = cont bs B) ∧ TrG t r mb hb Q (Q.set i.toNat (none, 0)) w w'))) := by
  refine W53_ok _ _ w _ ((c_tis h).mono ?_)
  rintro _ _ ⟨_, rfl, rfl, rfl⟩
  refine ⟨_, rfl, (c_there h i).mono ?_⟩
  rintro _ _ ⟨_, rfl, rfl, rfl⟩
  refine ⟨_, rfl, c_nb (fun hn => .inl ⟨hn, rfl, rfl⟩) (fun hy => ?_)⟩
  obtain ⟨x, hx, _, h0, h2⟩ := there_get hy
  obtain ⟨s, hs⟩ := h.getQ hx
  have hr := (wf.rng _ x hx).1
  obtain ⟨_, _, o3⟩ := wf.ok _ x hx
  have cell : ∀ w', TrAt N w' t r mb hb F fl bs L Q → w'.cell? ((((⟨t, 0, none⟩ : Addr).add 1).add (i.toNat * 7)).add 4) = some (.int .i64 x.refs) := fun w' h' => by
    rw [ip_eq]; exact h'.cell (k := 4) hx hs (by decide) rfl
  have hbd : 0 ≤ i ∧ i < ((200 : Nat) : Int) := ⟨by omega, by omega⟩
  refine ⟨hbd, _, cell w h, c_eq (fun he => .inr ⟨x, hy, hx, .inl ⟨he, rfl, rfl⟩⟩) (fun hne => ⟨hbd, fun w' => w' = w.drew, rfl, _, fun w' e => (by rw [e]; exact cell _ h.drew), hbd, ?_⟩)⟩
  rw [ip_eq, wrap_in (by omega) (by omega)]
  refine h.drew.setF (k := 4) (x' := { x with refs := x.refs - 1 }) hx (by decide) rfl (fun s => rfl) fun w2 h2' m2 s2 => ⟨hbd, ?_⟩
  have g2 : TrG t r mb hb Q Q w w2 := (TrG.of_below (below_drew _ _)).trans (TrG.of_mod m2)
  have hx2 : (L.set i.toNat { x with refs := x.refs - 1 })[i.toNat]? = some { x with refs := x.refs - 1 } := set_self hx
  rw [ip_eq]
  by_cases hz : x.links = 0 ∧ x.refs = 1
  · refine (c_settle1 h2' hx2 (show x.links = 0 ∧ x.refs - 1 = 0 by omega) (by show x.blk.length ≤ _; omega)).mono ?_
    rintro _ w3 ⟨_, rfl, rfl, bs', h3, hc, g3⟩
    rw [List.set_set] at h3
    exact ⟨rfl, .inr ⟨x, hy, hx, .inr (.inr ⟨hz.1, hz.2, rfl, bs', h3, hc, g2.trans g3⟩)⟩⟩
  · refine (c_settle0 h2' hx2 (show ¬ (x.links = 0 ∧ x.refs - 1 = 0) by omega)).mono ?_
    rintro _ _ ⟨_, rfl, rfl, rfl⟩
    exact ⟨rfl, .inr ⟨x, hy, hx, .inr (.inl ⟨hne, hz, rfl, h2', g2⟩)⟩⟩
end
end Go.Proofs.YthkcdkldpbndnaaDoor
namespace Go.Proofs.YthkcdkldpbndnaaDoor
open Go.RowKit Go.Hx
section
variable {N : Nat} {w : World} {t r mb hb F : Nat} {fl : List Nat} {bs : List UInt8} {L : List InD} {Q : List SH}
set_option maxRecDepth 100000 in
theorem cont_al {f : Nat} (hb : f * 4096 + 4096 ≤ bs.length) {B : List Nat} (hB : f ∉ B) : cont (alB bs f) B = cont bs B := by
  have e := cont_off (bs := bs) (x := List.replicate 4096 0) (f := f) (o := 0) hb (by rw [List.length_replicate]; exact Nat.le_refl _) hB
  rw [Nat.add_zero] at e
  exact e
theorem placeD_le {C : List UInt8} {x : InD} (h16 : x.typ = 1 → x.size % 16 = 0) (ht : x.typ = 1) : placeD C x ≤ x.size ∧ placeD C x % 16 = 0 := by
  unfold placeD
  cases e : firstK (hole C) (nEnt x) with
  | none => exact ⟨Nat.le_refl _, h16 ht⟩
  | some k =>
    have := (firstK_lt e).1
    unfold nEnt at this
    rw [if_pos ht] at this
    show k * 16 ≤ x.size ∧ k * 16 % 16 = 0
    omega
/-- The entry is laid down where there is room. -/
theorem c_laid {w : World} (h : TrAt N w t r mb hb F fl bs L Q) {i p : Nat} {x : InD} (hx : L[i]? = some x) (hp : p + 16 ≤ x.blk.length * 4096) (hbig : x.blk.length ≤ 1000000) (ino : Int) (name : List UInt8) {a1 : Nat} (hk : Blk w a1 (dirC ino name) 23) {K : World → Prop}
    (hK : ∀ w' bs', TrAt N w' t r mb hb F fl bs' (L.set i { x with size := max x.size (p + 16) }) Q → cont bs' x.blk = ovl (cont bs x.blk) p (packB ino name) → (∀ B : List Nat, (∀ f ∈ B, f ∉ x.blk) → cont bs' B = cont bs B) → TrG t r mb hb Q Q w w' → K w') :
    ∃ g5 : Array Value, g5.size = 2 ∧ RowAt w ⟨a1, 0, none⟩ g5 ∧ Calls Tryd.prog 19 #[.agg g5] w fun e w => ∃ (q6b : Option Addr) (q6l q6c : Nat), e = .returned (.slice q6b q6l q6c) ∧
      Calls Tryd.prog 83 #[rp t, .pointer (some (ip t i)), .int .i64 ((p : Nat) : Int), .slice q6b q6l q6c] w fun e w => e = .returned (.tuple #[]) ∧ K w := by
  refine ⟨_, rfl, row_whole hk, (c_Pack ino name w).mono ?_⟩
  rintro _ w1 ⟨_, rfl, q, c, rfl, o1, b1⟩
  have hsep : ∀ a, q = some a → ¬ RS r mb hb a.block := fun a ha hs => by
    have h1 := (o1.lt ha).2
    have h2 := h.ram.lt _ hs
    omega
  refine ⟨q, 16, c, rfl, (c_put (h.below b1) hx o1.rd o1.le hsep hp hbig).mono ?_⟩
  rintro _ w2 ⟨_, rfl, rfl, bs', h2, hc1, hc2, g2⟩
  exact ⟨rfl, hK w2 bs' h2 hc1 hc2 ((TrG.of_below b1).trans g2)⟩
/-- enter, where no frame is taken. -/
theorem c_enter0 (h : TrAt N w t r mb hb F fl bs L Q) (wf : WfL bs L) {i : Nat} {x : InD} (hx : L[i]? = some x) (ht : x.typ = 1) (hp : placeD (cont bs x.blk) x ≠ x.blk.length * 4096) (ino : Int) (name : List UInt8) :
    Calls Tryd.prog 79 #[rp t, .pointer (some (ip t i)), .agg (dirC ino name)] w (Ret fun v w' => v = .tuple #[] ∧ ∃ bs', TrAt N w' t r mb hb F fl bs' (L.set i { x with size := max x.size (placeD (cont bs x.blk) x + 16) }) Q ∧
      cont bs' x.blk = ovl (cont bs x.blk) (placeD (cont bs x.blk) x) (packB ino name) ∧ (∀ B : List Nat, (∀ f ∈ B, f ∉ x.blk) → cont bs' B = cont bs B) ∧ TrG t r mb hb Q Q w w') := by
  obtain ⟨o1, o2, o3⟩ := wf.ok i x hx
  obtain ⟨s, hs⟩ := h.getQ hx
  have hpl := placeD_le (C := cont bs x.blk) o1 ht
  refine W79_ok _ _ _ w _ (newW_intro fun a1 w1 k1 l1 b1 => (c_place (h.below b1) hx o1 o2 (by omega)).mono ?_)
  rintro _ w2 ⟨_, rfl, rfl, b2⟩
  have z1 := b1.size
  have b12 := b1.trans (b2.mono z1)
  have h2 := h.below b12
  refine ⟨_, rfl, fun _ w' => w2 = w', ?_, _, _, _, h2.cell (k := 6) hx hs (by decide) rfl, c_eq (fun he => absurd he ?_) (fun _ => ⟨(), rfl, rfl⟩)⟩
  · rintro _ _ _ rfl
    exact c_laid (p := placeD (cont bs x.blk) x) h2 hx (by omega) (by omega) ino name (below_blk b2 k1.lt k1) fun w' bs' h' c1 c2 g => ⟨rfl, bs', h', c1, c2, (TrG.of_below b12).trans g⟩
  · have e : IntKind.i64.wrap (((x.blk.length : Nat) : Int) * 4096) = ((x.blk.length * 4096 : Nat) : Int) := by rw [wrap_in (by omega) (by omega)]; omega
    rw [e]; omega
theorem getL_set {L : List InD} {i : Nat} {x y : InD} (hx : L[i]? = some x) : (L.set i y)[i]? = some y := by
  have := (List.getElem?_eq_some_iff.1 hx).1
  rw [List.getElem?_set_self this]
set_option maxRecDepth 100000 in
theorem cont_grow {f : Nat} (hb : f * 4096 + 4096 ≤ bs.length) {B : List Nat} (hB : f ∉ B) : cont (alB bs f) (B ++ [f]) = cont bs B ++ List.replicate 4096 0 := by
  have e1 : cont (alB bs f) (B ++ [f]) = cont (alB bs f) B ++ win (alB bs f) (f * 4096) 4096 := by simp [cont]
  rw [e1, cont_al hb hB]
  unfold alB
  have e2 := win_ovl (bs := bs) (x := List.replicate 4096 0) (a := f * 4096) (m := 4096) (o := 0) hb (by rw [List.length_replicate]; exact Nat.le_refl _)
  rw [Nat.add_zero] at e2
  rw [e2]
  have hl : (win bs (f * 4096) 4096).length = 4096 := win_len hb
  unfold ovl
  rw [List.length_replicate, Nat.zero_add, List.take_zero, List.nil_append, List.drop_eq_nil_of_le (by omega), List.append_nil]
/-- enter, where a frame is taken. -/
theorem c_enter1 {f : Nat} (h : TrAt N w t r mb hb F (f :: fl) bs L Q) (hN : N ≤ w.heap.size) (wf : WfL bs L) {i : Nat} {x : InD} (hx : L[i]? = some x) (ht : x.typ = 1) (hp : placeD (cont bs x.blk) x = x.blk.length * 4096) (ino : Int) (name : List UInt8) :
    Calls Tryd.prog 79 #[rp t, .pointer (some (ip t i)), .agg (dirC ino name)] w (Ret fun v w' => v = .tuple #[] ∧ ∃ bs' Q', TrAt N w' t r mb hb F fl bs' (L.set i { x with size := max x.size (placeD (cont bs x.blk) x + 16), blk := x.blk ++ [f] }) Q' ∧
      cont bs' (x.blk ++ [f]) = ovl (cont bs x.blk ++ List.replicate 4096 0) (placeD (cont bs x.blk) x) (packB ino name) ∧ (∀ B : List Nat, (∀ g ∈ B, g ∉ x.blk ∧ g ≠ f) → cont bs' B = cont bs B) ∧ TrG t r mb hb Q Q' w w') := by
  obtain ⟨o1, o2, o3⟩ := wf.ok i x hx
  obtain ⟨s, hs⟩ := h.getQ hx
  have hpl := placeD_le (C := cont bs x.blk) o1 ht
  have hlow := h.ram.low f (List.mem_cons_self ..)
  have hfb : f * 4096 + 4096 ≤ bs.length := by rw [h.ram.len]; omega
  have hfx : f ∉ x.blk := fun hc => (h.held i x hx f hc).2.2 (List.mem_cons_self ..)
  refine W79_ok _ _ _ w _ (newW_intro fun a1 w1 k1 l1 b1 => (c_place (h.below b1) hx o1 o2 (by omega)).mono ?_)
  rintro _ w2 ⟨_, rfl, rfl, b2⟩
  have z1 := b1.size
  have b12 := b1.trans (b2.mono z1)
  have z12 := b12.size
  have h2 := h.below b12
  have ka := below_blk b2 k1.lt k1
  refine ⟨_, rfl, fun _ w' => ∃ Q', TrAt N w' t r mb hb F fl (alB bs f) (L.set i { x with blk := x.blk ++ [f] }) Q' ∧ TrG t r mb hb Q Q' w w' ∧ Blk w' a1 (dirC ino name) 23, ?_, _, _, _, h2.cell (k := 6) hx hs (by decide) rfl, c_eq (fun _ => (c_grow h2 (by omega) hx (by omega)).mono ?_) (fun he => absurd ?_ he)⟩
  · rintro _ _ w3 ⟨Q', h3, g3, k3⟩
    refine c_laid (p := placeD (cont bs x.blk) x) h3 (getL_set hx) (by rw [List.length_append, List.length_singleton]; omega) (by rw [List.length_append, List.length_singleton]; omega) ino name k3 fun w' bs' h' c1 c2 g => ⟨rfl, bs', Q', ?_, ?_, fun B hB => ?_, g3.trans g⟩
    · rw [List.set_set] at h'
      exact h'
    · rw [c1, cont_grow hfb hfx]
    · rw [c2 B fun g hg hc => ?_, cont_al hfb fun hc => (hB f hc).2 rfl]
      rcases List.mem_append.1 hc with e | e
      · exact (hB g hg).1 e
      · exact (hB g hg).2 (List.mem_singleton.1 e)
  · rintro _ w3 ⟨_, rfl, rfl, Q', h3, g3⟩
    refine ⟨_, rfl, (), rfl, Q', h3, (TrG.of_below b12).trans g3, ka.keep (g3.1.block a1 ka.lt fun hs' => ?_)⟩
    have := h.lt a1 hs'
    omega
  · have e : IntKind.i64.wrap (((x.blk.length : Nat) : Int) * 4096) = ((x.blk.length * 4096 : Nat) : Int) := by rw [wrap_in (by omega) (by omega)]; omega
    rw [e]; omega
end
end Go.Proofs.YthkcdkldpbndnaaDoor
namespace Go.Proofs.YthkcdkldpbndnaaDoor
open Go.RowKit Go.Hx
section
variable {N : Nat} {w : World} {t r mb hb F : Nat} {fl : List Nat} {bs : List UInt8} {L : List InD} {Q : List SH}
/-- A new directory's inode, before and after it has its frame. -/
def dir0 : InD := ⟨1, 0, 0, 1, 0, 0, []⟩
def dirI (f : Nat) : InD := ⟨1, 0, 0, 1, 0, 32, [f]⟩
/-- A new directory's bytes. -/
def dirB (i p : Int) : List UInt8 := ovl (List.replicate 4096 0) 0 (packB i [46] ++ packB p [46, 46])
theorem bv_one1 (xs : List UInt8) : ∀ u ∈ bv xs, u.oneCell' = true := fun u hu => by
  simp only [bv, List.mem_map] at hu
  obtain ⟨b, _, rfl⟩ := hu
  rfl
theorem bDir : bldP Tryd.prog 118 [(0, .int .i64 (1 : Int)), (3, .int .i64 (1 : Int))] (.agg #[.int .i64 1, .int .i16 0, .int .i16 0, .int .i64 1, .int .i64 0, .int .i64 0]) := fun w => by kernel_rfl
set_option maxRecDepth 100000 in
theorem c_directory {f : Nat} (h : TrAt N w t r mb hb F (f :: fl) bs L Q) (hN : N ≤ w.heap.size) {i : Nat} {x : InD} (hx : L[i]? = some x) (hz : x.blk = []) (p : Int) :
    Calls Tryd.prog 78 #[rp t, .int .i64 ((i : Nat) : Int), .int .i64 p] w (Ret fun v w' => v = .tuple #[] ∧ ∃ bs' Q', TrAt N w' t r mb hb F fl bs' (L.set i (dirI f)) Q' ∧
      cont bs' [f] = dirB ((i : Nat) : Int) p ∧ (∀ B : List Nat, f ∉ B → cont bs' B = cont bs B) ∧ TrG t r mb hb Q Q' w w') := by
  obtain ⟨s, hs⟩ := h.getQ hx
  have hi := (List.getElem?_eq_some_iff.1 hx).1
  have hL := h.len
  have hlow := h.ram.low f (List.mem_cons_self ..)
  have hfb : f * 4096 + 4096 ≤ bs.length := by rw [h.ram.len]; omega
  refine W78_ok _ _ _ w _ (nl ⟨⟨by omega, by omega⟩, _, bDir, ?_⟩)
  rw [Int.toNat_natCast, ip_eq]
  refine h.setRow (n := 6) (x' := dir0) (l := [.int .i64 1, .int .i16 0, .int .i16 0, .int .i64 1, .int .i64 0, .int .i64 0]) hx hs (by rw [hz]; rfl) rfl (by decide) (by
    show _ = _
    unfold inoV dir0
    rw [hz]; rfl) (fun c hc => List.all_eq_true.1 (show ([.int .i64 1, .int .i16 0, .int .i16 0, .int .i64 1, .int .i64 0, .int .i64 0] : List Value).all one = true by rfl) c hc) fun w1 h1 m1 s1 => ?_
  have hx1 : (L.set i dir0)[i]? = some dir0 := getL_set hx
  refine (c_grow h1 (by omega) hx1 (by show (0 : Nat) ≤ 100000; omega)).mono ?_
  rintro _ w2 ⟨_, rfl, rfl, Q', h2, g2⟩
  rw [List.set_set] at h2
  refine ⟨_, rfl, _, bldD _ _, (c_Pack ((i : Nat) : Int) [46] w2).mono ?_⟩
  rintro _ w3 ⟨_, rfl, q3, c3, rfl, o3, b3⟩
  refine ⟨_, _, _, rfl, _, bldD _ _, (c_Pack p [46, 46] w3).mono ?_⟩
  rintro _ w4 ⟨_, rfl, q4, c4, rfl, o4, b4⟩
  have z3 := b3.size
  have z4 := b4.size
  refine ⟨_, _, _, rfl, (o3.below b4).appR (by omega) o4.rd kBs kB (bv_one1 _) (by omega) (by unfold maxLen; omega) fun q5 c5 w5 o5 b5 _ => ?_⟩
  have z5 := b5.size
  have b25 : Below w2.heap.size w2 w5 := (b3.trans (b4.mono z3)).trans b5
  have h5 := h2.below b25
  have hx5 : (L.set i { dir0 with blk := dir0.blk ++ [f] })[i]? = some { dir0 with blk := dir0.blk ++ [f] } := getL_set hx
  rw [← bv_app] at o5
  have hsep : ∀ a, q5 = some a → ¬ RS r mb hb a.block := fun a ha hs' => by
    have e1 := (o5.lt ha).2
    have e2 := h2.ram.lt _ hs'
    omega
  refine (c_put (o := 0) h5 hx5 o5.rd o5.le hsep (by show 0 + (16 + 16) ≤ 1 * 4096; omega) (by show (1 : Nat) ≤ 1000000; omega)).mono ?_
  rintro _ w6 ⟨_, rfl, rfl, bs', h6, hc1, hc2, g6⟩
  rw [List.set_set] at h6
  refine ⟨rfl, rfl, bs', Q', h6, ?_, fun B hB => ?_, ((TrG.of_mod m1).trans g2).trans ((TrG.of_below b25).trans g6)⟩
  · have e := cont_grow (bs := bs) (B := []) hfb (by simp)
    have e' : cont bs' [f] = ovl (cont (alB bs f) [f]) 0 (packB ((i : Nat) : Int) [46] ++ packB p [46, 46]) := hc1
    rw [e', show cont (alB bs f) [f] = _ from e]
    rfl
  · rw [hc2 B fun g hg hc => ?_, cont_al hfb hB]
    exact hB ((List.mem_singleton.1 hc) ▸ hg)
end
end Go.Proofs.YthkcdkldpbndnaaDoor
namespace Go.Proofs.YthkcdkldpbndnaaDoor
open Go.RowKit Go.Hx
section
variable {N : Nat} {w : World} {t r mb hb F : Nat} {fl : List Nat} {bs : List UInt8} {L : List InD} {Q : List SH}
theorem bTree1 (p : Option Addr) : bldP Tryd.prog 123 [(0, .pointer p)] (.agg (.pointer p :: tabV7 (List.replicate 200 zeroI) (List.replicate 200 (none, 0))).toArray) := fun w => by kernel_rfl
theorem rep_get {α : Type} {n i : Nat} {a x : α} (h : (List.replicate n a)[i]? = some x) : x = a := by
  rw [List.getElem?_replicate] at h
  split at h
  · cases h; rfl
  · cases h
/-- A new tree's table. -/
theorem tr_new (h : RamAt N w r mb hb F fl bs) (hN : N ≤ t) (kt : Blk w t (trV r (List.replicate 200 zeroI) (List.replicate 200 (none, 0))).toArray 123) : TrAt N w t r mb hb F fl bs (List.replicate 200 zeroI) (List.replicate 200 (none, 0)) := by
  refine ⟨kt, hN, List.length_replicate .., List.length_replicate .., h, fun i x s hx hs => ?_, fun i j s u _ hs _ a b ha => ?_, fun i x hx f hf => ?_, ?_⟩
  · rw [rep_get hx, rep_get hs]
    exact Ow.nil ..
  · rw [rep_get hs] at ha; cases ha
  · rw [rep_get hx] at hf; cases hf
  · rw [show ((List.replicate 200 zeroI).map InD.blk).flatten = [] from rfl]
    exact List.nodup_nil
theorem c_TNew0 (h : RamAt N w r mb hb F [] bs) : Calls Tryd.prog 45 #[rp r] w (Ret fun v w' => v = .tuple #[.pointer none, .int .i64 189] ∧ w = w') := by
  have h1 := h.F1
  refine W45_ok _ w _ ((c_rFrames h).mono ?_)
  rintro _ _ ⟨_, rfl, rfl, rfl⟩
  refine ⟨_, rfl, c_eq (fun e => by omega) fun _ => (c_rCount h).mono ?_⟩
  rintro _ _ ⟨_, rfl, rfl, rfl⟩
  exact ⟨_, rfl, c_eq (fun _ => ⟨rfl, rfl⟩) fun e => absurd rfl e⟩
/-- New: a tree whose one inode is the root directory. -/
theorem c_TNew {f : Nat} (h : RamAt N w r mb hb F (f :: fl) bs) (hN : N ≤ w.heap.size) : Calls Tryd.prog 45 #[rp r] w (Ret fun v w' => ∃ a bs' Q', v = .tuple #[rp a, .int .i64 0] ∧ w.heap.size ≤ a ∧ TrAt N w' a r mb hb F fl bs' ((List.replicate 200 zeroI).set 1 (dirI f)) Q' ∧
    cont bs' [f] = dirB 1 1 ∧ Kp (RS r mb hb) w.heap.size w w') := by
  have h1 := h.F1
  refine W45_ok _ w _ ((c_rFrames h).mono ?_)
  rintro _ _ ⟨_, rfl, rfl, rfl⟩
  refine ⟨_, rfl, c_eq (fun e => by omega) fun _ => (c_rCount h).mono ?_⟩
  rintro _ _ ⟨_, rfl, rfl, rfl⟩
  refine ⟨_, rfl, c_eq (fun e => by rw [List.length_cons] at e; omega) fun _ => ⟨_, bTree1 _, newW_intro fun a w1 k1 l1 b1 => ?_⟩⟩
  have z1 := b1.size
  have h2 := tr_new (h.below b1) (by omega) k1
  refine (c_directory h2 (by omega) (i := 1) (x := zeroI) rfl rfl 1).mono ?_
  rintro _ w2 ⟨_, rfl, rfl, bs', Q', h3, hc, _, g⟩
  refine ⟨rfl, a, bs', Q', rfl, l1, h3, hc, ?_⟩
  have e1 := Kp.of_below (S := RS r mb hb) b1 (Nat.le_refl _)
  refine ⟨g.1.os.trans e1.os, g.1.tape.trans e1.tape, g.1.output.trans e1.output, Nat.le_trans z1 g.1.size, fun k hk hs => (g.1.block k (by omega) ?_).trans (e1.block k hk hs)⟩
  rintro (rfl | hs' | ⟨j, u, b, hu, hb', _⟩)
  · omega
  · exact hs hs'
  · rw [rep_get hu] at hb'; cases hb'
end
end Go.Proofs.YthkcdkldpbndnaaDoor
namespace Go.Proofs.YthkcdkldpbndnaaDoor
open Go.RowKit Go.Hx
section
variable {N : Nat} {w : World} {t r mb hb F : Nat} {fl : List Nat} {bs : List UInt8} {L : List InD} {Q : List SH}
def stC5 (a b c d e : Int) : Array Value := #[.int .i32 a, .int .u32 b, .int .i16 c, .int .i16 d, .int .u64 e]
def statD (L : List InD) (i : Int) : Array Value := if thereD L i = true then match L[i.toNat]? with
  | some x => stC5 1 (IntKind.u32.wrap i) (IntKind.i16.wrap x.typ) (IntKind.i16.wrap x.links) (IntKind.u64.wrap ((x.size : Nat) : Int))
  | none => stC5 0 0 0 0 0 else stC5 0 0 0 0 0
theorem bSt0 : bldP Tryd.prog 102 [] (.agg (stC5 0 0 0 0 0)) := fun w => by kernel_rfl
theorem bSt (a b c d e : Int) : bldP Tryd.prog 102 [(0, .int .i32 a), (1, .int .u32 b), (2, .int .i16 c), (3, .int .i16 d), (4, .int .u64 e)] (.agg (stC5 a b c d e)) := fun w => by kernel_rfl
theorem c_tStat (h : TrAt N w t r mb hb F fl bs L Q) (i : Int) : Calls Tryd.prog 54 #[rp t, .int .i64 i] w (Ret fun v w' => v = .agg (statD L i) ∧ Below w.heap.size w w') := by
  refine W54_ok _ _ w _ (newW_intro fun a1 w1 k1 l1 b1 => ⟨fun t' w' => t' = (!thereD L i, ()) ∧ w1 = w', ?_, (c_tis (h.below b1)).mono ?_⟩)
  · rintro _ _ _ ⟨rfl, rfl⟩
    have z1 := b1.size
    have a1lt := k1.lt
    cases e : thereD L i with
    | false =>
      refine ⟨_, bSt0, stW_intro k1 fun w2 k2 m2 s2 => ⟨_, rfl, row_whole k2, ?_, b1.trans (m2.below z1 l1)⟩⟩
      unfold statD
      rw [e]; rfl
    | true =>
      have hi := thereD_lt e
      obtain ⟨x, hx⟩ := h.getL (i := i.toNat) (by omega)
      refine ⟨⟨by omega, by omega⟩, (nodeC x).toArray, rfl, by rw [ip_eq]; exact (h.below b1).node hx, newW_intro fun a8 w2 k2 l2 b2 => ?_⟩
      have z2 := b2.size
      have k12 := below_blk b2 k1.lt k1
      refine stW_intro k2 fun w3 k3 m3 s3 => ⟨_, k3.cell (i := 0) rfl, _, by rw [Addr.add_lit]; exact k3.cell rfl, _, by rw [Addr.add_lit]; exact k3.cell rfl, _, bSt _ _ _ _ _, ?_⟩
      have k13 := m3.blk (show a1 ≠ a8 by omega) k12
      refine stW_intro k13 fun w4 k4 m4 s4 => ⟨_, rfl, row_whole k4, ?_, ((b1.trans (b2.mono z1)).trans (m3.below (by omega) (by omega))).trans (m4.below (by omega) l1)⟩
      unfold statD
      rw [e, hx]; rfl
  · rintro _ _ ⟨_, rfl, rfl, rfl⟩
    refine ⟨_, rfl, (c_there (h.below b1) i).mono ?_⟩
    rintro _ _ ⟨_, rfl, rfl, rfl⟩
    exact ⟨_, rfl, (_, ()), rfl, rfl, rfl⟩
end
end Go.Proofs.YthkcdkldpbndnaaDoor
namespace Go.Proofs.YthkcdkldpbndnaaDoor
open Go.RowKit Go.Hx
section
variable {N : Nat} {w : World} {t r mb hb F : Nat} {fl : List Nat} {bs : List UInt8} {L : List InD} {Q : List SH}
def lookC (i : Int) (x : InD) (q : Option Addr) (c : Nat) : Array Value := #[.int .i64 i, .int .i64 x.typ, .int .i16 x.maj, .int .i16 x.min, .int .i64 x.links, .int .i64 x.refs, .int .i64 ((x.size : Nat) : Int), .slice q x.blk.length c]
theorem bLk0 : bldP Tryd.prog 50 [] (.agg (lookC 0 zeroI none 0)) := fun w => by kernel_rfl
theorem bLk (i a b c d e f : Int) : bldP Tryd.prog 50 [(0, .int .i64 i), (1, .int .i64 a), (2, .int .i16 b), (3, .int .i16 c), (4, .int .i64 d), (5, .int .i64 e), (6, .int .i64 f)] (.agg #[.int .i64 i, .int .i64 a, .int .i16 b, .int .i16 c, .int .i64 d, .int .i64 e, .int .i64 f, .slice none 0 0]) := fun w => by kernel_rfl
theorem fv_one (l : List Nat) : ∀ u ∈ fv l, u.oneCell' = true := fun u hu => by
  simp only [fv, List.mem_map] at hu
  obtain ⟨b, _, rfl⟩ := hu
  rfl
/-- An inode's row, whole. -/
theorem TrAt.rowI (h : TrAt N w t r mb hb F fl bs L Q) {i : Nat} {x : InD} {s : SH} (hx : L[i]? = some x) (hs : Q[i]? = some s) : RowAt w (ip t i) (inoV x s).toArray := by
  refine row_blk h.kt fun j hj => ?_
  have hj : j < 7 := hj
  rw [List.getElem?_toArray, List.getElem?_toArray, tr_get hx hs hj]
def LookQ (L : List InD) (i : Int) (w : World) (v : Value) (w' : World) : Prop := Below w.heap.size w w' ∧ if thereD L i = true then ∃ x q c, L[i.toNat]? = some x ∧ v = .agg (lookC i x q c) ∧ Ow 100 1 w.heap.size w' q x.blk.length c (fv x.blk) else v = .agg (lookC 0 zeroI none 0)
set_option maxRecDepth 100000 in
theorem c_tLook (h : TrAt N w t r mb hb F fl bs L Q) (wf : WfL bs L) (i : Int) : Calls Tryd.prog 27 #[rp t, .int .i64 i] w (Ret (LookQ L i w)) := by
  refine W27_ok _ _ w _ (newW_intro fun a1 w1 k1 l1 b1 => ⟨fun t' w' => t' = (!thereD L i, ()) ∧ w1 = w', ?_, (c_tis (h.below b1)).mono ?_⟩)
  · rintro _ _ _ ⟨rfl, rfl⟩
    have z1 := b1.size
    have a1lt := k1.lt
    cases e : thereD L i with
    | false =>
      refine ⟨_, bLk0, stW_intro k1 fun w2 k2 m2 s2 => ⟨_, rfl, row_whole k2, b1.trans (m2.below z1 l1), ?_⟩⟩
      rw [e]
      exact rfl
    | true =>
      have hi := thereD_lt e
      obtain ⟨x, hx⟩ := h.getL (i := i.toNat) (by omega)
      obtain ⟨s, hs⟩ := h.getQ hx
      obtain ⟨o1, o2, o3⟩ := wf.ok _ x hx
      have h1 := h.below b1
      refine ⟨⟨by omega, by omega⟩, (inoV x s).toArray, rfl, by rw [ip_eq]; exact h1.rowI hx hs, newW_intro fun a8 w2 k2 l2 b2 => ?_⟩
      have z2 := b2.size
      have k12 := below_blk b2 k1.lt k1
      refine stW_intro k2 fun w3 k3 m3 s3 => ⟨_, k3.cell (i := 0) rfl, _, by rw [Addr.add_lit]; exact k3.cell rfl, _, by rw [Addr.add_lit]; exact k3.cell rfl, _, by rw [Addr.add_lit]; exact k3.cell rfl, _, by rw [Addr.add_lit]; exact k3.cell rfl, _, by rw [Addr.add_lit]; exact k3.cell rfl, _, bLk _ _ _ _ _ _ _, newW_intro fun a16 w4 k4 l4 b4 => ?_⟩
      have z4 := b4.size
      have k13 := m3.blk (show a1 ≠ a8 by omega) k12
      have k14 := below_blk b4 k13.lt k13
      have k84 := below_blk b4 k3.lt k3
      have b34 : Below w1.heap.size w1 w4 := (b2.trans (m3.below (by omega) (by omega))).trans (b4.mono (by omega))
      have h4 := h1.below b34
      refine stW_intro k4 fun w5 k5 m5 s5 => ?_
      have k85 := m5.blk (show a8 ≠ a16 by have := k3.lt; omega) k84
      have k15 := m5.blk (show a1 ≠ a16 by have := k3.lt; omega) k14
      have b15 : Below w1.heap.size w1 w5 := b34.trans (m5.below (by omega) (by omega))
      have z5 := b15.size
      have h5 := h1.below b15
      refine ⟨none, 0, 0, by rw [Addr.add_lit]; exact k5.cell rfl, s.1, x.blk.length, s.2, by rw [Addr.add_lit]; exact k85.cell rfl, ?_⟩
      have fin : ∀ (q : Option Addr) (c : Nat) (w6 : World), Ow 100 1 w5.heap.size w6 q x.blk.length c (fv x.blk) → Below w5.heap.size w5 w6 → stC ((⟨a16, 0, none⟩ : Addr).add 7) (.slice q x.blk.length c) w6 fun w' => ∃ g20 : Array Value, g20.size = 8 ∧ RowAt w' ⟨a16, 0, none⟩ g20 ∧ stA 8 ⟨a1, 0, none⟩ g20 w' fun w' => ∃ g21 : Array Value, g21.size = 8 ∧ RowAt w' ⟨a1, 0, none⟩ g21 ∧ LookQ L i w (.agg g21) w' := by
        intro q c w6 o6 b6
        have z6 := b6.size
        have l16 := k5.lt
        have l8 := k3.lt
        rw [Addr.add_lit]
        refine stC_intro (below_blk b6 k5.lt k5) (show 7 < 8 by decide) fun w7 k7 m7 s7 => ⟨_, rfl, row_whole k7, ?_⟩
        refine stW_intro (m7.blk (show a1 ≠ a16 by omega) (below_blk b6 k15.lt k15)) fun w8 k8 m8 s8 => ⟨_, rfl, row_whole k8, (((b1.trans (b15.mono z1)).trans (b6.mono (by omega))).trans (m7.below (by omega) (by omega))).trans (m8.below (by omega) l1), ?_⟩
        rw [if_pos e]
        refine ⟨x, q, c, hx, rfl, (o6.keep fun a ha => ?_).mono (Nat.le_trans z1 z5)⟩
        obtain ⟨e1, e2⟩ := o6.lt ha
        exact (m8.block _ (by omega) (by omega)).trans (m7.block _ (by omega) (by omega))
      refine apn_copy (h5.ow _ x s hx hs).rd (.inl rfl) kUs kU (fv_one _) (by omega) (by unfold maxLen; omega) (fun h0 => ?_) fun q c w6 o6 b6 _ => fin q c w6 o6 b6
      have e0 : x.blk = [] := List.length_eq_zero_iff.1 h0
      have := fin none 0 w5 (by rw [e0]; exact Ow.nil ..) ⟨rfl, rfl, rfl, Nat.le_refl _, fun _ _ => rfl⟩
      rw [h0] at this
      exact this
  · rintro _ _ ⟨_, rfl, rfl, rfl⟩
    refine ⟨_, rfl, (c_there (h.below b1) i).mono ?_⟩
    rintro _ _ ⟨_, rfl, rfl, rfl⟩
    exact ⟨_, rfl, (_, ()), rfl, rfl, rfl⟩
end
end Go.Proofs.YthkcdkldpbndnaaDoor
namespace Go.Proofs.YthkcdkldpbndnaaDoor
open Go.RowKit Go.Hx
theorem kDs : slT Tryd.prog 132 23 = true := by kernel_rfl
theorem kD : infB Tryd.prog 23 2 24 = true := by kernel_rfl
/-- The entries below k that stand. -/
def listD (C : List UInt8) : Nat → List (Int × List UInt8)
  | 0 => []
  | k + 1 => if (entD (win C (k * 16) 16)).1 ≠ 0 then listD C k ++ [entD (win C (k * 16) 16)] else listD C k
theorem listD_le (C : List UInt8) : ∀ k, (listD C k).length ≤ k
  | 0 => Nat.le_refl _
  | k + 1 => by
    have := listD_le C k
    unfold listD
    split
    · rw [List.length_append, List.length_singleton]; omega
    · omega
def dvs (l : List (Int × List UInt8)) : List Value := (l.map fun e => (dirC e.1 e.2).toList).flatten
theorem dvs_snoc (l : List (Int × List UInt8)) (e : Int × List UInt8) : dvs (l ++ [e]) = dvs l ++ (dirC e.1 e.2).toList := by simp [dvs]
section
variable {N : Nat} {w : World} {t r mb hb F : Nat} {fl : List Nat} {bs : List UInt8} {L : List InD} {Q : List SH}
/-- What List answers. -/
def lstD (bs : List UInt8) (L : List InD) (i : Int) : List (Int × List UInt8) := if thereD L i = true then match L[i.toNat]? with
  | some x => listD (cont bs x.blk) (nEnt x)
  | none => [] else []
set_option maxRecDepth 100000 in
theorem c_tList (h : TrAt N w t r mb hb F fl bs L Q) (wf : WfL bs L) (i : Int) : Calls Tryd.prog 55 #[rp t, .int .i64 i] w
    (Ret fun v w' => ∃ q c, v = .slice q (lstD bs L i).length c ∧ Ow 23 2 w.heap.size w' q (lstD bs L i).length c (dvs (lstD bs L i)) ∧ Below w.heap.size w w') := by
  refine W55_ok _ _ w _ ((c_tis h).mono ?_)
  rintro _ _ ⟨_, rfl, rfl, rfl⟩
  refine ⟨_, rfl, (c_there h i).mono ?_⟩
  rintro _ _ ⟨_, rfl, rfl, rfl⟩
  refine ⟨_, rfl, ?_⟩
  cases e : thereD L i with
  | false =>
    have e0 : lstD bs L i = [] := by unfold lstD; rw [e]; rfl
    rw [e0]
    exact ⟨none, 0, rfl, Ow.nil .., ⟨rfl, rfl, rfl, Nat.le_refl _, fun _ _ => rfl⟩⟩
  | true =>
    have hi := thereD_lt e
    obtain ⟨x, hx⟩ := h.getL (i := i.toNat) (by omega)
    obtain ⟨o1, o2, o3⟩ := wf.ok _ x hx
    have e0 : lstD bs L i = listD (cont bs x.blk) (nEnt x) := by unfold lstD; rw [e, hx]; rfl
    rw [e0]
    have hne : nEnt x ≤ 16384 := by
      unfold nEnt
      split <;> omega
    rw [Bool.not_true, cond_false]
    refine newW_intro fun a3 w3 k3 l3 b3 => ⟨⟨by omega, by omega⟩, ?_⟩
    rw [ip_eq]
    refine c_entries _ _ fun c1 c2 w5 kc1 kc2 lc1 lc2 b5 => ?_
    have z3 := b3.size
    have z5 := b5.size
    have y3 := k3.lt
    have yc2 := kc2.lt
    have b05 : Below w.heap.size w w5 := b3.trans (b5.mono z3)
    have k35 : Blk w5 a3 _ _ := below_blk b5 y3 k3
    refine rg_entries (N := N) (t := t) (r := r) (mb := mb) (hb := hb) (F := F) (fl := fl) (bs := bs) (L := L) (Q := Q) (i := i.toNat) (x := x)
      (J := fun k W => Below w.heap.size w W ∧ (∃ q c, Blk W a3 #[.slice q (listD (cont bs x.blk) k).length c] 132 ∧ Ow 23 2 (w5.heap.size + 2) W q (listD (cont bs x.blk) k).length c (dvs (listD (cont bs x.blk) k))) ∧ Blk W c1 #[.pointer (some ⟨t, 0, none⟩)] 40 ∧ Blk W c2 #[.pointer (some (ip t i.toNat))] 165 ∧ W.heap[w5.heap.size]? = some (.deferred (some [])) ∧ w5.heap.size + 2 ≤ W.heap.size)
      (Z := fun _ => False) hx o1 o2 (by omega) ?_ ?_ ?_ ?_ ?_ ?_ ?_ ?_ ?_
    · rintro k W ⟨b, _, h1, h2, _, h3⟩
      exact ⟨h.below b, h1.cell rfl, h2.cell rfl, h3⟩
    · rintro k W W' ⟨b, ⟨q, c, h1, h2⟩, h5, h6, h7, h8⟩ b'
      exact ⟨b.trans (b'.mono b.size), ⟨q, c, below_blk b' h1.lt h1, h2.below b'⟩, below_blk b' h5.lt h5, below_blk b' h6.lt h6, (b'.block _ (by omega)).trans h7, by have := b'.size; omega⟩
    · rintro k W o ⟨b, ⟨q, c, h1, h2⟩, h5, h6, h7, h8⟩
      exact ⟨below_put b (Nat.le_refl _) (by omega), ⟨q, c, blk_put h1 (by omega), h2.keep fun a ha => World.putObj_heap_other (by have := (h2.lt ha).2; omega)⟩, blk_put h5 (by omega), blk_put h6 (by omega), (World.putObj_heap_other (by omega)).trans h7, by simpa using h8⟩
    · exact fun _ _ hf => hf
    · exact fun _ hf => hf.elim
    · intro o
      have e2 : (w5.alloc (.deferred (some []))).heap.size = w5.heap.size + 1 := by simp
      have e3 : ((w5.alloc (.deferred (some []))).alloc o).heap.size = w5.heap.size + 2 := by simp
      have ba := below_new w5 (.deferred (some []))
      have bb := below_new (w5.alloc (.deferred (some []))) o
      have bab := ba.trans (bb.mono (by omega : w5.heap.size ≤ _))
      exact ⟨b05.trans (bab.mono b05.size), ⟨none, 0, below_blk bab k35.lt k35, Ow.nil ..⟩, below_blk bab kc1.lt kc1, below_blk bab kc2.lt kc2, (bb.block _ (by omega)).trans (heap_alloc_new w5 _), by omega⟩
    · rintro k W bg kn kr kx B hk ⟨b, ⟨q, c, h1, h2⟩, h5, h6, h7, h8⟩ hBs hbg hkn hkr
      refine newW_intro fun a7 w7 k7 l7 b7 => stW_intro k7 fun w8 k8 m8 s8 => hbg _ _ (b7.trans (m8.below b7.size l7)) fun w9 hj9 m9 s9 hb9 => ?_
      obtain ⟨g, ⟨q', c', g1, g2⟩, g5, g6, g7, g8⟩ := hj9
      have hk8 := k8.lt
      have k9 := m9.blk (by omega : a7 ≠ w5.heap.size + 1) k8
      have hle := listD_le (cont bs x.blk) k
      refine ⟨_, k9.cell rfl, c_ne (fun hne' => ⟨q', _, c', g1.cell rfl, _, rfl, row_whole k9, ?_⟩) (fun he => hkn _ ⟨g, ?_, g5, g6, g7, g8⟩ hb9)⟩
      · have el : listD (cont bs x.blk) (k + 1) = listD (cont bs x.blk) k ++ [entD (win (cont bs x.blk) (k * 16) 16)] := by
          show (if _ then _ else _) = _
          rw [if_pos hne']
        refine g2.push (by omega) kDs kD rfl (by decide) (fun u hu => ?_) (by omega) (by unfold maxLen; omega) fun q2 c2 w10 o10 b10 gr => ?_
        · have hu : u ∈ [Value.int .i64 (entD (win (cont bs x.blk) (k * 16) 16)).1, Value.string (str (entD (win (cont bs x.blk) (k * 16) 16)).2)] := hu
          rcases List.mem_cons.1 hu with rfl | hu
          · rfl
          · rw [List.mem_singleton.1 hu]; rfl
        · have h3' : a3 < w5.heap.size := by omega
          have z10 := b10.size
          refine stC_intro (below_blk b10 (by omega) g1) (show 0 < 1 by decide) fun w11 k11 m11 s11 => hkn w11 ⟨(g.trans (b10.mono (by omega))).trans (m11.below (by omega) l3), ⟨q2, c2, ?_, ?_⟩, m11.blk (by omega) (below_blk b10 (by omega) g5), m11.blk (by omega) (below_blk b10 (by omega) g6), (m11.block _ (by omega) (by omega)).trans ((b10.block _ (by omega)).trans g7), by omega⟩ (hBs _ _ hb9 ((m11.block _ (by omega) (by omega)).trans (b10.block _ (by omega))))
          · rw [el, List.length_append]
            exact k11
          · rw [el, List.length_append, dvs_snoc]
            exact o10.keep fun a ha => m11.block _ (o10.lt ha).1 (by have := (o10.lt ha).2; omega)
      · have el : listD (cont bs x.blk) (k + 1) = listD (cont bs x.blk) k := by
          show (if _ then _ else _) = _
          rw [if_neg (fun hc => hc he)]
        rw [el]
        exact ⟨q', c', g1, g2⟩
    · rintro W ⟨b, ⟨q, c, h1, h2⟩, h5, h6, h7, h8⟩
      exact ⟨q, _, c, h1.cell rfl, h7, q, c, rfl, (h2.keep fun a ha => World.putObj_heap_other (by have := (h2.lt ha).2; omega)).mono (by omega), below_put b (Nat.le_refl _) (by omega)⟩
    · exact fun _ hf => hf.elim
end
end Go.Proofs.YthkcdkldpbndnaaDoor
