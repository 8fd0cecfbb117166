/- Words for slices: what is read through one, a slice of one's own that grows, bytes. No condition. -/
import Derived.Test.YthkcdkldpbndnaaDoorHw
import Derived.OpenShut
set_option linter.unusedVariables false
namespace Go.Hx
open Go.RowKit

theorem add_block (a : Addr) (n : Nat) : (a.add n).block = a.block := by
  unfold Addr.add
  split <;> rfl
theorem RowAt.keep {w w' : World} {a : Addr} {cs : Array Value} (h : RowAt w a cs) (hb : w'.heap[a.block]? = w.heap[a.block]?) : RowAt w' a cs := fun j v hv => by
  have := h j v hv
  unfold World.cell? at *
  have e : (a.add j).block = a.block := add_block a j
  rw [e] at this ⊢
  rw [hb]; exact this
theorem RowAt.lt {w : World} {a : Addr} {cs : Array Value} (h : RowAt w a cs) (hn : cs ≠ #[]) : a.block < w.heap.size := by
  have h0 : 0 < cs.size := by
    rcases Nat.eq_zero_or_pos cs.size with e | e
    · exact absurd (Array.eq_empty_of_size_eq_zero e) hn
    · exact e
  have := h 0 cs[0] (Array.getElem?_eq_getElem h0)
  unfold World.cell? at this
  rw [add_block] at this
  cases e : w.heap[a.block]? with
  | none => rw [e] at this; cases this
  | some o => exact (Array.getElem?_eq_some_iff.1 e).1
/-- What is read through a slice: n elements of k cells. -/
structure Rd (k : Nat) (w : World) (q : Option Addr) (n : Nat) (vs : List Value) : Prop where
  len : vs.length = n * k
  nil : q = none → n = 0
  row : ∀ a, q = some a → RowAt w a vs.toArray
theorem Rd.lt {k : Nat} {w : World} {q : Option Addr} {n : Nat} {vs : List Value} (h : Rd k w q n vs) {a : Addr} (hq : q = some a) (hn : vs ≠ []) : a.block < w.heap.size :=
  (h.row a hq).lt fun e => hn (by simpa using e)
theorem Rd.keep {k : Nat} {w w' : World} {q : Option Addr} {n : Nat} {vs : List Value} (h : Rd k w q n vs) (hb : ∀ a, q = some a → vs ≠ [] → w'.heap[a.block]? = w.heap[a.block]?) : Rd k w' q n vs :=
  ⟨h.len, h.nil, fun a hq => by
    cases vs with
    | nil => intro j v hv; simp at hv
    | cons x r => exact (h.row a hq).keep (hb a hq (by simp))⟩
theorem Rd.below {k : Nat} {w w' : World} {q : Option Addr} {n : Nat} {vs : List Value} (h : Rd k w q n vs) (b : Below w.heap.size w w') : Rd k w' q n vs :=
  h.keep fun a hq hn => b.block _ (h.lt hq hn)
theorem Rd.belowN {k B : Nat} {w w' : World} {q : Option Addr} {n : Nat} {vs : List Value} (h : Rd k w q n vs) (b : Below B w w') (hB : ∀ a, q = some a → vs ≠ [] → a.block < B) : Rd k w' q n vs :=
  h.keep fun a hq hn => b.block _ (hB a hq hn)
theorem Rd.drew {k : Nat} {w : World} {q : Option Addr} {n : Nat} {vs : List Value} (h : Rd k w q n vs) : Rd k w.drew q n vs := h.keep fun _ _ _ => rfl
theorem Rd.empty (k : Nat) (w : World) (q : Option Addr) : Rd k w q 0 [] := ⟨by simp, fun _ => rfl, fun a _ j v hv => by simp at hv⟩
theorem Rd.cell {k : Nat} {w : World} {q : Option Addr} {n : Nat} {vs : List Value} (h : Rd k w q n vs) {a : Addr} (hq : q = some a) {i : Nat} {v : Value} (hv : vs[i]? = some v) : w.cell? (a.add i) = some v :=
  h.row a hq i v (by simpa using hv)
/-- An element's cell. -/
theorem Rd.at1 {w : World} {q : Option Addr} {n : Nat} {vs : List Value} (h : Rd 1 w q n vs) {i : Nat} (hi : i < n) {K : Addr → Prop}
    (hK : ∀ a v, q = some a → vs[i]? = some v → w.cell? (a.add (i * 1)) = some v → K a) : nlW q fun a => (0 ≤ (i : Int) ∧ (i : Int) < ((n : Nat) : Int)) ∧ K a := by
  cases q with
  | none => have := h.nil rfl; omega
  | some a =>
    have hl := h.len
    have hv : vs[i]? = some (vs[i]'(by omega)) := List.getElem?_eq_getElem _
    exact ⟨by omega, hK a _ rfl hv (by rw [Nat.mul_one]; exact h.cell rfl hv)⟩
/-- An element's cells. -/
theorem Rd.atK {k : Nat} {w : World} {q : Option Addr} {n : Nat} {vs : List Value} (h : Rd k w q n vs) {i : Nat} (hi : i < n) {K : Addr → Prop}
    (hK : ∀ a, q = some a → RowAt w (a.add (i * k)) ((vs.drop (i * k)).take k).toArray → ((vs.drop (i * k)).take k).length = k → K a) : nlW q fun a => (0 ≤ (i : Int) ∧ (i : Int) < ((n : Nat) : Int)) ∧ K a := by
  cases q with
  | none => have := h.nil rfl; omega
  | some a =>
    have hl := h.len
    have hik : i * k + k ≤ n * k := by
      have : (i + 1) * k ≤ n * k := Nat.mul_le_mul_right _ hi
      rw [Nat.succ_mul] at this; exact this
    refine ⟨by omega, hK a rfl (fun j v hv => ?_) (by rw [List.length_take, List.length_drop]; omega)⟩
    rw [List.getElem?_toArray] at hv
    have hj : j < k := by
      have := (List.getElem?_eq_some_iff.1 hv).1
      rw [List.length_take] at this; omega
    rw [List.getElem?_take_of_lt hj, List.getElem?_drop] at hv
    rw [Addr.add_add]
    exact h.cell rfl hv
/-! ### Bytes -/
def bv (xs : List UInt8) : List Value := xs.map fun b => .int .u8 ((b.toNat : Nat) : Int)
theorem bv_length (xs : List UInt8) : (bv xs).length = xs.length := by simp [bv]
theorem bv_get (xs : List UInt8) (i : Nat) : (bv xs)[i]? = (xs[i]?).map fun b => .int .u8 ((b.toNat : Nat) : Int) := by simp [bv]
theorem bv_set (xs : List UInt8) (i : Nat) (b : UInt8) : (bv xs).set i (.int .u8 ((b.toNat : Nat) : Int)) = bv (xs.set i b) := by simp [bv, List.map_set]
theorem bv_app (xs ys : List UInt8) : bv (xs ++ ys) = bv xs ++ bv ys := by simp [bv]
theorem bv_inj : ∀ {xs ys : List UInt8}, bv xs = bv ys → xs = ys
  | [], [], _ => rfl
  | [], _ :: _, h => by simp [bv] at h
  | _ :: _, [], h => by simp [bv] at h
  | x :: xs, y :: ys, h => by
    simp only [bv, List.map_cons, List.cons.injEq, Value.int.injEq, true_and] at h
    have h1 : x = y := UInt8.toNat_inj.1 (by omega)
    rw [h1, bv_inj (xs := xs) (ys := ys) h.2]
theorem bv_one (xs : List UInt8) : ∀ u ∈ bv xs, one u = true := fun u hu => by
  simp only [bv, List.mem_map] at hu
  obtain ⟨b, _, rfl⟩ := hu
  rfl
theorem zarr (n : Nat) (z : Value) : (Array.range n).map (fun x => (#[z] : Array Value)[x % (#[z] : Array Value).size]!) = (List.replicate n z).toArray := by
  apply Array.ext
  · simp
  · intro i h1 h2
    simp [Nat.mod_one]
/-- A byte of a slice. -/
theorem rd_byte {w : World} {q : Option Addr} {n : Nat} {xs : List UInt8} (h : Rd 1 w q n (bv xs)) {i : Nat} (hi : i < n) {K : Int → Prop} (hK : ∀ b, xs[i]? = some b → K ((b.toNat : Nat) : Int)) :
    nlW q fun a => (0 ≤ (i : Int) ∧ (i : Int) < ((n : Nat) : Int)) ∧ ∃ m : Int, w.cell? (a.add ((i : Int).toNat * 1)) = some (.int .u8 m) ∧ K m :=
  h.at1 hi fun a v _ hv hc => by
    rw [bv_get] at hv
    cases e : xs[i]? with
    | none => rw [e] at hv; cases hv
    | some b =>
      rw [e] at hv
      simp only [Option.map_some, Option.some.injEq] at hv
      exact ⟨_, by rw [Int.toNat_natCast, hc, ← hv], hK b e⟩
theorem Blk.ty {w : World} {b : Nat} {cs cs' : Array Value} {t t' : TypeId} (h : Blk w b cs t) (h' : Blk w b cs' t') : t = t' := by
  obtain ⟨lo, hj, h, _⟩ := h
  obtain ⟨lo', hj', h', _⟩ := h'
  rw [h] at h'
  cases h'
  rfl
theorem Blk.keep {w w' : World} {b : Nat} {cs : Array Value} {t : TypeId} (h : Blk w b cs t) (hb : w'.heap[b]? = w.heap[b]?) : Blk w' b cs t := by
  obtain ⟨lo, hj, h, hl⟩ := h
  exact ⟨lo, hj, hb.trans h, hl⟩
/-- All rows of the type t from the block N on are as they were. -/
def UpT (t N : Nat) (w w' : World) : Prop := ∀ (k : Nat) (cs : Array Value), N ≤ k → Blk w k cs t → w'.heap[k]? = w.heap[k]?
theorem UpT.of_below {t N : Nat} {w w' : World} (h : Below w.heap.size w w') : UpT t N w w' := fun k cs _ hb => h.block k hb.lt
theorem UpT.of_mod {t N b : Nat} {w w' : World} (h : Mod b w w') {cs : Array Value} {t' : TypeId} (hb : Blk w b cs t') (ht : t' ≠ t) : UpT t N w w' := fun k cs' _ hk => h.block k hk.lt fun e => by
  subst e; exact ht (hb.ty hk)
theorem UpT.of_low {t N b : Nat} {w w' : World} (h : Mod b w w') (hb : b < N) : UpT t N w w' := fun k cs' hn hk => h.block k hk.lt (by omega)
/-- .. a slice, whose row has the type t and lies from N on. -/
def RdT (t k N : Nat) (w : World) (q : Option Addr) (n : Nat) (vs : List Value) : Prop := Rd k w q n vs ∧ ∀ a, q = some a → N ≤ a.block ∧ ∃ cs, Blk w a.block cs t
theorem RdT.up {t k N : Nat} {w w' : World} {q : Option Addr} {n : Nat} {vs : List Value} (h : RdT t k N w q n vs) (hu : UpT t N w w') : RdT t k N w' q n vs :=
  ⟨h.1.keep fun a ha _ => by obtain ⟨h1, cs, h2⟩ := h.2 a ha; exact hu _ cs h1 h2, fun a ha => by
    obtain ⟨h1, cs, h2⟩ := h.2 a ha
    exact ⟨h1, cs, h2.keep (hu _ cs h1 h2)⟩⟩
theorem RdT.keep {t k N : Nat} {w w' : World} {q : Option Addr} {n : Nat} {vs : List Value} (h : RdT t k N w q n vs) (hb : ∀ a, q = some a → w'.heap[a.block]? = w.heap[a.block]?) : RdT t k N w' q n vs :=
  ⟨h.1.keep fun a ha _ => hb a ha, fun a ha => by
    obtain ⟨h1, cs, h2⟩ := h.2 a ha
    exact ⟨h1, cs, h2.keep (hb a ha)⟩⟩
theorem RdT.lt {t k N : Nat} {w : World} {q : Option Addr} {n : Nat} {vs : List Value} (h : RdT t k N w q n vs) {a : Addr} (ha : q = some a) : a.block < w.heap.size := by
  obtain ⟨_, cs, h2⟩ := h.2 a ha
  exact h2.lt
theorem RdT.mono {t k N M : Nat} {w : World} {q : Option Addr} {n : Nat} {vs : List Value} (h : RdT t k N w q n vs) (hM : M ≤ N) : RdT t k M w q n vs :=
  ⟨h.1, fun a ha => ⟨Nat.le_trans hM (h.2 a ha).1, (h.2 a ha).2⟩⟩
theorem RdT.none (t k N : Nat) (w : World) : RdT t k N w none 0 [] := ⟨Rd.empty _ _ _, fun a h => by cases h⟩
/-! ### A slice of one's own, that grows -/
structure Ow (e k N : Nat) (w : World) (q : Option Addr) (n c : Nat) (vs : List Value) : Prop where
  len : vs.length = n * k
  le : n ≤ c
  cap : c ≤ maxLen
  blk : (q = none ∧ n = 0 ∧ c = 0) ∨ ∃ (b : Nat) (cs : Array Value), q = some ⟨b, 0, none⟩ ∧ N ≤ b ∧ Blk w b cs e ∧ cs.size = c * k ∧ cs.toList.take (n * k) = vs
theorem Ow.rd {e k N : Nat} {w : World} {q : Option Addr} {n c : Nat} {vs : List Value} (h : Ow e k N w q n c vs) : Rd k w q n vs := by
  rcases h.blk with ⟨rfl, rfl, rfl⟩ | ⟨b, cs, rfl, _, hb, hs, rfl⟩
  · have : vs = [] := List.length_eq_zero_iff.1 (by rw [h.len, Nat.zero_mul])
    subst this
    exact Rd.empty k w none
  · refine ⟨h.len, fun h => (by cases h), fun a ha => ?_⟩
    cases ha
    intro j v hv
    rw [List.getElem?_toArray] at hv
    have hj := (List.getElem?_eq_some_iff.1 hv).1
    rw [Addr.add_lit]
    refine hb.cell ?_
    rw [Nat.zero_add]
    rw [List.length_take] at hj
    rw [List.getElem?_take_of_lt (by omega)] at hv
    simpa using hv
theorem Ow.nil (e k N : Nat) (w : World) : Ow e k N w none 0 0 [] := ⟨by simp, Nat.le_refl _, by unfold maxLen; omega, .inl ⟨rfl, rfl, rfl⟩⟩
theorem Ow.keep {e k N : Nat} {w w' : World} {q : Option Addr} {n c : Nat} {vs : List Value} (h : Ow e k N w q n c vs) (hb : ∀ a, q = some a → w'.heap[a.block]? = w.heap[a.block]?) : Ow e k N w' q n c vs :=
  ⟨h.len, h.le, h.cap, by
    rcases h.blk with h1 | ⟨b, cs, rfl, h1, ⟨lo, hi, h2, h3⟩, h4⟩
    · exact .inl h1
    · exact .inr ⟨b, cs, rfl, h1, ⟨lo, hi, (hb _ rfl).trans h2, h3⟩, h4⟩⟩
theorem Ow.lt {e k N : Nat} {w : World} {q : Option Addr} {n c : Nat} {vs : List Value} (h : Ow e k N w q n c vs) {a : Addr} (ha : q = some a) : a.block < w.heap.size ∧ N ≤ a.block := by
  rcases h.blk with ⟨rfl, _⟩ | ⟨b, cs, rfl, h1, h2, _⟩
  · cases ha
  · cases ha; exact ⟨h2.lt, h1⟩
theorem Ow.below {e k N : Nat} {w w' : World} {q : Option Addr} {n c : Nat} {vs : List Value} (h : Ow e k N w q n c vs) (b : Below w.heap.size w w') : Ow e k N w' q n c vs :=
  h.keep fun a ha => b.block _ (h.lt ha).1
theorem Ow.rdT {e k N : Nat} {w : World} {q : Option Addr} {n c : Nat} {vs : List Value} (h : Ow e k N w q n c vs) : RdT e k N w q n vs := ⟨h.rd, fun a ha => by
  rcases h.blk with ⟨rfl, _⟩ | ⟨b, cs, rfl, h1, h2, _⟩
  · cases ha
  · cases ha; exact ⟨h1, cs, h2⟩⟩
theorem Ow.drew {e k N : Nat} {w : World} {q : Option Addr} {n c : Nat} {vs : List Value} (h : Ow e k N w q n c vs) : Ow e k N w.drew q n c vs := h.keep fun _ _ => rfl
theorem Ow.mono {e k N M : Nat} {w : World} {q : Option Addr} {n c : Nat} {vs : List Value} (h : Ow e k N w q n c vs) (hM : M ≤ N) : Ow e k M w q n c vs :=
  ⟨h.len, h.le, h.cap, h.blk.imp id fun ⟨b, cs, h1, h2, h3⟩ => ⟨b, cs, h1, Nat.le_trans hM h2, h3⟩⟩
/-- An append: at most the slice's own block has turned, and the new slice lies there or in a new block. -/
structure Grew (q : Option Addr) (w : World) (q' : Option Addr) (w' : World) : Prop where
  os : w'.os = w.os
  tape : w'.tape = w.tape
  output : w'.output = w.output
  size : w.heap.size ≤ w'.heap.size
  block : ∀ k, k < w.heap.size → (∀ a, q = some a → k ≠ a.block) → w'.heap[k]? = w.heap[k]?
  new : ∀ a, q' = some a → q = some a ∨ w.heap.size ≤ a.block
  old : q' = q ∨ ∀ k, k < w.heap.size → w'.heap[k]? = w.heap[k]?
theorem Grew.below {q q' : Option Addr} {w w' : World} {N : Nat} (h : Grew q w q' w') (hN : N ≤ w.heap.size) (hq : ∀ a, q = some a → N ≤ a.block) : Below N w w' :=
  ⟨h.os, h.tape, h.output, h.size, fun k hk => h.block k (by omega) fun a ha => by have := hq a ha; omega⟩
theorem Grew.blk {q q' : Option Addr} {w w' : World} (h : Grew q w q' w') {b : Nat} {cs : Array Value} {t : TypeId} (hb : Blk w b cs t) (hq : ∀ a, q = some a → b ≠ a.block) : Blk w' b cs t := by
  obtain ⟨lo, hi, h1, h2⟩ := hb
  exact ⟨lo, hi, (h.block b (Array.getElem?_eq_some_iff.1 h1).1 hq).trans h1, h2⟩
theorem Grew.pre {q q' : Option Addr} {w0 w w' : World} (h0 : Below w0.heap.size w0 w) (h : Grew q w q' w') : Grew q w0 q' w' :=
  ⟨h.os.trans h0.os, h.tape.trans h0.tape, h.output.trans h0.output, Nat.le_trans h0.size h.size, fun k hk hq => (h.block k (Nat.lt_of_lt_of_le hk h0.size) hq).trans (h0.block k hk), fun a ha => (h.new a ha).imp id (Nat.le_trans h0.size), h.old.imp id fun h1 k hk => (h1 k (Nat.lt_of_lt_of_le hk h0.size)).trans (h0.block k hk)⟩
theorem Grew.up {t N : Nat} {q q' : Option Addr} {w w' : World} (h : Grew q w q' w') (hq : ∀ a, q = some a → ∃ cs t', Blk w a.block cs t' ∧ t' ≠ t) : UpT t N w w' := fun k cs _ hk => h.block k hk.lt fun a ha e => by
  obtain ⟨cs', t', h1, h2⟩ := hq a ha
  subst e
  exact h2 (h1.ty hk)
theorem Grew.of_mod {b : Nat} {w w' : World} (h : Mod b w w') (o : Nat) : Grew (some ⟨b, o, none⟩) w (some ⟨b, o, none⟩) w' :=
  ⟨h.os, h.tape, h.output, h.size, fun k hk hq => h.block k hk (hq _ rfl), fun a ha => .inl ha, .inl rfl⟩
theorem Grew.of_new {q : Option Addr} {b : Nat} {w w' : World} (h : Below w.heap.size w w') (hb : w.heap.size ≤ b) : Grew q w (some ⟨b, 0, none⟩) w' :=
  ⟨h.os, h.tape, h.output, h.size, fun k hk _ => h.block k hk, fun a ha => (by cases ha; exact .inr hb), .inr fun k hk => h.block k hk⟩
theorem nextcap_le (l : Nat) : Builtin.nextslicecap (l + 1) l ≤ 2 * l + 1 := by
  unfold Builtin.nextslicecap
  split
  · omega
  · split
    · omega
    · rename_i h1 h2
      simp only [Builtin.growBy]
      rw [if_neg (by omega)]
      rw [if_pos (by omega)]
      omega
theorem ovw_list : ∀ (l : List Value) (cs : Array Value) (o : Nat), o + l.length ≤ cs.size → (ovw cs o l).toList = cs.toList.take o ++ l ++ cs.toList.drop (o + l.length)
  | [], cs, o, h => by simp [ovw]
  | v :: r, cs, o, h => by
    simp only [List.length_cons] at h
    rw [ovw, ovw_list r _ _ (by simp; omega)]
    simp only [Array.toList_setIfInBounds]
    have ho : o < cs.toList.length := by simp; omega
    rw [List.drop_set_of_lt (by omega), show o + 1 + r.length = o + (v :: r).length by simp; omega]
    congr 1
    rw [List.take_set, List.take_add_one, List.getElem?_eq_getElem ho]
    simp only [Option.toList_some, List.set_append]
    have : (cs.toList.take o).length = o := by rw [List.length_take]; omega
    rw [if_neg (by omega), this, Nat.sub_self]
    simp
/-- append of one element (its literal lies in a block of its own). -/
theorem Ow.app {P : Program} {t tx e k N : Nat} {i : TypeInfo} {z : Value} {w : World} {q : Option Addr} {n c : Nat} {vs : List Value} (h : Ow e k N w q n c vs) (hN : N ≤ w.heap.size)
    (hu : P.underlying t = some (.slice e)) (hx : P.underlying tx = some (.slice e)) (hi : P.info? e = some i) (hz : i.zero = some z) (hk : i.size = k) (hzk : z.cells.size = k) {m : Nat} {g : Array Value} (hg : Blk w m g e) (hgs : g.size = k) (h1 : ∀ u ∈ g.toList, one u = true) (hone : ∀ u ∈ g.toList, u.oneCell' = true)
    (hmq : ∀ a, q = some a → a.block ≠ m) (hn : (2 * n + 1) * i.bytes ≤ 281474976710656) (hn2 : n + 1 ≤ maxLen) {K : Option Addr → Nat → Nat → World → Prop}
    (hK : ∀ q' c' w', Ow e k N w' q' (n + 1) c' (vs ++ g.toList) → Below N w w' → Grew q w q' w' → K q' (n + 1) c' w') : apnW P t tx (.slice q n c) (.slice (some ⟨m, 0, none⟩) 1 1) w K := by
  have hsrc : Src P i.size tx (.slice (some ⟨m, 0, none⟩) 1 1) 1 g.toList w := Src.ofSlice w hx ⟨m, 0, none⟩ 1 1 g.toList (by rw [Array.length_toList, hgs, hk, Nat.one_mul]) (fun j u hj => by
    rw [Addr.add_lit, Nat.zero_add]; exact hg.cell (by simpa using hj)) hone
  by_cases hr : n + 1 ≤ c
  · -- room
    unfold apnW
    rw [hu]
    dsimp only
    rw [hi]
    dsimp only
    rw [hz]
    refine ⟨q, n, c, 1, g.toList, rfl, hsrc, ?_⟩
    rw [show Nat.ble (n + 1) c = true from Nat.ble_eq_true_of_le hr]
    rcases h.blk with ⟨_, _, rfl⟩ | ⟨b, cs, rfl, hb, hB, hs, hv⟩
    · omega
    · have hnk : n * k + k ≤ c * k := by
        have : (n + 1) * k ≤ c * k := Nat.mul_le_mul_right _ hr
        rw [Nat.succ_mul] at this; exact this
      have hgl : g.toList.length = k := by rw [Array.length_toList, hgs]
      refine .inr ⟨⟨b, 0, none⟩, rfl, ?_, ?_⟩
      · rw [Addr.add_lit, Nat.zero_add, hk, hgl]
        exact room_blk hB (by omega)
      · rw [Addr.add_lit, Nat.zero_add, hk]
        obtain ⟨h2, h3, h4⟩ := stoL_blk (n * k) g.toList 0 w cs hB
        rw [Nat.add_zero] at h2
        refine hK _ _ _ ⟨?_, hr, h.cap, .inr ⟨b, _, rfl, hb, h2, by rw [ovw_size, hs], ?_⟩⟩ (h3.below hN hb) (Grew.of_mod h3 0)
        · rw [List.length_append, h.len, hgl, Nat.succ_mul]
        · have e1 := ovw_list g.toList cs (n * k) (by rw [hgl]; omega)
          rw [e1, hgl, Nat.succ_mul]
          have e2 : (cs.toList.take (n * k) ++ g.toList).length = n * k + k := by
            rw [List.length_append, hgl, List.length_take, Array.length_toList]; omega
          rw [List.take_append_of_le_length (by omega), List.take_of_length_le (by omega), hv]
  · have hcn : c = n := by have := h.le; omega
    subst hcn
    refine apn_grow hu hi hz hsrc (by omega) (olds := vs) (by rw [h.len, hk]) (fun a ha => h.rd.row a ha) (fun e => by
      rcases h.blk with ⟨_, h2, _⟩ | ⟨b, cs, h2, _⟩
      · exact h2
      · rw [h2] at e; cases e) (by unfold maxLen at hn2; omega) (Nat.le_trans (Nat.mul_le_mul_right _ (nextcap_le c)) hn) ?_
    intro nc b w' hnc hcap hB hb hbel
    have hgl : g.toList.length = k := by rw [Array.length_toList, hgs]
    refine hK _ _ _ ⟨?_, hnc, hcap hn2, .inr ⟨b, _, rfl, by omega, hB, ?_, ?_⟩⟩ (hbel.mono hN) (Grew.of_new hbel hb)
    · rw [List.length_append, h.len, hgl, Nat.succ_mul]
    · rw [Array.size_append, List.size_toArray, List.length_append, h.len, hgl]
      simp only [Builtin.zeroCells, Array.size_map, Array.size_range]
      rw [hzk, show c * k + k = (c + 1) * k by rw [Nat.succ_mul], ← Nat.add_mul]
      congr 1
      omega
    · rw [Array.toList_append, List.take_append_of_le_length (by simp [h.len, hgl, Nat.succ_mul])]
      rw [List.take_of_length_le (by rw [List.length_append, h.len, hgl, Nat.succ_mul]; omega)]
/-! ### Literals of one element -/
/-- The type e: cells, bytes. -/
def infB (P : Program) (e k b : Nat) : Bool := match P.info? e with
  | some i => Nat.beq i.size k && Nat.beq i.bytes b && (match i.zero with
    | some z => Nat.beq z.cells.size k
    | none => false)
  | none => false
theorem infB_spec {P : Program} {e k b : Nat} (h : infB P e k b = true) : ∃ i z, P.info? e = some i ∧ i.zero = some z ∧ i.size = k ∧ i.bytes = b ∧ z.cells.size = k := by
  unfold infB at h
  split at h
  · rename_i i hi
    simp only [Bool.and_eq_true] at h
    obtain ⟨⟨h1, h2⟩, h3⟩ := h
    split at h3
    · rename_i z hz
      exact ⟨i, z, hi, hz, Nat.eq_of_beq_eq_true h1, Nat.eq_of_beq_eq_true h2, Nat.eq_of_beq_eq_true h3⟩
    · cases h3
  · cases h
/-- The type t is that of slices of e. -/
def slT (P : Program) (t e : Nat) : Bool := match P.underlying t with
  | some (.slice e') => Nat.beq e' e
  | _ => false
theorem slT_spec {P : Program} {t e : Nat} (h : slT P t e = true) : P.underlying t = some (.slice e) := by
  unfold slT at h
  split at h
  · rename_i e' hu; rw [hu, Nat.eq_of_beq_eq_true h]
  · cases h
theorem setFold : ∀ (l : List Value) (o : Nat) (cs : Array Value), o + l.length ≤ cs.size →
    (l.zipIdx o).foldl (fun (cs : Array Value) (p : Value × Nat) => cs.setIfInBounds p.2 p.1) cs = ovw cs o l
  | [], _, _, _ => rfl
  | v :: r, o, cs, h => by
    simp only [List.length_cons] at h
    rw [List.zipIdx_cons, List.foldl_cons]
    exact setFold r (o + 1) _ (by simp; omega)
theorem fill_one {place : Nat → Option (Nat × Nat)} {cs : Array Value} {v : Value} {k : Nat} (hp : place 0 = some (0, k)) (hv : v.cells.size = k) (hc : cs.size = k) : Instr.fill place cs [(0, v)] = some v.cells := by
  unfold Instr.fill
  simp only [hp]
  rw [if_neg (by simp [hv, hc])]
  unfold Instr.fill
  congr 1
  rw [← Array.foldl_toList]
  have e1 : (v.cells.zipIdx).toList = v.cells.toList.zipIdx 0 := by simp
  rw [e1]
  have e2 := setFold v.cells.toList 0 cs (by simp [hv, hc])
  simp only [Nat.zero_add] at e2 ⊢
  rw [e2]
  apply Array.ext'
  rw [ovw_list _ _ _ (by simp [hv, hc])]
  simp [hv, hc]
theorem bsl1 {P : Program} {t e k b : Nat} (ht : slT P t e = true) (he : infB P e k b = true) {v : Value} (hv : v.cells.size = k) (hk : k ≤ 2 ^ 24) : bslP P t 1 [(0, v)] v.cells e := fun w => by
  obtain ⟨i, z, hi, hz, hs, _, hzs⟩ := infB_spec he
  have h1 : ¬ (2 ^ 24 < 1 * k) := by omega
  unfold Instr.buildSlice
  simp only [Sem.run_bind, run_underlying (slT_spec ht), Result.andThen_ok, sizeOf, run_typeInfo (P := P) w hi, Sem.run_pure, hs, gt_iff_lt, h1, if_false, pure_bind]
  by_cases h0 : 1 * k = 0
  · have hk0 : k = 0 := by omega
    have hf := fill_one (place := fun i => some (i * k, k)) (cs := (Array.range (1 * k)).map (#[][· % (#[] : Array Value).size]!)) (v := v) (k := k) (by simp) hv (by simp)
    rw [if_pos h0]
    simp only [Sem.run_bind, Sem.run_pure, Result.andThen_ok, hf]
    simp [newRow]
  · have hf := fill_one (place := fun i => some (i * k, k)) (cs := (Array.range (1 * k)).map (z.cells[· % z.cells.size]!)) (v := v) (k := k) (by simp) hv (by simp)
    rw [if_neg h0]
    simp only [Sem.run_bind, zeroValue, run_typeInfo (P := P) w hi, Result.andThen_ok, hz, Sem.run_pure, hf]
    simp [newRow]
/-- append(x, v), as it is printed. -/
theorem Ow.push {P : Program} {t e k bs N : Nat} {w : World} {q : Option Addr} {n c : Nat} {vs : List Value} (h : Ow e k N w q n c vs) (hN : N ≤ w.heap.size)
    (ht : slT P t e = true) (he : infB P e k bs = true) {v : Value} (hv : v.cells.size = k) (hk : k ≤ 2 ^ 24) (hone : ∀ u ∈ v.cells.toList, u.oneCell' = true)
    (hn : (2 * n + 1) * bs ≤ 281474976710656) (hn2 : n + 1 ≤ maxLen) {K : Option Addr → Nat → Nat → World → Prop}
    (hK : ∀ q' c' w', Ow e k N w' q' (n + 1) c' (vs ++ v.cells.toList) → Below N w w' → Grew q w q' w' → K q' (n + 1) c' w') :
    ∃ g : Array Value, bslP P t 1 [(0, v)] g e ∧ newW g e w fun a w => apnW P t t (.slice q n c) (.slice (some a) 1 1) w K := by
  obtain ⟨i, z, hi, hz, hs, hb, hzs⟩ := infB_spec he
  refine ⟨_, bsl1 ht he hv hk, newW_intro fun b w1 h1 h2 h3 => ?_⟩
  have hz1 := h3.size
  exact (h.below h3).app (by omega) (slT_spec ht) (slT_spec ht) hi hz hs hzs h1 hv (fun u hu => one_of (hone u hu)) hone (fun a ha => by have := (h.lt ha).1; omega) (by rw [hb]; exact hn) hn2 fun q' c' w' h4 h5 h6 => hK q' c' w' h4 ((h3.mono hN).trans h5) (h6.pre h3)
/-- append of one element that lies in a block. -/
theorem Ow.app1 {P : Program} {t e k bs N : Nat} {w : World} {q : Option Addr} {n c : Nat} {vs : List Value} (h : Ow e k N w q n c vs) (hN : N ≤ w.heap.size)
    (ht : slT P t e = true) (he : infB P e k bs = true) {m : Nat} {g : Array Value} (hg : Blk w m g e) (hgs : g.size = k) (hone : ∀ u ∈ g.toList, u.oneCell' = true)
    (hmq : ∀ a, q = some a → a.block ≠ m) (hn : (2 * n + 1) * bs ≤ 281474976710656) (hn2 : n + 1 ≤ maxLen) {K : Option Addr → Nat → Nat → World → Prop}
    (hK : ∀ q' c' w', Ow e k N w' q' (n + 1) c' (vs ++ g.toList) → Below N w w' → Grew q w q' w' → K q' (n + 1) c' w') : apnW P t t (.slice q n c) (.slice (some ⟨m, 0, none⟩) 1 1) w K := by
  obtain ⟨i, z, hi, hz, hs, hb, hzs⟩ := infB_spec he
  exact h.app hN (slT_spec ht) (slT_spec ht) hi hz hs hzs hg hgs (fun u hu => one_of (hone u hu)) hone hmq (by rw [hb]; exact hn) hn2 hK
/-- An element is written. -/
theorem Ow.set1 {e N : Nat} {w : World} {q : Option Addr} {n c : Nat} {vs : List Value} (h : Ow e 1 N w q n c vs) {i : Nat} (hi : i < n) {v : Value} {K : World → Prop}
    (hK : ∀ a w', q = some a → Ow e 1 N w' q n c (vs.set i v) → Mod a.block w w' → w'.heap.size = w.heap.size → K w') {a : Addr} (ha : q = some a) : stC (a.add (i * 1)) v w K := by
  rcases h.blk with ⟨rfl, _⟩ | ⟨b, cs, rfl, h1, h2, h3, h4⟩
  · cases ha
  · cases ha
    have hc := h.le
    rw [Addr.add_lit, Nat.zero_add, Nat.mul_one]
    refine stC_intro h2 (by omega) fun w' k m s => hK ⟨b, 0, none⟩ w' rfl ⟨by simp [h.len], hc, h.cap, .inr ⟨b, _, rfl, h1, k, by simpa using h3, ?_⟩⟩ m s
    rw [Array.toList_setIfInBounds, List.take_set, h4]
theorem nextcap0 (m : Nat) : Builtin.nextslicecap (0 + m) 0 ≤ m := by
  unfold Builtin.nextslicecap
  split
  · omega
  · rw [if_pos (by omega)]; omega
/-- append(nothing, xs...): a copy. -/
theorem apn_copy {P : Program} {t e k bs : Nat} {w : World} {b q : Option Addr} {n c : Nat} {vs : List Value} (hq : Rd k w q n vs) (hb : b = none ∨ ∃ a, b = some a)
    (ht : slT P t e = true) (he : infB P e k bs = true) (hone : ∀ u ∈ vs, u.oneCell' = true) (hn : n * bs ≤ 281474976710656) (hn2 : n ≤ maxLen) {K : Option Addr → Nat → Nat → World → Prop}
    (h0 : n = 0 → K b 0 0 w)
    (hK : ∀ q' c' w', Ow e k w.heap.size w' q' n c' vs → Below w.heap.size w w' → 0 < n → K q' n c' w') : apnW P t t (.slice b 0 0) (.slice q n c) w K := by
  obtain ⟨i, z, hi, hz, hs, hbs, hzs⟩ := infB_spec he
  have hsrc : Src P i.size t (.slice q n c) n vs w := by
    cases q with
    | none =>
      have := hq.nil rfl
      subst this
      have : vs = [] := List.length_eq_zero_iff.1 (by rw [hq.len, Nat.zero_mul])
      subst this
      exact Src.ofNil w (slT_spec ht) c
    | some a => exact Src.ofSlice w (slT_spec ht) a n c vs (by rw [hq.len, hs]) (fun j u hj => hq.cell rfl hj) hone
  by_cases hz0 : n = 0
  · subst hz0
    have hv : vs = [] := List.length_eq_zero_iff.1 (by rw [hq.len, Nat.zero_mul])
    subst hv
    unfold apnW
    rw [slT_spec ht]
    dsimp only
    rw [hi]
    dsimp only
    rw [hz]
    refine ⟨b, 0, 0, 0, [], rfl, hsrc, ?_⟩
    show cond true _ _
    rcases hb with rfl | ⟨a, rfl⟩
    · exact .inl ⟨rfl, rfl, h0 rfl⟩
    · exact .inr ⟨a, rfl, fun j hj => by simp at hj, h0 rfl⟩
  · refine apn_grow (slT_spec ht) hi hz hsrc (by omega) (olds := []) (by simp) (fun a ha j v hv => by simp at hv) (fun _ => rfl) (by unfold maxLen at hn2; omega) (by rw [hbs]; exact Nat.le_trans (Nat.mul_le_mul_right _ (nextcap0 n)) hn) ?_
    intro nc m w' hnc hcap hB hm hbel
    rw [Nat.zero_add] at hnc hcap hB ⊢
    refine hK _ _ _ ⟨hq.len, hnc, hcap hn2, .inr ⟨m, _, rfl, hm, hB, ?_, ?_⟩⟩ hbel (by omega)
    · rw [Array.size_append, List.size_toArray, List.nil_append, hq.len]
      simp only [Builtin.zeroCells, Array.size_map, Array.size_range]
      rw [hzs, ← Nat.add_mul]
      congr 1
      omega
    · rw [Array.toList_append, List.nil_append, List.take_append_of_le_length (by simp [hq.len]), List.take_of_length_le (by simp [hq.len])]
/-- .. where there is room: the block stays. -/
theorem Ow.pushIn {P : Program} {t e k bs N : Nat} {w : World} {b n c : Nat} {vs : List Value} (h : Ow e k N w (some ⟨b, 0, none⟩) n c vs) (hN : N ≤ w.heap.size)
    (ht : slT P t e = true) (he : infB P e k bs = true) {v : Value} (hv : v.cells.size = k) (hk : k ≤ 2 ^ 24) (hone : ∀ u ∈ v.cells.toList, u.oneCell' = true)
    (hn : n + 1 ≤ c) {K : Option Addr → Nat → Nat → World → Prop}
    (hK : ∀ w', Ow e k N w' (some ⟨b, 0, none⟩) (n + 1) c (vs ++ v.cells.toList) → Below N w w' → Grew (some ⟨b, 0, none⟩) w (some ⟨b, 0, none⟩) w' → K (some ⟨b, 0, none⟩) (n + 1) c w') :
    ∃ g : Array Value, bslP P t 1 [(0, v)] g e ∧ newW g e w fun a w => apnW P t t (.slice (some ⟨b, 0, none⟩) n c) (.slice (some a) 1 1) w K := by
  obtain ⟨i, z, hi, hz, hs, hb, hzs⟩ := infB_spec he
  refine ⟨_, bsl1 ht he hv hk, newW_intro fun m w1 h1 h2 h3 => ?_⟩
  have hz1 := h3.size
  have h' := h.below h3
  have hgl : v.cells.toList.length = k := by rw [Array.length_toList, hv]
  have hsrc : Src P i.size t (.slice (some ⟨m, 0, none⟩) 1 1) 1 v.cells.toList w1 := Src.ofSlice w1 (slT_spec ht) ⟨m, 0, none⟩ 1 1 v.cells.toList (by rw [hgl, hs, Nat.one_mul]) (fun j u hj => by
    rw [Addr.add_lit, Nat.zero_add]; exact h1.cell (by simpa using hj)) hone
  unfold apnW
  rw [slT_spec ht]
  dsimp only
  rw [hi]
  dsimp only
  rw [hz]
  refine ⟨_, n, c, 1, v.cells.toList, rfl, hsrc, ?_⟩
  rw [show Nat.ble (n + 1) c = true from Nat.ble_eq_true_of_le hn]
  rcases h'.blk with ⟨e0, _, _⟩ | ⟨b', cs, e0, hb', hB, hsz, hvs⟩
  · cases e0
  · cases e0
    have hnk : n * k + k ≤ c * k := by
      have : (n + 1) * k ≤ c * k := Nat.mul_le_mul_right _ hn
      rw [Nat.succ_mul] at this; exact this
    refine .inr ⟨⟨b, 0, none⟩, rfl, ?_, ?_⟩
    · rw [Addr.add_lit, Nat.zero_add, hs, hgl]
      exact room_blk hB (by omega)
    · rw [Addr.add_lit, Nat.zero_add, hs]
      obtain ⟨h4, h5, h6⟩ := stoL_blk (n * k) v.cells.toList 0 w1 cs hB
      rw [Nat.add_zero] at h4
      refine hK _ ⟨?_, hn, h'.cap, .inr ⟨b, _, rfl, hb', h4, by rw [ovw_size, hsz], ?_⟩⟩ ((h3.mono hN).trans (h5.below (by omega) hb')) ((Grew.of_mod h5 0).pre h3)
      · rw [List.length_append, h'.len, hgl, Nat.succ_mul]
      · have e1 := ovw_list v.cells.toList cs (n * k) (by rw [hgl]; omega)
        rw [e1, hgl, Nat.succ_mul]
        have e2 : (cs.toList.take (n * k) ++ v.cells.toList).length = n * k + k := by
          rw [List.length_append, hgl, List.length_take, Array.length_toList]; omega
        rw [List.take_append_of_le_length (by omega), List.take_of_length_le (by omega), hvs]
/-- append(x, y...): what y reads is put behind x. -/
theorem Ow.appR {P : Program} {t e k bs N : Nat} {w : World} {q q2 : Option Addr} {n c m c2 : Nat} {vs us : List Value} (h : Ow e k N w q n c vs) (hN : N ≤ w.heap.size) (hq2 : Rd k w q2 m us)
    (ht : slT P t e = true) (he : infB P e k bs = true) (hone : ∀ u ∈ us, u.oneCell' = true) (hn : 2 * (n + m) * bs ≤ 281474976710656) (hn2 : n + m ≤ maxLen) {K : Option Addr → Nat → Nat → World → Prop}
    (hK : ∀ q' c' w', Ow e k N w' q' (n + m) c' (vs ++ us) → Below N w w' → Grew q w q' w' → K q' (n + m) c' w') : apnW P t t (.slice q n c) (.slice q2 m c2) w K := by
  obtain ⟨i, z, hi, hz, hs, hbs, hzs⟩ := infB_spec he
  have hsrc : Src P i.size t (.slice q2 m c2) m us w := by
    cases q2 with
    | none =>
      have := hq2.nil rfl
      subst this
      have : us = [] := List.length_eq_zero_iff.1 (by rw [hq2.len, Nat.zero_mul])
      subst this
      exact Src.ofNil w (slT_spec ht) c2
    | some a => exact Src.ofSlice w (slT_spec ht) a m c2 us (by rw [hq2.len, hs]) (fun j u hj => hq2.cell rfl hj) hone
  by_cases hr : n + m ≤ c
  · unfold apnW
    rw [slT_spec ht]
    dsimp only
    rw [hi]
    dsimp only
    rw [hz]
    refine ⟨q, n, c, m, us, rfl, hsrc, ?_⟩
    rw [show Nat.ble (n + m) c = true from Nat.ble_eq_true_of_le hr]
    rcases h.blk with ⟨rfl, rfl, rfl⟩ | ⟨b, cs, rfl, hb, hB, hsz, hv⟩
    · have hm : m = 0 := by omega
      subst hm
      have : us = [] := List.length_eq_zero_iff.1 (by rw [hq2.len, Nat.zero_mul])
      subst this
      exact .inl ⟨rfl, rfl, hK _ _ _ (by simpa using h) (Below.refl _ _) ⟨rfl, rfl, rfl, Nat.le_refl _, fun _ _ _ => rfl, fun a ha => (by cases ha), .inl rfl⟩⟩
    · have hnk : n * k + us.length ≤ c * k := by
        have : (n + m) * k ≤ c * k := Nat.mul_le_mul_right _ hr
        rw [Nat.add_mul] at this
        rw [hq2.len]; exact this
      refine .inr ⟨⟨b, 0, none⟩, rfl, ?_, ?_⟩
      · rw [Addr.add_lit, Nat.zero_add, hs]
        exact room_blk hB (by omega)
      · rw [Addr.add_lit, Nat.zero_add, hs]
        obtain ⟨h2, h3, h4⟩ := stoL_blk (n * k) us 0 w cs hB
        rw [Nat.add_zero] at h2
        refine hK _ _ _ ⟨?_, hr, h.cap, .inr ⟨b, _, rfl, hb, h2, by rw [ovw_size, hsz], ?_⟩⟩ (h3.below hN hb) (Grew.of_mod h3 0)
        · rw [List.length_append, h.len, hq2.len, Nat.add_mul]
        · have e1 := ovw_list us cs (n * k) (by omega)
          rw [e1, Nat.add_mul, ← hq2.len]
          have e2 : (cs.toList.take (n * k) ++ us).length = n * k + us.length := by
            rw [List.length_append, List.length_take, Array.length_toList]; omega
          rw [List.take_append_of_le_length (by omega), List.take_of_length_le (by omega), hv]
  · refine apn_grow (slT_spec ht) hi hz hsrc (by omega) (olds := vs) (by rw [h.len, hs]) (fun a ha => h.rd.row a ha) (fun e => by
      rcases h.blk with ⟨_, h2, _⟩ | ⟨b, cs, h2, _⟩
      · exact h2
      · rw [h2] at e; cases e) (by unfold maxLen at hn2; omega) (by rw [hbs]; exact Nat.le_trans (Nat.mul_le_mul_right _ (nextslicecap_le (by omega))) hn) ?_
    intro nc b w' hnc hcap hB hb hbel
    refine hK _ _ _ ⟨?_, hnc, hcap hn2, .inr ⟨b, _, rfl, by omega, hB, ?_, ?_⟩⟩ (hbel.mono hN) (Grew.of_new hbel hb)
    · rw [List.length_append, h.len, hq2.len, Nat.add_mul]
    · rw [Array.size_append, List.size_toArray, List.length_append, h.len, hq2.len]
      simp only [Builtin.zeroCells, Array.size_map, Array.size_range]
      rw [hzs, ← Nat.add_mul, ← Nat.add_mul]
      congr 1
      omega
    · rw [Array.toList_append, List.take_append_of_le_length (by rw [List.length_append, h.len, hq2.len, Nat.add_mul]; omega), List.take_of_length_le (by rw [List.length_append, h.len, hq2.len, Nat.add_mul]; omega)]
end Go.Hx
