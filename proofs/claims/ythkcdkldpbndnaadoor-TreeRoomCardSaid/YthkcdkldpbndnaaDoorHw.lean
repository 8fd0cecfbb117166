/- Words for proofs over the walk's functions: blocks of the heap, what a store and a new block leave, tests. No condition. -/
import Derived.Test.YthkcdkldpbndnaaDoorHz
import Derived.Laws.Rows
namespace Go.Hx
open Go.RowKit

/-- The block b is a row of just these cells, none of them frozen. -/
def Blk (w : World) (b : Nat) (cs : Array Value) (t : TypeId) : Prop := ∃ lo hi, w.heap[b]? = some (.cells cs t (lo, hi)) ∧ (hi ≤ lo ∨ cs.size ≤ lo)
theorem Blk.lt {w : World} {b : Nat} {cs : Array Value} {t : TypeId} (h : Blk w b cs t) : b < w.heap.size := by
  obtain ⟨lo, hi, h, _⟩ := h
  exact (Array.getElem?_eq_some_iff.1 h).1
theorem Blk.cell {w : World} {b : Nat} {cs : Array Value} {t : TypeId} (h : Blk w b cs t) {i : Nat} {v : Value} (hi : cs[i]? = some v) : w.cell? ⟨b, i, none⟩ = some v := by
  obtain ⟨lo, hj, h, _⟩ := h
  rw [cell_of_row w b i cs t (lo, hj) h]; exact hi
theorem Blk.free {w : World} {b : Nat} {cs : Array Value} {t : TypeId} (h : Blk w b cs t) (i : Nat) (hi : i < cs.size) : w.frozen? ⟨b, i, none⟩ = false := by
  obtain ⟨lo, hj, h, hl⟩ := h
  unfold World.frozen?
  simp only [h, Bool.and_eq_false_iff, decide_eq_false_iff_not]
  omega
theorem Blk.same {w : World} {b : Nat} {cs cs' : Array Value} {t t' : TypeId} (h : Blk w b cs t) (h' : Blk w b cs' t') : cs = cs' := by
  obtain ⟨lo, hj, h, _⟩ := h
  obtain ⟨lo', hj', h', _⟩ := h'
  rw [h] at h'
  cases h'
  rfl
/-- All but the block b is as it was; new blocks may be there. -/
structure Mod (b : Nat) (w w' : World) : Prop where
  os : w'.os = w.os
  tape : w'.tape = w.tape
  output : w'.output = w.output
  size : w.heap.size ≤ w'.heap.size
  block : ∀ k, k < w.heap.size → k ≠ b → w'.heap[k]? = w.heap[k]?
theorem Mod.refl (b : Nat) (w : World) : Mod b w w := ⟨rfl, rfl, rfl, Nat.le_refl _, fun _ _ _ => rfl⟩
theorem Mod.trans {b : Nat} {x y z : World} (h : Mod b x y) (k : Mod b y z) : Mod b x z :=
  ⟨k.os.trans h.os, k.tape.trans h.tape, k.output.trans h.output, Nat.le_trans h.size k.size, fun i hi hb => (k.block i (Nat.lt_of_lt_of_le hi h.size) hb).trans (h.block i hi hb)⟩
theorem Mod.of_below {b : Nat} {w w' : World} (h : Below w.heap.size w w') : Mod b w w' := ⟨h.os, h.tape, h.output, h.size, fun k hk _ => h.block k hk⟩
/-- A block that was not there at the beginning. -/
theorem Mod.below {b : Nat} {w w' : World} {B : Nat} (h : Mod b w w') (hB : B ≤ w.heap.size) (hb : B ≤ b) : Below B w w' :=
  ⟨h.os, h.tape, h.output, h.size, fun k hk => h.block k (by omega) (by omega)⟩
theorem Mod.blk {b c : Nat} {w w' : World} (h : Mod b w w') (hc : c ≠ b) {cs : Array Value} {t : TypeId} (hb : Blk w c cs t) : Blk w' c cs t := by
  obtain ⟨lo, hj, e, hl⟩ := hb
  exact ⟨lo, hj, (h.block c (Array.getElem?_eq_some_iff.1 e).1 hc).trans e, hl⟩
theorem Mod.drew {b : Nat} {w w' : World} (h : Mod b w w') : Mod b w w'.drew := ⟨h.os, h.tape, h.output, h.size, h.block⟩
theorem below_blk {B : Nat} {c : Nat} {w w' : World} (h : Below B w w') (hc : c < B) {cs : Array Value} {t : TypeId} (hb : Blk w c cs t) : Blk w' c cs t := by
  obtain ⟨lo, hj, e, hl⟩ := hb
  exact ⟨lo, hj, (h.block c hc).trans e, hl⟩
theorem Blk.drew {w : World} {b : Nat} {cs : Array Value} {t : TypeId} (h : Blk w b cs t) : Blk w.drew b cs t := h
theorem below_new (w : World) (o : Obj) : Below w.heap.size w (w.alloc o) := (Below.refl _ _).alloc (Nat.le_refl _) _
theorem Blk.alloc {w : World} {b : Nat} {cs : Array Value} {t : TypeId} (h : Blk w b cs t) (o : Obj) : Blk (w.alloc o) b cs t := below_blk (below_new w o) h.lt h
theorem blk_new (w : World) (cs : Array Value) (t : TypeId) : Blk (w.alloc (.cells cs t)) w.heap.size cs t := ⟨0, 0, heap_alloc_new w _, .inl (Nat.le_refl _)⟩
theorem newW_intro {cs : Array Value} {t : TypeId} {w : World} {K : Addr → World → Prop}
    (h : ∀ (b : Nat) (w' : World), Blk w' b cs t → w.heap.size ≤ b → Below w.heap.size w w' → K ⟨b, 0, none⟩ w') : newW cs t w K :=
  h _ _ (blk_new w cs t) (Nat.le_refl _) (below_new w _)
theorem Mod.setCell (b o : Nat) (w : World) (v : Value) : Mod b w (w.setCell ⟨b, o, none⟩ v) :=
  ⟨rfl, rfl, rfl, by simp [World.setCell], fun k _ hk => Below.heap_setCell _ _ _ _ hk⟩
theorem Blk.setCell {w : World} {b : Nat} {cs : Array Value} {t : TypeId} (h : Blk w b cs t) (i : Nat) (v : Value) : Blk (w.setCell ⟨b, i, none⟩ v) b (cs.setIfInBounds i v) t := by
  obtain ⟨lo, hj, e, hl⟩ := h
  refine ⟨lo, hj, ?_, by simpa using hl⟩
  obtain ⟨hlt, e'⟩ := Array.getElem?_eq_some_iff.1 e
  simp only [World.setCell]
  rw [Array.getElem?_eq_getElem (by simpa using hlt), Array.getElem_modify_self, e']
  rfl
theorem stC_intro {w : World} {b i : Nat} {cs : Array Value} {t : TypeId} (hb : Blk w b cs t) (hi : i < cs.size) {v : Value} {K : World → Prop}
    (h : ∀ w', Blk w' b (cs.setIfInBounds i v) t → Mod b w w' → w'.heap.size = w.heap.size → K w') : stC ⟨b, i, none⟩ v w K :=
  ⟨⟨_, hb.cell (Array.getElem?_eq_getElem hi)⟩, hb.free i hi, h _ (hb.setCell i v) (Mod.setCell _ _ _ _) (by simp)⟩
theorem nl {a : Addr} {f : Addr → Prop} (h : f a) : nlW (some a) f := h
theorem Blk.at {w : World} {b : Nat} {cs : Array Value} {t : TypeId} (h : Blk w b cs t) {i : Nat} {v : Value} (hi : cs[i]? = some v) : w.cell? ((⟨b, 0, none⟩ : Addr).add i) = some v := by
  rw [Addr.add_lit, Nat.zero_add]; exact h.cell hi
theorem stC_at {w : World} {b i : Nat} {cs : Array Value} {t : TypeId} (hb : Blk w b cs t) (hi : i < cs.size) {v : Value} {K : World → Prop}
    (h : ∀ w', Blk w' b (cs.setIfInBounds i v) t → Mod b w w' → w'.heap.size = w.heap.size → K w') : stC ((⟨b, 0, none⟩ : Addr).add i) v w K := by
  rw [Addr.add_lit, Nat.zero_add]; exact stC_intro hb hi h
/-- The cells with g written over them from o on. -/
def ovw (cs : Array Value) (o : Nat) : List Value → Array Value
  | [] => cs
  | v :: r => ovw (cs.setIfInBounds o v) (o + 1) r
theorem ovw_size : ∀ (l : List Value) (cs : Array Value) (o : Nat), (ovw cs o l).size = cs.size
  | [], _, _ => rfl
  | v :: r, cs, o => by rw [ovw, ovw_size r]; simp
theorem ovw_get : ∀ (l : List Value) (cs : Array Value) (o j : Nat), j < cs.size → (ovw cs o l)[j]? = if o ≤ j ∧ j < o + l.length then l[j - o]? else cs[j]?
  | [], cs, o, j, _ => by rw [if_neg (by simp only [List.length_nil]; omega)]; rfl
  | v :: r, cs, o, j, hj => by
    rw [ovw, ovw_get r _ _ _ (by simpa using hj)]
    by_cases h1 : o + 1 ≤ j ∧ j < o + 1 + r.length
    · rw [if_pos h1, if_pos (by simp; omega), show j - o = (j - (o + 1)) + 1 by omega, List.getElem?_cons_succ]
    · rw [if_neg h1]
      by_cases h2 : o = j
      · subst h2
        rw [if_pos (by simp)]
        simp [hj]
      · rw [if_neg (by simp; omega), Array.getElem?_setIfInBounds_ne h2]
theorem stoL_blk {b : Nat} {t : TypeId} (o : Nat) : ∀ (l : List Value) (i : Nat) (w : World) (cs : Array Value), Blk w b cs t → Blk (stoL ⟨b, o, none⟩ l i w) b (ovw cs (o + i) l) t ∧ Mod b w (stoL ⟨b, o, none⟩ l i w) ∧ (stoL ⟨b, o, none⟩ l i w).heap.size = w.heap.size
  | [], i, w, cs, h => ⟨h, Mod.refl _ _, rfl⟩
  | v :: r, i, w, cs, h => by
    simp only [stoL, Addr.add_lit]
    obtain ⟨h1, h2, h3⟩ := stoL_blk o r (i + 1) _ _ (h.setCell (o + i) v)
    exact ⟨h1, (Mod.setCell _ _ _ _).trans h2, by rw [h3]; simp⟩
theorem room_blk {w : World} {b o n : Nat} {cs : Array Value} {t : TypeId} (hb : Blk w b cs t) (h : o + n ≤ cs.size) : RoomAt w ⟨b, o, none⟩ n := fun i hi => by
  rw [Addr.add_lit]
  exact ⟨⟨_, hb.cell (Array.getElem?_eq_getElem (show o + i < cs.size by omega))⟩, hb.free _ (show o + i < cs.size by omega)⟩
theorem stA_intro {w : World} {n b o : Nat} {cs g : Array Value} {t : TypeId} (hb : Blk w b cs t) (hg : g.size = n) (ho : o + n ≤ cs.size) (h1 : ∀ c ∈ g.toList, one c = true) {K : World → Prop}
    (h : ∀ w', Blk w' b (ovw cs o g.toList) t → Mod b w w' → w'.heap.size = w.heap.size → K w') : stA n ⟨b, o, none⟩ g w K :=
  let ⟨h2, h3, h4⟩ := stoL_blk o g.toList 0 w cs hb
  ⟨hg, h1, room_blk hb (by omega), h _ h2 h3 h4⟩
/-- A store over the whole block. -/
theorem stW_intro {w : World} {n b : Nat} {cs g : Array Value} {t : TypeId} (hb : Blk w b cs t) {K : World → Prop}
    (h : ∀ w', Blk w' b g t → Mod b w w' → w'.heap.size = w.heap.size → K w') (hg : g.size = n := by rfl) (hc : cs.size = n := by rfl) (h1 : g.toList.all one = true := by rfl) : stA n ⟨b, 0, none⟩ g w K :=
  stA_intro hb hg (by omega) (fun c hc => List.all_eq_true.1 h1 c hc) fun w' k m s => h w' (by
    have e : ovw cs 0 g.toList = g := by
      apply Array.ext_getElem?
      intro j
      by_cases hj : j < cs.size
      · rw [ovw_get _ _ _ _ hj, if_pos (by simp; omega)]; simp
      · rw [Array.getElem?_eq_none (by rw [ovw_size]; omega), Array.getElem?_eq_none (by omega)]
    rw [e] at k
    exact k) m s
theorem undrew {N : Nat} {w w' : World} (h : Below N w.drew w') : Below N w w' := ⟨h.os, h.tape, h.output, h.size, h.block⟩
theorem below_drew (N : Nat) (w : World) : Below N w w.drew := ⟨rfl, rfl, rfl, Nat.le_refl _, fun _ _ => rfl⟩
theorem row_blk {w : World} {b o : Nat} {cs g : Array Value} {t : TypeId} (hb : Blk w b cs t) (h : ∀ j, j < g.size → cs[o + j]? = g[j]?) : RowAt w ⟨b, o, none⟩ g := fun j v hv => by
  have hj : j < g.size := (Array.getElem?_eq_some_iff.1 hv).1
  rw [Addr.add_lit]
  exact hb.cell (by rw [h j hj]; exact hv)
theorem row_whole {w : World} {b : Nat} {cs : Array Value} {t : TypeId} (hb : Blk w b cs t) : RowAt w ⟨b, 0, none⟩ cs := row_blk hb (fun j _ => by rw [Nat.zero_add])
/-! ### What is kept, in general -/
/-- Of the blocks below M all but those of S are as they were. -/
structure Kp (S : Nat → Prop) (M : Nat) (w w' : World) : Prop where
  os : w'.os = w.os
  tape : w'.tape = w.tape
  output : w'.output = w.output
  size : w.heap.size ≤ w'.heap.size
  block : ∀ k, k < M → ¬ S k → w'.heap[k]? = w.heap[k]?
theorem Kp.refl (S : Nat → Prop) (M : Nat) (w : World) : Kp S M w w := ⟨rfl, rfl, rfl, Nat.le_refl _, fun _ _ _ => rfl⟩
theorem Kp.trans {S : Nat → Prop} {M : Nat} {x y z : World} (h : Kp S M x y) (k : Kp S M y z) : Kp S M x z :=
  ⟨k.os.trans h.os, k.tape.trans h.tape, k.output.trans h.output, Nat.le_trans h.size k.size, fun i hi hs => (k.block i hi hs).trans (h.block i hi hs)⟩
theorem Kp.mono {S T : Nat → Prop} {M N : Nat} {w w' : World} (h : Kp S M w w') (hT : ∀ k, k < N → S k → T k) (hN : N ≤ M) : Kp T N w w' :=
  ⟨h.os, h.tape, h.output, h.size, fun k hk ht => h.block k (by omega) fun hs => ht (hT k hk hs)⟩
theorem Kp.of_below {S : Nat → Prop} {M N : Nat} {w w' : World} (h : Below N w w') (hM : M ≤ N) : Kp S M w w' :=
  ⟨h.os, h.tape, h.output, h.size, fun k hk _ => h.block k (by omega)⟩
theorem Kp.of_mod {S : Nat → Prop} {M b : Nat} {w w' : World} (h : Mod b w w') (hb : b < M → S b) (hM : M ≤ w.heap.size) : Kp S M w w' :=
  ⟨h.os, h.tape, h.output, h.size, fun k hk hs => h.block k (by omega) fun e => hs (by subst e; exact hb hk)⟩
theorem Kp.below {S : Nat → Prop} {M N : Nat} {w w' : World} (h : Kp S M w w') (hN : N ≤ M) (hS : ∀ k, k < N → ¬ S k) : Below N w w' :=
  ⟨h.os, h.tape, h.output, h.size, fun k hk => h.block k (by omega) (hS k hk)⟩
theorem Kp.blk {S : Nat → Prop} {M b : Nat} {w w' : World} (h : Kp S M w w') {cs : Array Value} {t : TypeId} (hb : Blk w b cs t) (hM : b < M) (hS : ¬ S b) : Blk w' b cs t := by
  obtain ⟨lo, hi, h1, h2⟩ := hb
  exact ⟨lo, hi, (h.block b hM hS).trans h1, h2⟩
/-! ### Tests -/
theorem c_dec {p : Prop} [Decidable p] {A B : Prop} (ha : p → A) (hb : ¬ p → B) : cond (decide p) A B := by
  by_cases h : p
  · simp only [h, decide_true]; exact ha h
  · simp only [h, decide_false]; exact hb h
theorem c_ndec {p : Prop} [Decidable p] {A B : Prop} (ha : ¬ p → A) (hb : p → B) : cond (!decide p) A B := by
  by_cases h : p
  · simp only [h, decide_true, Bool.not_true]; exact hb h
  · simp only [h, decide_false, Bool.not_false]; exact ha h
theorem c_eq {a b : Int} {A B : Prop} (ha : a = b → A) (hb : a ≠ b → B) : cond (a == b) A B := by
  by_cases h : a = b
  · simp only [h, beq_self_eq_true]; exact ha h
  · rw [show (a == b) = false by simpa using h]; exact hb h
theorem c_ne {a b : Int} {A B : Prop} (ha : a ≠ b → A) (hb : a = b → B) : cond (a != b) A B := by
  by_cases h : a = b
  · simp only [h, bne_self_eq_false]; exact hb h
  · rw [show (a != b) = true by simpa using h]; exact ha h
theorem c_b {b : Bool} {A B : Prop} (ha : b = true → A) (hb : b = false → B) : cond b A B := by
  cases b
  · exact hb rfl
  · exact ha rfl
theorem c_nb {b : Bool} {A B : Prop} (ha : b = false → A) (hb : b = true → B) : cond (!b) A B := by
  cases b
  · exact ha rfl
  · exact hb rfl
theorem wrap_in {n : Int} (h : -9223372036854775808 ≤ n) (h2 : n ≤ 9223372036854775807) : IntKind.i64.wrap n = n := by
  unfold IntKind.wrap
  simp only [IntKind.bits, IntKind.signed]
  simp
  split <;> omega
/-- append, where a new block is needed. -/
theorem apn_grow {P : Program} {t tx e : TypeId} {i : TypeInfo} {z : Value} {x : Value} {w : World} {b : Option Addr} {l c n : Nat} {news olds : List Value} {K : Option Addr → Nat → Nat → World → Prop}
    (hu : P.underlying t = some (.slice e)) (hi : P.info? e = some i) (hz : i.zero = some z) (hs : Src P i.size tx x n news w) (hg : c < l + n)
    (hl : olds.length = l * i.size) (ho : ∀ a, b = some a → RowAt w a olds.toArray) (h0 : b = none → l = 0) (h63 : ((l + n : Nat) : Int) ≤ 9223372036854775807) (hfit : Builtin.nextslicecap (l + n) c * i.bytes ≤ 281474976710656)
    (hK : ∀ (nc k : Nat) (w' : World), l + n ≤ nc → (l + n ≤ maxLen → nc ≤ maxLen) → Blk w' k ((olds ++ news).toArray ++ Builtin.zeroCells z.cells (nc - (l + n))) e → w.heap.size ≤ k → Below w.heap.size w w' → K (some ⟨k, 0, none⟩) (l + n) nc w') :
    apnW P t tx (.slice b l c) x w K := by
  unfold apnW
  rw [hu]
  dsimp only
  rw [hi]
  dsimp only
  rw [hz]
  refine ⟨b, l, c, n, news, rfl, hs, ?_⟩
  have hb : Nat.ble (l + n) c = false := by
    cases h : Nat.ble (l + n) c
    · rfl
    · exact absurd (Nat.le_of_ble_eq_true h) (by omega)
  rw [hb]
  refine ⟨olds, hl, ho, h0, h63, hfit, fun nc hn hm => newW_intro fun k w' h1 h2 h3 => hK nc k w' hn hm h1 h2 ⟨h3.os, h3.tape, h3.output, h3.size, h3.block⟩⟩
end Go.Hx
