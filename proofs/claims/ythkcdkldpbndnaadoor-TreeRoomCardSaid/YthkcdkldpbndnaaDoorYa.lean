/- The laws' helpers on files: lists of channels, what is got and sent. No condition. -/
import Derived.Test.YthkcdkldpbndnaaDoorBy
import Derived.Test.YthkcdkldpbndnaaDoorWf
import Derived.Test.YthkcdkldpbndnaaDoorHv
set_option linter.unusedVariables false
namespace Go.Proofs.YthkcdkldpbndnaaDoor
open Go.RowKit Go.Hx
/-- An element's cells in a list of elements of k cells. -/
theorem flat_at {α : Type} {f : α → List Value} {k : Nat} (hk : ∀ x, (f x).length = k) : ∀ {l : List α} {i : Nat} {x : α}, l[i]? = some x → (((l.map f).flatten).drop (i * k)).take k = f x
  | [], i, x, h => by simp at h
  | y :: r, 0, x, h => by
    have h : y = x := by simpa using h
    subst h
    rw [Nat.zero_mul, List.drop_zero, List.map_cons, List.flatten_cons, List.take_left' (hk y)]
  | y :: r, i + 1, x, h => by
    have h : r[i]? = some x := by simpa using h
    rw [List.map_cons, List.flatten_cons, show (i + 1) * k = k + i * k by rw [Nat.succ_mul, Nat.add_comm], ← List.drop_drop, List.drop_left' (hk y)]
    exact flat_at hk h
theorem flat_len {α : Type} {f : α → List Value} {k : Nat} (hk : ∀ x, (f x).length = k) (l : List α) : ((l.map f).flatten).length = l.length * k := by
  induction l with
  | nil => simp
  | cons y r ih => rw [List.map_cons, List.flatten_cons, List.length_append, hk, ih, List.length_cons, Nat.succ_mul, Nat.add_comm]
/-- An element of such a list. -/
theorem rd_flat {α : Type} {f : α → List Value} {k : Nat} (hk : ∀ x, (f x).length = k) {w : World} {q : Option Addr} {n : Nat} {l : List α} (h : Rd k w q n ((l.map f).flatten)) (hn : l.length = n) {i : Nat} (hi : i < n) {K : Addr → Prop}
    (hK : ∀ a x, q = some a → l[i]? = some x → RowAt w (a.add (i * k)) (f x).toArray → K a) : nlW q fun a => (0 ≤ (i : Int) ∧ (i : Int) < ((n : Nat) : Int)) ∧ K a :=
  h.atK hi fun a ha hr _ => by
    obtain ⟨x, hx⟩ : ∃ x, l[i]? = some x := ⟨_, List.getElem?_eq_getElem (by omega)⟩
    rw [flat_at hk hx] at hr
    exact hK a x ha hx hr
abbrev Ch := Int × Int
def cvC (c : Ch) : List Value := [.int .i64 c.1, .int .i64 c.2]
def cvs (l : List Ch) : List Value := (l.map cvC).flatten
theorem cvC_len (c : Ch) : (cvC c).length = 2 := rfl
def kII : List Kd := [.int .i64, .int .i64]
theorem eq_Chan (c d : Ch) : AggEq Tryd.prog 64 (cvC c).toArray (cvC d).toArray (decide (c = d)) := by
  have hx : conf kII (cvC c) := ⟨⟨_, rfl⟩, ⟨_, rfl⟩, trivial⟩
  have hy : conf kII (cvC d) := ⟨⟨_, rfl⟩, ⟨_, rfl⟩, trivial⟩
  have h1 := aggEq_of (P := Tryd.prog) (t := 64) (ks := kII) (D := 3) (by decide) (by kernel_rfl) (by kernel_rfl) hx hy
  have e : leq (cvC c) (cvC d) = decide (c = d) := by
    rw [Bool.eq_iff_iff, leq_iff hx hy, decide_eq_true_eq]
    simp only [cvC, List.cons.injEq, Value.int.injEq, true_and, and_true]
    exact ⟨fun h => Prod.ext h.1 h.2, fun h => by rw [h]; exact ⟨rfl, rfl⟩⟩
  rw [← e]
  exact h1
theorem c_chans {xb yb : Option Addr} {xl xc yl yc : Nat} {xs ys : List Ch} {w : World} (hx : Rd 2 w xb xl (cvs xs)) (hy : Rd 2 w yb yl (cvs ys)) (hm : xl ≤ maxLen) :
    Calls Tryd.prog 33 #[.slice xb xl xc, .slice yb yl yc] w (Ret fun v w' => v = .bool (decide (xs = ys)) ∧ Below w.heap.size w w') := by
  refine W33_ok _ _ _ _ _ _ w _ ?_
  have lx : xs.length = xl := by have := hx.len; unfold cvs at this; rw [flat_len cvC_len] at this; omega
  have ly : ys.length = yl := by have := hy.len; unfold cvs at this; rw [flat_len cvC_len] at this; omega
  refine c_ne (fun h => ⟨?_, Below.refl _ _⟩) (fun h => ?_)
  · rw [decide_eq_false]; rintro rfl; omega
  refine ⟨fun t w' => ∃ i : Nat, t = ((i : Int), ()) ∧ i ≤ xl ∧ xs.take i = ys.take i ∧ Below w.heap.size w w', fun t _ => xl - t.1.toNat, ⟨(((0 : Nat) : Int), ()), rfl, 0, rfl, Nat.zero_le _, by simp, Below.refl _ _⟩, ?_⟩
  rintro _ _ w1 ⟨i, rfl, hi, he, hb⟩
  refine c_dec (fun hlt => ?_) (fun hge => ?_)
  · have hlt : i < xl := by simpa using hlt
    have b1 : Below w.heap.size w w1.drew := hb.trans ⟨rfl, rfl, rfl, Nat.le_refl _, fun _ _ => rfl⟩
    refine rd_flat cvC_len (hx.below b1) lx hlt fun a c _ hc hr => ⟨_, rfl, by rw [Int.toNat_natCast]; exact hr, ?_⟩
    refine rd_flat cvC_len (hy.below b1) ly (by omega) fun a' d _ hd hr' => ⟨_, rfl, by rw [Int.toNat_natCast]; exact hr', _, eq_Chan c d, ?_⟩
    by_cases hcd : c = d
    · subst hcd
      rw [decide_eq_true rfl]
      refine c_nb (fun h => absurd h (by decide)) (fun _ => ⟨(((i + 1 : Nat) : Int), ()), by (try dsimp only); rw [step1 hlt (by unfold maxLen at hm; omega)]; rfl, ⟨i + 1, rfl, hlt, ?_, b1⟩, ?_⟩)
      · rw [List.take_add_one, List.take_add_one, hc, hd, he]
      · show xl - (((i + 1 : Nat) : Int)).toNat < xl - (i : Int).toNat
        omega
    · rw [decide_eq_false hcd]
      refine c_nb (fun _ => ⟨?_, b1⟩) (fun h => absurd h (by decide))
      rw [decide_eq_false]
      rintro rfl
      rw [hc] at hd; cases hd; exact hcd rfl
  · refine ⟨?_, hb⟩
    have hge : ¬ i < xl := by simpa using hge
    rw [decide_eq_true]
    rwa [List.take_of_length_le (by omega), List.take_of_length_le (by omega)] at he
/-- What a read told: its cells. -/
structure GotD where
  how : Int
  xs : List UInt8
  ch : Ch
  wk : List Ch
def gotC (g : GotD) (q : Option Addr) (c : Nat) (q' : Option Addr) (c' : Nat) : Array Value := #[.int .i64 g.how, .slice q g.xs.length c, .int .i64 g.ch.1, .int .i64 g.ch.2, .slice q' g.wk.length c']
/-- .. and they are there. -/
def GotAt (w : World) (g : GotD) (q q' : Option Addr) : Prop := Rd 1 w q g.xs.length (bv g.xs) ∧ Rd 2 w q' g.wk.length (cvs g.wk)
theorem GotAt.below {w w' : World} {g : GotD} {q q' : Option Addr} (h : GotAt w g q q') (b : Below w.heap.size w w') : GotAt w' g q q' := ⟨h.1.below b, h.2.below b⟩
theorem c_got {g h : GotD} {q q' p p' : Option Addr} {c c' d d' : Nat} {w : World} (hg : GotAt w g q q') (hh : GotAt w h p p') (h1 : g.xs.length ≤ maxLen) (h2 : g.wk.length ≤ maxLen) :
    Calls Tryd.prog 36 #[.agg (gotC g q c q' c'), .agg (gotC h p d p' d')] w (Ret fun v w' => v = .bool (decide (g.how = h.how ∧ g.ch = h.ch ∧ g.xs = h.xs ∧ g.wk = h.wk)) ∧ Below w.heap.size w w') := by
  refine W36_ok _ _ w _ (newW_intro fun a1 w1 k1 l1 b1 => newW_intro fun a2 w2 k2 l2 b2 => ?_)
  have z1 := b1.size
  have b02 := b1.trans (b2.mono z1)
  have k12 := below_blk b2 k1.lt k1
  have no : ∀ {p : Prop} {w' : World}, ¬ p → (g.how = h.how ∧ g.ch = h.ch ∧ g.xs = h.xs ∧ g.wk = h.wk → p) → Below w.heap.size w w' → Value.bool false = .bool (decide (g.how = h.how ∧ g.ch = h.ch ∧ g.xs = h.xs ∧ g.wk = h.wk)) ∧ Below w.heap.size w w' := fun hp hc b => ⟨by rw [decide_eq_false fun hq => hp (hc hq)], b⟩
  refine ⟨_, k12.cell rfl, _, k2.cell rfl, c_eq (fun e1 => ?_) (fun n1 => no n1 (fun hq => hq.1) b02)⟩
  refine ⟨(cvC g.ch).toArray, rfl, by rw [Addr.add_lit]; exact row_blk k12 (fun j hj => by
    match j, hj with
    | 0, _ => rfl
    | 1, _ => rfl
    | j + 2, hj => exact absurd hj (by show ¬ j + 2 < 2; omega)), (cvC h.ch).toArray, rfl, by rw [Addr.add_lit]; exact row_blk k2 (fun j hj => by
    match j, hj with
    | 0, _ => rfl
    | 1, _ => rfl
    | j + 2, hj => exact absurd hj (by show ¬ j + 2 < 2; omega)), _, eq_Chan g.ch h.ch, c_dec (fun e2 => ?_) (fun n2 => no n2 (fun hq => hq.2.1) b02)⟩
  refine ⟨_, _, _, by rw [Addr.add_lit]; exact k12.cell rfl, _, _, _, by rw [Addr.add_lit]; exact k2.cell rfl, (c_Bytes (hg.1.below b02) (hh.1.below b02) h1).mono ?_⟩
  rintro _ w3 ⟨_, rfl, rfl, b3⟩
  have b03 := b02.trans (b3.mono b02.size)
  refine ⟨_, rfl, c_dec (fun e3 => ?_) (fun n3 => no n3 (fun hq => hq.2.2.1) b03)⟩
  have k13 := below_blk b3 k12.lt k12
  have k23 := below_blk b3 k2.lt k2
  refine ⟨_, _, _, by rw [Addr.add_lit]; exact k13.cell rfl, _, _, _, by rw [Addr.add_lit]; exact k23.cell rfl, (c_chans (hg.2.below b03) (hh.2.below b03) h2).mono ?_⟩
  rintro _ w4 ⟨_, rfl, rfl, b4⟩
  refine ⟨_, rfl, ?_, b03.trans (b4.mono b03.size)⟩
  congr 1
  rw [decide_eq_decide]
  exact ⟨fun e => ⟨e1, e2, e3, e⟩, fun e => e.2.2.2⟩
/-- What a write told. -/
structure SentD where
  how : Int
  n : Int
  xs : List UInt8
  ch : Ch
  wk : List Ch
def sentC (g : SentD) (q : Option Addr) (c : Nat) (q' : Option Addr) (c' : Nat) : Array Value := #[.int .i64 g.how, .int .i64 g.n, .slice q g.xs.length c, .int .i64 g.ch.1, .int .i64 g.ch.2, .slice q' g.wk.length c']
def SentAt (w : World) (g : SentD) (q q' : Option Addr) : Prop := Rd 1 w q g.xs.length (bv g.xs) ∧ Rd 2 w q' g.wk.length (cvs g.wk)
theorem SentAt.below {w w' : World} {g : SentD} {q q' : Option Addr} (h : SentAt w g q q') (b : Below w.heap.size w w') : SentAt w' g q q' := ⟨h.1.below b, h.2.below b⟩
theorem c_sent {g h : SentD} {q q' p p' : Option Addr} {c c' d d' : Nat} {w : World} (hg : SentAt w g q q') (hh : SentAt w h p p') (h1 : g.xs.length ≤ maxLen) (h2 : g.wk.length ≤ maxLen) :
    Calls Tryd.prog 43 #[.agg (sentC g q c q' c'), .agg (sentC h p d p' d')] w (Ret fun v w' => v = .bool (decide (g.how = h.how ∧ g.n = h.n ∧ g.ch = h.ch ∧ g.xs = h.xs ∧ g.wk = h.wk)) ∧ Below w.heap.size w w') := by
  refine W43_ok _ _ w _ (newW_intro fun a1 w1 k1 l1 b1 => newW_intro fun a2 w2 k2 l2 b2 => ?_)
  have z1 := b1.size
  have b02 := b1.trans (b2.mono z1)
  have k12 := below_blk b2 k1.lt k1
  have no : ∀ {p : Prop} {w' : World}, ¬ p → (g.how = h.how ∧ g.n = h.n ∧ g.ch = h.ch ∧ g.xs = h.xs ∧ g.wk = h.wk → p) → Below w.heap.size w w' → Value.bool false = .bool (decide (g.how = h.how ∧ g.n = h.n ∧ g.ch = h.ch ∧ g.xs = h.xs ∧ g.wk = h.wk)) ∧ Below w.heap.size w w' := fun hp hc b => ⟨by rw [decide_eq_false fun hq => hp (hc hq)], b⟩
  refine ⟨_, k12.cell rfl, _, k2.cell rfl, c_eq (fun e1 => ?_) (fun n1 => no n1 (fun hq => hq.1) b02)⟩
  refine ⟨_, by rw [Addr.add_lit]; exact k12.cell rfl, _, by rw [Addr.add_lit]; exact k2.cell rfl, c_eq (fun e0 => ?_) (fun n1 => no n1 (fun hq => hq.2.1) b02)⟩
  refine ⟨(cvC g.ch).toArray, rfl, by rw [Addr.add_lit]; exact row_blk k12 (fun j hj => by
    match j, hj with
    | 0, _ => rfl
    | 1, _ => rfl
    | j + 2, hj => exact absurd hj (by show ¬ j + 2 < 2; omega)), (cvC h.ch).toArray, rfl, by rw [Addr.add_lit]; exact row_blk k2 (fun j hj => by
    match j, hj with
    | 0, _ => rfl
    | 1, _ => rfl
    | j + 2, hj => exact absurd hj (by show ¬ j + 2 < 2; omega)), _, eq_Chan g.ch h.ch, c_dec (fun e2 => ?_) (fun n2 => no n2 (fun hq => hq.2.2.1) b02)⟩
  refine ⟨_, _, _, by rw [Addr.add_lit]; exact k12.cell rfl, _, _, _, by rw [Addr.add_lit]; exact k2.cell rfl, (c_Bytes (hg.1.below b02) (hh.1.below b02) h1).mono ?_⟩
  rintro _ w3 ⟨_, rfl, rfl, b3⟩
  have b03 := b02.trans (b3.mono b02.size)
  refine ⟨_, rfl, c_dec (fun e3 => ?_) (fun n3 => no n3 (fun hq => hq.2.2.2.1) b03)⟩
  have k13 := below_blk b3 k12.lt k12
  have k23 := below_blk b3 k2.lt k2
  refine ⟨_, _, _, by rw [Addr.add_lit]; exact k13.cell rfl, _, _, _, by rw [Addr.add_lit]; exact k23.cell rfl, (c_chans (hg.2.below b03) (hh.2.below b03) h2).mono ?_⟩
  rintro _ w4 ⟨_, rfl, rfl, b4⟩
  refine ⟨_, rfl, ?_, b03.trans (b4.mono b03.size)⟩
  congr 1
  rw [decide_eq_decide]
  exact ⟨fun e => ⟨e1, e0, e2, e3, e⟩, fun e => e.2.2.2.2⟩
end Go.Proofs.YthkcdkldpbndnaaDoor
