/- The laws' helpers on bytes: Bytes, CopyBytes, Lend, Kept: what they hand back. No condition. -/
import Derived.Test.YthkcdkldpbndnaaDoorHs
import Derived.Test.YthkcdkldpbndnaaDoorWy
set_option linter.unusedVariables false
namespace Go.Proofs.YthkcdkldpbndnaaDoor
open Go.RowKit Go.Hx
/-- It comes back with a value, and Q holds of it and the world. -/
def Ret (Q : Value → World → Prop) (e : Ending) (w' : World) : Prop := ∃ v, e = .returned v ∧ Q v w'
theorem kBs : slT Tryd.prog 24 5 = true := by kernel_rfl
theorem kB : infB Tryd.prog 5 1 1 = true := by kernel_rfl
theorem step1 {i n : Nat} (h : i < n) (hn : n ≤ 9223372036854775807) : IntKind.i64.wrap ((i : Int) + 1) = ((i + 1 : Nat) : Int) := by rw [wrap_in (by omega) (by omega)]; omega
theorem take_snoc {xs : List UInt8} {i : Nat} {b : UInt8} (h : xs[i]? = some b) : xs.take (i + 1) = xs.take i ++ [b] := by
  rw [List.take_add_one, h]; rfl

theorem c_Bytes {xb yb : Option Addr} {xl xc yl yc : Nat} {xs ys : List UInt8} {w : World} (hx : Rd 1 w xb xl (bv xs)) (hy : Rd 1 w yb yl (bv ys)) (hm : xl ≤ maxLen) :
    Calls Tryd.prog 21 #[.slice xb xl xc, .slice yb yl yc] w (Ret fun v w' => v = .bool (decide (xs = ys)) ∧ Below w.heap.size w w') := by
  refine W21_ok _ _ _ _ _ _ w _ ?_
  have lx : xs.length = xl := by have := hx.len; rw [bv_length, Nat.mul_one] at this; exact this
  have ly : ys.length = yl := by have := hy.len; rw [bv_length, Nat.mul_one] at this; exact this
  refine c_ne (fun h => ⟨?_, Below.refl _ _⟩) (fun h => ?_)
  · rw [decide_eq_false]; rintro rfl; omega
  refine ⟨fun t w' => ∃ i : Nat, t = ((i : Int), ()) ∧ i ≤ xl ∧ xs.take i = ys.take i ∧ Below w.heap.size w w', fun t _ => xl - t.1.toNat, ⟨(((0 : Nat) : Int), ()), rfl, 0, rfl, Nat.zero_le _, by simp, Below.refl _ _⟩, ?_⟩
  rintro _ _ w1 ⟨i, rfl, hi, he, hb⟩
  refine c_dec (fun hlt => ?_) (fun hge => ?_)
  · have hlt : i < xl := by simpa using hlt
    have b1 : Below w.heap.size w w1.drew := hb.trans ⟨rfl, rfl, rfl, Nat.le_refl _, fun _ _ => rfl⟩
    refine rd_byte (hx.below b1) hlt fun a ha => ?_
    refine rd_byte (hy.below b1) (by omega) fun b hb' => ?_
    refine c_ne (fun hne => ⟨?_, b1⟩) (fun hab => ?_)
    · rw [decide_eq_false]
      rintro rfl
      rw [ha] at hb'; cases hb'; exact hne rfl
    · have hab : a = b := UInt8.toNat_inj.1 (by omega)
      subst hab
      refine ⟨(((i + 1 : Nat) : Int), ()), by (try dsimp only); rw [step1 hlt (by unfold maxLen at hm; omega)]; rfl, ⟨i + 1, rfl, hlt, by rw [take_snoc ha, take_snoc hb', he], b1⟩, ?_⟩
      show xl - (((i + 1 : Nat) : Int)).toNat < xl - (i : Int).toNat
      omega
  · refine ⟨?_, hb⟩
    have hge : ¬ i < xl := by simpa using hge
    rw [decide_eq_true]
    rwa [List.take_of_length_le (by omega), List.take_of_length_le (by omega)] at he

theorem c_CopyBytes {xb : Option Addr} {xl xc : Nat} {xs : List UInt8} {w : World} (hx : Rd 1 w xb xl (bv xs)) (hm : xl ≤ 140737488351232) :
    Calls Tryd.prog 26 #[.slice xb xl xc] w (Ret fun v w' => ∃ q c, v = .slice q xl c ∧ Ow 5 1 w.heap.size w' q xl c (bv xs) ∧ Below w.heap.size w w') := by
  refine W26_ok _ _ _ w _ ?_
  have lx : xs.length = xl := by have := hx.len; rw [bv_length, Nat.mul_one] at this; exact this
  refine ⟨fun t w' => ∃ (i : Nat) (q : Option Addr) (c : Nat), t = ((q, i, c), (i : Int), ()) ∧ i ≤ xl ∧ Ow 5 1 w.heap.size w' q i c (bv (xs.take i)) ∧ Below w.heap.size w w', fun t _ => xl - t.2.1.toNat, ⟨((none, 0, 0), ((0 : Nat) : Int), ()), rfl, 0, none, 0, rfl, Nat.zero_le _, Ow.nil _ _ _ _, Below.refl _ _⟩, ?_⟩
  rintro _ _ w1 ⟨i, q, c, rfl, hi, ho, hb⟩
  refine c_dec (fun hlt => ?_) (fun hge => ?_)
  · have hlt : i < xl := by simpa using hlt
    refine rd_byte (hx.below hb) hlt fun a ha => ?_
    refine ho.push hb.size kBs kB rfl (by decide) (fun u hu => by simp [Value.cells] at hu; rw [hu]; rfl) (by omega) (by unfold maxLen; omega) fun q' c' w' h1 h2 _ => ?_
    refine ⟨((q', i + 1, c'), ((i + 1 : Nat) : Int), ()), by (try dsimp only); rw [step1 hlt (by omega)]; rfl, ⟨i + 1, q', c', rfl, hlt, by rw [take_snoc ha, bv_app]; exact h1, hb.trans h2⟩, ?_⟩
    show xl - (((i + 1 : Nat) : Int)).toNat < xl - (i : Int).toNat
    omega
  · have hge : ¬ i < xl := by simpa using hge
    have e : i = xl := by omega
    subst e
    rw [List.take_of_length_le (by omega)] at ho
    exact ⟨q, c, rfl, ho, hb⟩

/-- What lies behind the end of what is lent. -/
def marks : List UInt8 := (List.range 64).map fun i => UInt8.ofNat (160 + i)
theorem marks_get {i : Nat} (h : i < 64) : marks[i]? = some (UInt8.ofNat (160 + i)) := by
  unfold marks
  rw [List.getElem?_map, List.getElem?_range h]; rfl
theorem mark_val {i : Nat} (h : i < 64) : IntKind.u8.wrap (IntKind.i64.wrap ((160 : Int) + (i : Int))) = (((UInt8.ofNat (160 + i)).toNat : Nat) : Int) := by
  rw [wrap_in (by omega) (by omega)]
  unfold IntKind.wrap
  simp only [IntKind.bits, IntKind.signed]
  simp
/-- What Lend hands back: a block of its own: the bytes, and the marks behind them. -/
def Lent (N : Nat) (w : World) (q : Option Addr) (n c : Nat) (xs : List UInt8) : Prop := ∃ b, q = some ⟨b, 0, none⟩ ∧ N ≤ b ∧ c = n + 64 ∧ xs.length = n ∧ Blk w b (bv (xs ++ marks)).toArray 5
theorem Lent.own {N : Nat} {w : World} {q : Option Addr} {n c : Nat} {xs : List UInt8} (h : Lent N w q n c xs) (hn : n + 64 ≤ maxLen) : Ow 5 1 N w q n c (bv xs) := by
  obtain ⟨b, rfl, hb, rfl, hl, hB⟩ := h
  refine ⟨by rw [bv_length, hl, Nat.mul_one], by omega, hn, .inr ⟨b, _, rfl, hb, hB, ?_, ?_⟩⟩
  · simp [bv_length, hl, marks]
  · simp only [bv_app]
    rw [List.take_append_of_le_length (by rw [bv_length]; omega), List.take_of_length_le (by rw [bv_length]; omega)]
theorem Lent.keep {N : Nat} {w w' : World} {q : Option Addr} {n c : Nat} {xs : List UInt8} (h : Lent N w q n c xs) (hb : ∀ a, q = some a → w'.heap[a.block]? = w.heap[a.block]?) : Lent N w' q n c xs := by
  obtain ⟨b, rfl, h1, h2, h3, lo, hi, h4, h5⟩ := h
  exact ⟨b, rfl, h1, h2, h3, lo, hi, (hb _ rfl).trans h4, h5⟩
theorem Lent.below {N : Nat} {w w' : World} {q : Option Addr} {n c : Nat} {xs : List UInt8} (h : Lent N w q n c xs) (hb : Below w.heap.size w w') : Lent N w' q n c xs :=
  h.keep fun a ha => by
    obtain ⟨b, rfl, _, _, _, h4⟩ := h
    cases ha
    exact hb.block _ h4.lt
theorem slB0 (b : Option Addr) (m : Nat) : slB b 0 m 1 = b := by
  unfold slB
  split
  · rfl
  · cases b with
    | none => rfl
    | some a => simp [Addr.add]
theorem c_Lend {xb : Option Addr} {xl xc : Nat} {xs : List UInt8} {w : World} (hx : Rd 1 w xb xl (bv xs)) (hm : xl ≤ 140737488351232) :
    Calls Tryd.prog 14 #[.slice xb xl xc] w (Ret fun v w' => ∃ q c, v = .slice q xl c ∧ Lent w.heap.size w' q xl c xs ∧ Below w.heap.size w w') := by
  refine W14_ok _ _ _ w _ ?_
  have lx : xs.length = xl := by have := hx.len; rw [bv_length, Nat.mul_one] at this; exact this
  have e64 : IntKind.i64.wrap (((xl : Nat) : Int) + 64) = ((xl + 64 : Nat) : Int) := by rw [wrap_in (by omega) (by omega)]; omega
  unfold W14
  rw [e64]
  refine ⟨⟨by omega, by omega, by omega, by omega⟩, newW_intro fun b w1 k1 l1 b1 => ?_⟩
  have hz1 := b1.size
  have o1 : Ow 5 1 w.heap.size w1 (some ⟨b, 0, none⟩) 0 (xl + 64) [] := ⟨by simp, Nat.zero_le _, by unfold maxLen; omega, .inr ⟨b, _, rfl, l1, k1, by simp; omega, by simp⟩⟩
  refine ⟨fun t w' => ∃ (i : Nat), t = ((some ⟨b, 0, none⟩, i, xl + 64), (i : Int), ()) ∧ i ≤ xl ∧ Ow 5 1 w.heap.size w' (some ⟨b, 0, none⟩) i (xl + 64) (bv (xs.take i)) ∧ Below w.heap.size w w', fun t _ => xl - t.2.1.toNat, ⟨((some ⟨b, 0, none⟩, 0, xl + 64), ((0 : Nat) : Int), ()), rfl, 0, rfl, Nat.zero_le _, o1, b1⟩, ?_⟩
  rintro _ _ w2 ⟨i, rfl, hi, ho, hb⟩
  refine c_dec (fun hlt => ?_) (fun hge => ?_)
  · have hlt : i < xl := by simpa using hlt
    refine rd_byte (hx.below hb) hlt fun a ha => ?_
    refine ho.pushIn hb.size kBs kB rfl (by decide) (fun u hu => by simp [Value.cells] at hu; rw [hu]; rfl) (by omega) fun w' h1 h2 _ => ?_
    refine ⟨((some ⟨b, 0, none⟩, i + 1, xl + 64), ((i + 1 : Nat) : Int), ()), by (try dsimp only); rw [step1 hlt (by omega)]; rfl, ⟨i + 1, rfl, hlt, by rw [take_snoc ha, bv_app]; exact h1, hb.trans h2⟩, ?_⟩
    show xl - (((i + 1 : Nat) : Int)).toNat < xl - (i : Int).toNat
    omega
  · have hge : ¬ i < xl := by simpa using hge
    have e : i = xl := by omega
    subst e
    rw [List.take_of_length_le (by omega)] at ho
    refine ⟨fun t w' => ∃ (j : Nat), t = ((some ⟨b, 0, none⟩, i + j, i + 64), (j : Int), ()) ∧ j ≤ 64 ∧ Ow 5 1 w.heap.size w' (some ⟨b, 0, none⟩) (i + j) (i + 64) (bv (xs ++ marks.take j)) ∧ Below w.heap.size w w', fun t _ => 64 - t.2.1.toNat, ⟨((some ⟨b, 0, none⟩, i, i + 64), ((0 : Nat) : Int), ()), rfl, 0, rfl, Nat.zero_le _, by simpa using ho, hb⟩, ?_⟩
    rintro _ _ w3 ⟨j, rfl, hj, ho, hb⟩
    refine c_dec (fun hlt => ?_) (fun hge => ?_)
    · have hlt : j < 64 := by simp at hlt; omega
      simp only
      rw [mark_val hlt]
      refine ho.pushIn hb.size kBs kB rfl (by decide) (fun u hu => by simp [Value.cells] at hu; rw [hu]; rfl) (by omega) fun w' h1 h2 _ => ?_
      refine ⟨((some ⟨b, 0, none⟩, i + (j + 1), i + 64), ((j + 1 : Nat) : Int), ()), by (try dsimp only); rw [step1 hlt (by omega)]; rfl, ⟨j + 1, rfl, hlt, by rw [take_snoc (marks_get hlt), ← List.append_assoc, bv_app (xs ++ _)]; exact h1, hb.trans h2⟩, ?_⟩
      show 64 - (((j + 1 : Nat) : Int)).toNat < 64 - (j : Int).toNat
      omega
    · have hge : ¬ j < 64 := by simp at hge; omega
      have e : j = 64 := by omega
      subst e
      refine ⟨⟨by omega, by show (i : Int) ≤ ((i + 64 : Nat) : Int); omega⟩, ?_⟩
      simp only
      rw [slB0]
      refine ⟨_, _, rfl, ⟨b, rfl, l1, rfl, lx, ?_⟩, hb⟩
      rcases ho.blk with ⟨h, _⟩ | ⟨b', cs, h1, h2, h3, h4, h5⟩
      · cases h
      · cases h1
        rw [List.take_of_length_le (i := 64) (by simp [marks])] at h5
        rw [List.take_of_length_le (by simp [h4])] at h5
        rw [← h5]
        exact h3

theorem c_Kept {N : Nat} {q xb : Option Addr} {xl xc c : Nat} {xs ys : List UInt8} {w : World} (hq : Lent N w q xl c ys) (hx : Rd 1 w xb xl (bv xs)) (hm : xl ≤ 140737488351232) :
    Calls Tryd.prog 18 #[.slice q xl c, .slice xb xl xc] w (Ret fun v w' => v = .bool (decide (ys = xs)) ∧ Below w.heap.size w w') := by
  refine W18_ok _ _ _ _ _ _ w _ ?_
  have lx : xs.length = xl := by have := hx.len; rw [bv_length, Nat.mul_one] at this; exact this
  refine (c_Bytes (hq.own (by unfold maxLen; omega)).rd hx (by unfold maxLen; omega)).mono ?_
  rintro e w1 ⟨v, rfl, rfl, b1⟩
  refine ⟨_, rfl, ?_⟩
  by_cases hh : ys = xs
  · subst hh
    simp only [decide_true, Bool.not_true, cond_false]
    have e64 : IntKind.i64.wrap (((xl : Nat) : Int) + 64) = ((xl + 64 : Nat) : Int) := by rw [wrap_in (by omega) (by omega)]; omega
    rw [e64]
    have q1 := hq.below b1
    obtain ⟨b, rfl, hN, rfl, hl, hB⟩ := q1
    refine ⟨⟨by omega, by omega⟩, ?_⟩
    refine ⟨fun t w' => ∃ i : Nat, t = ((i : Int), ()) ∧ i ≤ 64 ∧ w' = w1, fun t _ => 64 - t.1.toNat, ⟨(((0 : Nat) : Int), ()), rfl, 0, rfl, Nat.zero_le _, rfl⟩, ?_⟩
    rintro _ _ w2 ⟨i, rfl, hi, rfl⟩
    refine c_dec (fun hlt => ?_) (fun hge => ⟨by trivial, b1⟩)
    have hlt : i < 64 := by simp at hlt; omega
    rw [slB0]
    have ew : IntKind.i64.wrap (((xl : Nat) : Int) + (i : Int)) = ((xl + i : Nat) : Int) := by rw [wrap_in (by omega) (by omega)]; omega
    show _ ∧ _
    simp only
    rw [ew, mark_val hlt]
    refine ⟨⟨by omega, by omega⟩, (((UInt8.ofNat (160 + i)).toNat : Nat) : Int), ?_, ?_⟩
    · rw [Addr.add_lit]
      refine hB.cell (v := .int .u8 (((UInt8.ofNat (160 + i)).toNat : Nat) : Int)) ?_
      rw [List.getElem?_toArray, bv_get, Int.toNat_natCast, List.getElem?_append_right (by omega), show 0 + (xl + i) * 1 - ys.length = i by omega, marks_get hlt]
      rfl
    · refine c_ne (fun h => absurd rfl h) (fun _ => ⟨(((i + 1 : Nat) : Int), ()), by (try dsimp only); rw [step1 hlt (by omega)]; rfl, ⟨i + 1, rfl, hlt, by trivial⟩, ?_⟩)
      show 64 - (((i + 1 : Nat) : Int)).toNat < 64 - (i : Int).toNat
      omega
  · rw [decide_eq_false hh]
    exact ⟨rfl, b1⟩
end Go.Proofs.YthkcdkldpbndnaaDoor
