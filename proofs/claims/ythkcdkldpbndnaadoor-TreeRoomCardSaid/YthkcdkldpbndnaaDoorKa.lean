/- The memory of frames: bytes written over, numbers of bytes; get and put. No condition. -/
import Derived.Test.YthkcdkldpbndnaaDoorBy
import Derived.Test.YthkcdkldpbndnaaDoorWr
import Derived.Test.YthkcdkldpbndnaaDoorHu
set_option linter.unusedVariables false
namespace Go.Proofs.YthkcdkldpbndnaaDoor
open Go.RowKit Go.Hx
/-- bs, with x written over it from o on. -/
def ovl (bs : List UInt8) (o : Nat) (x : List UInt8) : List UInt8 := bs.take o ++ x ++ bs.drop (o + x.length)
theorem ovl_len {bs : List UInt8} {o : Nat} {x : List UInt8} (h : o + x.length ≤ bs.length) : (ovl bs o x).length = bs.length := by
  unfold ovl
  simp only [List.length_append, List.length_take, List.length_drop]
  omega
theorem ovl_nil (bs : List UInt8) (o : Nat) : ovl bs o [] = bs := by simp [ovl]
theorem ovl_get {bs : List UInt8} {o : Nat} {x : List UInt8} (h : o + x.length ≤ bs.length) (j : Nat) : (ovl bs o x)[j]? = if o ≤ j ∧ j < o + x.length then x[j - o]? else bs[j]? := by
  unfold ovl
  rcases Nat.lt_or_ge j o with h1 | h1
  · rw [if_neg (by omega), List.append_assoc, List.getElem?_append_left (by rw [List.length_take]; omega), List.getElem?_take_of_lt h1]
  · rw [List.append_assoc, List.getElem?_append_right (by rw [List.length_take]; omega), List.length_take, Nat.min_eq_left (by omega)]
    rcases Nat.lt_or_ge j (o + x.length) with h2 | h2
    · rw [if_pos ⟨h1, h2⟩, List.getElem?_append_left (by omega)]
    · rw [if_neg (by omega), List.getElem?_append_right (by omega), List.getElem?_drop]
      congr 1; omega
theorem ovl_snoc {bs : List UInt8} {o : Nat} {x : List UInt8} {b : UInt8} (h : o + x.length < bs.length) : (ovl bs o x).set (o + x.length) b = ovl bs o (x ++ [b]) := by
  apply List.ext_getElem?
  intro j
  have hl : (x ++ [b]).length = x.length + 1 := by simp
  rw [List.getElem?_set, ovl_get (bs := bs) (o := o) (x := x ++ [b]) (by rw [hl]; omega) j, hl, ovl_len (by omega)]
  by_cases hj : o + x.length = j
  · subst hj
    rw [if_pos rfl, if_pos h, if_pos (by omega), show o + x.length - o = x.length by omega]
    simp
  · rw [if_neg hj, ovl_get (by omega)]
    by_cases h1 : o ≤ j ∧ j < o + x.length
    · rw [if_pos h1, if_pos (by omega), List.getElem?_append_left (by omega)]
    · rw [if_neg h1, if_neg (by omega)]
theorem ovl_cells {bs : List UInt8} {o : Nat} {x : List UInt8} (h : o + x.length ≤ bs.length) : ovw (bv bs).toArray o (bv x) = (bv (ovl bs o x)).toArray := by
  apply Array.ext'
  rw [ovw_list _ _ _ (by rw [bv_length, List.size_toArray, bv_length]; omega)]
  simp only [ovl, bv_app, bv_length, ← bv_take, ← bv_drop]
/-- A number's bytes, the low one first. -/
def leN : Nat → Nat → List UInt8
  | 0, _ => []
  | n + 1, v => UInt8.ofNat (v % 256) :: leN n (v / 256)
theorem leN_len : ∀ (n v : Nat), (leN n v).length = n
  | 0, _ => rfl
  | n + 1, v => by rw [leN, List.length_cons, leN_len n]
def unle : List UInt8 → Nat
  | [] => 0
  | b :: r => b.toNat + 256 * unle r
theorem unle_lt : ∀ (l : List UInt8), unle l < 256 ^ l.length
  | [] => by simp [unle]
  | b :: r => by
    have h := unle_lt r
    have hb := b.toNat_lt
    rw [unle, List.length_cons, Nat.pow_succ]
    omega
theorem unle_leN : ∀ (n v : Nat), v < 256 ^ n → unle (leN n v) = v
  | 0, v, h => by simp at h; simp [leN, unle, h]
  | n + 1, v, h => by
    rw [Nat.pow_succ] at h
    rw [leN, unle, unle_leN n (v / 256) (by omega), UInt8.toNat_ofNat']
    omega
theorem leN_get : ∀ (n v i : Nat), i < n → (leN n v)[i]? = some (UInt8.ofNat (v / 256 ^ i % 256))
  | 0, _, _, h => by omega
  | n + 1, v, 0, _ => by simp [leN]
  | n + 1, v, i + 1, h => by
    rw [leN, List.getElem?_cons_succ, leN_get n _ i (by omega), Nat.div_div_eq_div_mul, Nat.pow_succ, Nat.mul_comm 256]
theorem fdiv8u (n : Int) : n.fdiv (2 ^ min (8 : Int).toNat IntKind.u64.bits) = n / 256 := by
  have e8 : (2 : Int) ^ min (8 : Int).toNat IntKind.u64.bits = 256 := by decide
  rw [e8, Int.fdiv_eq_ediv_of_nonneg _ (by omega)]
theorem u8_of (n : Nat) : IntKind.u8.wrap ((n : Nat) : Int) = (((UInt8.ofNat (n % 256)).toNat : Nat) : Int) := by
  unfold IntKind.wrap
  rw [UInt8.toNat_ofNat']
  simp only [IntKind.bits, IntKind.signed]
  simp
theorem wu64 (n : Nat) (hn : n < 18446744073709551616) : IntKind.u64.wrap ((n : Nat) : Int) = ((n : Nat) : Int) := by
  unfold IntKind.wrap
  simp only [IntKind.bits, IntKind.signed]
  simp
  omega
theorem wu32 (n : Nat) (hn : n < 4294967296) : IntKind.u32.wrap ((n : Nat) : Int) = ((n : Nat) : Int) := by
  unfold IntKind.wrap
  simp only [IntKind.bits, IntKind.signed]
  simp
  omega
/-- put[uint64]: the slice's bytes are the number's. -/
theorem c_put8 {w : World} {mb o c : Nat} {bs : List UInt8} {v : Nat} (hB : Blk w mb (bv bs).toArray 5) (ho : o + 8 ≤ bs.length) :
    Calls Tryd.prog 129 #[.slice (some ⟨mb, o, none⟩) 8 c, .int .u64 ((v : Nat) : Int)] w (Ret fun r w' => r = .tuple #[] ∧ Blk w' mb (bv (ovl bs o (leN 8 v))).toArray 5 ∧ Mod mb w w' ∧ w'.heap.size = w.heap.size) := by
  refine W129_ok _ _ _ _ w _ ⟨fun t w' => ∃ i : Nat, t = (((v / 256 ^ i : Nat) : Int), (i : Int), ()) ∧ i ≤ 8 ∧ Blk w' mb (bv (ovl bs o ((leN 8 v).take i))).toArray 5 ∧ Mod mb w w' ∧ w'.heap.size = w.heap.size, fun t _ => 8 - t.2.1.toNat,
    ⟨(((v : Nat) : Int), ((0 : Nat) : Int), ()), rfl, 0, by simp, Nat.zero_le _, by rw [List.take_zero, ovl_nil]; exact hB, Mod.refl _ _, rfl⟩, ?_⟩
  rintro _ _ w1 ⟨i, rfl, hi, k1, m1, s1⟩
  refine c_dec (fun hlt => ?_) (fun hge => ?_)
  · have hlt : i < 8 := by
      have : (i : Int) < ((8 : Nat) : Int) := hlt
      omega
    have hl8 := leN_len 8 v
    have htl : ((leN 8 v).take i).length = i := by rw [List.length_take]; omega
    refine ⟨⟨Int.natCast_nonneg i, by show (i : Int) < ((8 : Nat) : Int); omega⟩, ?_⟩
    dsimp only
    rw [u8_of, Int.toNat_natCast, Addr.add_lit, Nat.mul_one, fdiv8u]
    refine stC_intro k1 (by rw [List.size_toArray, bv_length, ovl_len (by omega)]; omega) fun w2 k2 m2 s2 => ⟨by decide, ?_⟩
    have hb := leN_get 8 v i hlt
    refine ⟨(((v / 256 ^ (i + 1) : Nat) : Int), ((i + 1 : Nat) : Int), ()), ?_, ⟨i + 1, rfl, hlt, ?_, m1.trans m2, by omega⟩, ?_⟩
    · rw [step1 hlt (by omega)]
      have e : ((v / 256 ^ i : Nat) : Int) / 256 = ((v / 256 ^ (i + 1) : Nat) : Int) := by
        rw [Nat.pow_succ, ← Nat.div_div_eq_div_mul]; omega
      rw [e]; rfl
    · rw [List.setIfInBounds_toArray, bv_set] at k2
      have e := ovl_snoc (bs := bs) (o := o) (x := (leN 8 v).take i) (b := UInt8.ofNat (v / 256 ^ i % 256)) (by omega)
      rw [htl] at e
      rw [e, ← take_snoc hb] at k2
      exact k2
    · show 8 - (((i + 1 : Nat) : Int)).toNat < 8 - (i : Int).toNat
      omega
  · have hge : i = 8 := by
      have : ¬ (i : Int) < ((8 : Nat) : Int) := hge
      omega
    subst hge
    rw [List.take_of_length_le (by rw [leN_len]; omega)] at k1
    exact ⟨rfl, k1, m1, s1⟩
theorem c_put4 {w : World} {mb o c : Nat} {bs : List UInt8} {v : Nat} (hv : v < 4294967296) (hB : Blk w mb (bv bs).toArray 5) (ho : o + 4 ≤ bs.length) :
    Calls Tryd.prog 97 #[.slice (some ⟨mb, o, none⟩) 4 c, .int .u32 ((v : Nat) : Int)] w (Ret fun r w' => r = .tuple #[] ∧ Blk w' mb (bv (ovl bs o (leN 4 v))).toArray 5 ∧ Mod mb w w' ∧ w'.heap.size = w.heap.size) := by
  refine W97_ok _ _ _ _ w _ ⟨fun t w' => ∃ i : Nat, t = (((v / 256 ^ i : Nat) : Int), (i : Int), ()) ∧ i ≤ 4 ∧ Blk w' mb (bv (ovl bs o ((leN 4 v).take i))).toArray 5 ∧ Mod mb w w' ∧ w'.heap.size = w.heap.size, fun t _ => 4 - t.2.1.toNat,
    ⟨(((v : Nat) : Int), ((0 : Nat) : Int), ()), rfl, 0, by simp, Nat.zero_le _, by rw [List.take_zero, ovl_nil]; exact hB, Mod.refl _ _, rfl⟩, ?_⟩
  rintro _ _ w1 ⟨i, rfl, hi, k1, m1, s1⟩
  refine c_dec (fun hlt => ?_) (fun hge => ?_)
  · have hlt : i < 4 := by
      have : (i : Int) < ((4 : Nat) : Int) := hlt
      omega
    have hl8 := leN_len 4 v
    have htl : ((leN 4 v).take i).length = i := by rw [List.length_take]; omega
    have hvi : v / 256 ^ i < 4294967296 := Nat.lt_of_le_of_lt (Nat.div_le_self _ _) hv
    refine ⟨⟨Int.natCast_nonneg i, by show (i : Int) < ((4 : Nat) : Int); omega⟩, ?_⟩
    dsimp only
    rw [u8_of, Int.toNat_natCast, Addr.add_lit, Nat.mul_one, fdiv8u]
    refine stC_intro k1 (by rw [List.size_toArray, bv_length, ovl_len (by omega)]; omega) fun w2 k2 m2 s2 => ⟨by decide, ?_⟩
    have hb := leN_get 4 v i hlt
    refine ⟨(((v / 256 ^ (i + 1) : Nat) : Int), ((i + 1 : Nat) : Int), ()), ?_, ⟨i + 1, rfl, hlt, ?_, m1.trans m2, by omega⟩, ?_⟩
    · rw [step1 hlt (by omega)]
      have e1 := wu64 (v / 256 ^ i) (by omega)
      have e2 : IntKind.u32.wrap (((v / 256 ^ i : Nat) : Int) / 256) = ((v / 256 ^ (i + 1) : Nat) : Int) := by
        have e : ((v / 256 ^ i : Nat) : Int) / 256 = ((v / 256 ^ (i + 1) : Nat) : Int) := by
          rw [Nat.pow_succ, ← Nat.div_div_eq_div_mul]; omega
        rw [e]
        exact wu32 _ (Nat.lt_of_le_of_lt (Nat.div_le_self _ _) hv)
      rw [e1, e2]; rfl
    · rw [List.setIfInBounds_toArray, bv_set] at k2
      have e := ovl_snoc (bs := bs) (o := o) (x := (leN 4 v).take i) (b := UInt8.ofNat (v / 256 ^ i % 256)) (by omega)
      rw [htl] at e
      rw [e, ← take_snoc hb] at k2
      exact k2
    · show 4 - (((i + 1 : Nat) : Int)).toNat < 4 - (i : Int).toNat
      omega
  · have hge : i = 4 := by
      have : ¬ (i : Int) < ((4 : Nat) : Int) := hge
      omega
    subst hge
    rw [List.take_of_length_le (by rw [leN_len]; omega)] at k1
    exact ⟨rfl, k1, m1, s1⟩
theorem shl_or {v b : Nat} (hv : v < 72057594037927936) (hb : b < 256) : IntKind.u64.wrap (((BitVec.ofInt IntKind.u64.bits (IntKind.u64.wrap (((v : Nat) : Int) * 2 ^ min (8 : Int).toNat IntKind.u64.bits)) ||| BitVec.ofInt IntKind.u64.bits (IntKind.u64.wrap ((b : Nat) : Int))).toNat : Nat)) = ((b + 256 * v : Nat) : Int) := by
  have e8 : (2 : Int) ^ min (8 : Int).toNat IntKind.u64.bits = 256 := by decide
  have e1 : ((v : Nat) : Int) * 256 = ((v * 256 : Nat) : Int) := by omega
  rw [e8, e1, wu64 (v * 256) (by omega), wu64 b (by omega)]
  have e : (BitVec.ofInt IntKind.u64.bits ((v * 256 : Nat) : Int) ||| BitVec.ofInt IntKind.u64.bits ((b : Nat) : Int)).toNat = b + 256 * v := by
    show (BitVec.ofInt 64 ((v * 256 : Nat) : Int) ||| BitVec.ofInt 64 ((b : Nat) : Int)).toNat = _
    rw [BitVec.toNat_or, BitVec.toNat_ofInt, BitVec.toNat_ofInt]
    have h1 : (((v * 256 : Nat) : Int) % ((2 ^ 64 : Nat) : Int)).toNat = v * 256 := by omega
    have h2 : (((b : Nat) : Int) % ((2 ^ 64 : Nat) : Int)).toNat = b := by omega
    rw [h1, h2]
    have h3 := Nat.shiftLeft_add_eq_or_of_lt (a := v) (b := b) (i := 8) (by omega)
    rw [Nat.shiftLeft_eq] at h3
    have h4 : v * 256 ||| b = v * 256 + b := h3.symm
    rw [h4]; omega
  rw [e, wu64 _ (by omega)]
theorem drop_unle {xs : List UInt8} {i : Nat} {b : UInt8} (h : xs[i]? = some b) : unle (xs.drop i) = b.toNat + 256 * unle (xs.drop (i + 1)) := by
  obtain ⟨h1, h2⟩ := List.getElem?_eq_some_iff.1 h
  rw [List.drop_eq_getElem_cons h1, h2]
  rfl
/-- get[uint64]: the number of eight bytes. -/
theorem c_get8 {w : World} {q : Option Addr} {c : Nat} {xs : List UInt8} (hx : Rd 1 w q 8 (bv xs)) :
    Calls Tryd.prog 145 #[.slice q 8 c] w (Ret fun r w' => r = .int .u64 ((unle xs : Nat) : Int) ∧ w = w') := by
  have lx : xs.length = 8 := by have := hx.len; rw [bv_length, Nat.mul_one] at this; exact this
  refine W145_ok _ _ _ w _ ⟨fun t w' => ∃ i : Nat, t = (((unle (xs.drop i) : Nat) : Int), (i : Int) - 1, ()) ∧ i ≤ 8 ∧ w = w', fun t _ => (t.2.1 + 1).toNat,
    ⟨(((0 : Nat) : Int), (7 : Int), ()), ?_, 8, ?_, Nat.le_refl _, rfl⟩, ?_⟩
  · rw [wrap_in (by decide) (by decide)]; rfl
  · rw [List.drop_of_length_le (by omega)]; rfl
  rintro _ _ _ ⟨i, rfl, hi, rfl⟩
  refine c_dec (fun hge => ?_) (fun hlt => ?_)
  · obtain ⟨j, rfl⟩ : ∃ j, i = j + 1 := ⟨i - 1, by
      have : (i : Int) - 1 ≥ 0 := hge
      omega⟩
    have e : ((j + 1 : Nat) : Int) - 1 = (j : Int) := by omega
    dsimp only
    rw [e]
    refine ⟨by decide, rd_byte hx (by omega) fun b hb => ?_⟩
    have hl := unle_lt (xs.drop (j + 1))
    have hl7 : unle (xs.drop (j + 1)) < 72057594037927936 := Nat.lt_of_lt_of_le hl (by
      have : (xs.drop (j + 1)).length ≤ 7 := by rw [List.length_drop]; omega
      exact Nat.le_trans (Nat.pow_le_pow_right (by decide) this) (by decide))
    rw [shl_or hl7 b.toNat_lt, ← drop_unle hb]
    refine ⟨(((unle (xs.drop j) : Nat) : Int), (j : Int) - 1, ()), ?_, ⟨j, rfl, by omega, rfl⟩, ?_⟩
    · rw [wrap_in (by omega) (by omega)]; rfl
    · show ((j : Int) - 1 + 1).toNat < ((j : Int) + 1).toNat
      omega
  · have : i = 0 := by
      have : ¬ (i : Int) - 1 ≥ 0 := hlt
      omega
    subst this
    exact ⟨rfl, rfl⟩
end Go.Proofs.YthkcdkldpbndnaaDoor
