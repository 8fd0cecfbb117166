/- AsmLoads: what Load computes, as plain Lean. No condition. -/
import Derived.Test.YtceciiemnagdoaaDoorHs
set_option linter.unusedVariables false
namespace Go.Proofs.YtceciiemnagdoaaDoor
open Go.RowKit Go.Hx
/-- An instruction's cells. -/
def insV (op rd rs imm : Int) : Array Value := #[.int .i64 op, .int .i64 rd, .int .i64 rs, .int .i64 0, .int .i64 imm, .int .i64 0]
def lo (v : Int) : Int := (v + 2048) % 4096 - 2048
def hi (v : Int) : Int := IntKind.i64.wrap (v - lo v) / 4096
def tzF : Nat → Int → Nat
  | 0, _ => 0
  | k + 1, h => if h % 2 = 0 then tzF k (h / 2) + 1 else 0
def tz (h : Int) : Nat := tzF 64 h
def oddP (n : Nat) (h : Int) : Prop := ∃ m : Int, h = 2 ^ n * m ∧ m % 2 = 1
theorem tzF_odd : ∀ (k : Nat) (h : Int), h ≠ 0 → -(2 ^ k : Nat) ≤ h → h < ((2 ^ k : Nat) : Int) → oddP (tzF k h) h ∧ tzF k h < k + 1
  | 0, h, h0, h1, h2 => by
    simp only [Nat.pow_zero] at h1 h2
    have : h = -1 := by omega
    subst this
    exact ⟨⟨-1, by simp [tzF], by decide⟩, by simp [tzF]⟩
  | k + 1, h, h0, h1, h2 => by
    unfold tzF
    rw [Nat.pow_succ] at h1 h2
    by_cases he : h % 2 = 0
    · rw [if_pos he]
      obtain ⟨⟨m, h3, h4⟩, h5⟩ := tzF_odd k (h / 2) (by omega) (by omega) (by omega)
      refine ⟨⟨m, ?_, h4⟩, by omega⟩
      rw [Int.pow_succ, Int.mul_right_comm, ← h3]
      omega
    · rw [if_neg he]
      exact ⟨⟨h, by simp, by omega⟩, by omega⟩
theorem tz_odd {h : Int} (h0 : h ≠ 0) (h1 : -9223372036854775808 ≤ h) (h2 : h < 9223372036854775808) : oddP (tz h) h :=
  (tzF_odd 64 h h0 (by omega) (by omega)).1
theorem oddP.lt {n : Nat} {h : Int} (o : oddP n h) (h1 : -9223372036854775808 ≤ h) (h2 : h < 9223372036854775808) : n < 64 := by
  obtain ⟨m, rfl, hm⟩ := o
  apply Classical.byContradiction
  intro hn
  have hp : (2 : Int) ^ 64 ≤ 2 ^ n := by
    have := Nat.pow_le_pow_right (n := 2) (by omega) (show 64 ≤ n by omega)
    exact_mod_cast this
  have h3 : (18446744073709551616 : Int) ≤ 2 ^ n := hp
  rcases Int.lt_or_le 0 m with h | h
  · have : (2 : Int) ^ n * 1 ≤ 2 ^ n * m := Int.mul_le_mul_of_nonneg_left (by omega) (by omega)
    omega
  · have : (2 : Int) ^ n * m ≤ 2 ^ n * (-1) := Int.mul_le_mul_of_nonneg_left (by omega) (by omega)
    omega
theorem wrap_i64 (n : Int) : IntKind.i64.wrap n = (n + 9223372036854775808) % 18446744073709551616 - 9223372036854775808 := by
  unfold IntKind.wrap
  simp only [IntKind.bits, IntKind.signed]
  simp
  split <;> omega
theorem wrap_u64 (n : Int) : IntKind.u64.wrap n = n % 18446744073709551616 := by
  unfold IntKind.wrap
  simp only [IntKind.bits, IntKind.signed]
  simp
theorem wrap_i32 (n : Int) : IntKind.i32.wrap n = (n + 2147483648) % 4294967296 - 2147483648 := by
  unfold IntKind.wrap
  simp only [IntKind.bits, IntKind.signed]
  simp
  split <;> omega
def isI32 (v : Int) : Bool := decide (-2147483648 ≤ v ∧ v ≤ 2147483647)
def small (rd v : Int) : List Value :=
  if v = lo v then (insV 22 rd 0 v).toList else (insV 1 rd 0 (IntKind.i64.wrap (IntKind.i32.wrap (IntKind.i64.wrap (v - lo v))))).toList ++ (if lo v = 0 then [] else (insV 41 rd rd (lo v)).toList)
/-- Load, at most d steps beyond 32 bits. -/
def ld : Nat → Int → Int → List Value
  | 0, rd, v => small rd v
  | d + 1, rd, v => if isI32 v then small rd v else ld d rd (hi v / 2 ^ tz (hi v)) ++ (insV 28 rd rd (12 + (tz (hi v) : Int))).toList ++ (if lo v = 0 then [] else (insV 22 rd rd (lo v)).toList)
/-- How large a value is at d steps. -/
def Bd : Nat → Int
  | 0 => 2147483647
  | 1 => 4398046511104
  | 2 => 9007199254740992
  | _ => 9223372036854775807
def InB (d : Nat) (v : Int) : Prop := -(Bd d) - 1 ≤ v ∧ v ≤ Bd d
theorem small_len (rd v : Int) : (small rd v).length ≤ 12 ∧ small rd v ≠ [] := by
  unfold small
  split
  · simp [insV]
  · split <;> simp [insV]
theorem hi_in {d : Nat} (hd : d < 3) {v : Int} (h : InB (d + 1) v) : InB d (hi v) := by
  unfold InB hi lo at *
  rw [wrap_i64]
  match d, hd with
  | 0, _ => simp only [Bd] at *; omega
  | 1, _ => simp only [Bd] at *; omega
  | 2, _ => simp only [Bd] at *; omega
theorem hi_ne {v : Int} (h1 : -9223372036854775808 ≤ v) (h2 : v < 9223372036854775808) (h : isI32 v = false) : hi v ≠ 0 := by
  unfold isI32 at h
  have h := of_decide_eq_false h
  unfold hi lo
  rw [wrap_i64]
  omega
theorem div_in {d : Nat} {h : Int} (n : Nat) (hb : InB d h) : InB d (h / 2 ^ n) := by
  have hp : (0 : Int) < 2 ^ n := by exact_mod_cast Nat.two_pow_pos n
  have h0 : 0 ≤ Bd d := by
    match d with
    | 0 | 1 | 2 => simp only [Bd]; omega
    | _ + 3 => simp only [Bd]; omega
  unfold InB at *
  generalize Bd d = B at *
  constructor
  · rw [Int.le_ediv_iff_mul_le hp]
    have : (-B - 1) * 2 ^ n ≤ (-B - 1) * 1 := Int.mul_le_mul_of_nonpos_left (by omega) (by omega)
    omega
  · rw [← Int.lt_add_one_iff, Int.ediv_lt_iff_lt_mul hp]
    have : (B + 1) * 1 ≤ (B + 1) * 2 ^ n := Int.mul_le_mul_of_nonneg_left (by omega) (by omega)
    omega
theorem InB.big {d : Nat} {v : Int} (h : InB d v) : -9223372036854775808 ≤ v ∧ v < 9223372036854775808 := by
  unfold InB at h
  match d with
  | 0 | 1 | 2 => simp only [Bd] at h; omega
  | _ + 3 => simp only [Bd] at h; omega
theorem ld_len : ∀ (d : Nat) (rd v : Int), (ld d rd v).length ≤ 12 * (d + 1) ∧ ld d rd v ≠ []
  | 0, rd, v => small_len rd v
  | d + 1, rd, v => by
    have h1 := small_len rd v
    unfold ld
    split
    · exact ⟨by omega, h1.2⟩
    · obtain ⟨h2, h3⟩ := ld_len d rd (hi v / 2 ^ tz (hi v))
      constructor
      · rw [List.length_append, List.length_append]
        have h4 : ∀ a b c e, (insV a b c e).toList.length = 6 := fun _ _ _ _ => rfl
        split
        · rw [h4]; simp; omega
        · rw [h4, h4]; omega
      · simp [insV]
/-! ### The two ways to the low part -/
theorem and_toNat (a b : Int) : (BitVec.ofInt 64 a &&& BitVec.ofInt 64 b).toNat = (a % 18446744073709551616).toNat &&& (b % 18446744073709551616).toNat := by
  rw [BitVec.toNat_and, BitVec.toNat_ofInt, BitVec.toNat_ofInt]
  rfl
theorem lo_shift {v : Int} (h1 : -9223372036854775808 ≤ v) (h2 : v < 9223372036854775808) : (IntKind.i64.wrap (v * 2 ^ min (52 : Int).toNat IntKind.i64.bits)).fdiv (2 ^ min (52 : Int).toNat IntKind.i64.bits) = lo v := by
  have e : (2 : Int) ^ min (52 : Int).toNat IntKind.i64.bits = 4503599627370496 := by decide
  rw [e, Int.fdiv_eq_ediv_of_nonneg _ (by omega), wrap_i64]
  unfold lo
  omega
theorem and4095 (v : Int) : IntKind.i64.wrap (((BitVec.ofInt IntKind.i64.bits v &&& BitVec.ofInt IntKind.i64.bits (4095 : Int)).toNat : Nat)) = v % 4096 := by
  show IntKind.i64.wrap (((BitVec.ofInt 64 v &&& BitVec.ofInt 64 (4095 : Int)).toNat : Nat)) = _
  rw [and_toNat, show ((4095 : Int) % 18446744073709551616).toNat = 2 ^ 12 - 1 by decide, Nat.and_two_pow_sub_one_eq_mod, wrap_i64]
  omega
theorem and1 (v : Int) : IntKind.i64.wrap (((BitVec.ofInt IntKind.i64.bits v &&& BitVec.ofInt IntKind.i64.bits (1 : Int)).toNat : Nat)) = v % 2 := by
  show IntKind.i64.wrap (((BitVec.ofInt 64 v &&& BitVec.ofInt 64 (1 : Int)).toNat : Nat)) = _
  rw [and_toNat, show ((1 : Int) % 18446744073709551616).toNat = 2 ^ 1 - 1 by decide, Nat.and_two_pow_sub_one_eq_mod, wrap_i64]
  omega
/-! ### The lowest bit -/
theorem low_bit {X : BitVec 64} {n M : Nat} (hX : X.toNat = 2 ^ n * M) (hM : M % 2 = 1) (hn : n < 64) : (X &&& -X).toNat = 2 ^ n := by
  have hb : ∀ j, X.getLsbD j = (decide (n ≤ j) && M.testBit (j - n)) := fun j => by
    rw [← BitVec.testBit_toNat, hX, Nat.testBit_two_pow_mul]
  have hM0 : M.testBit 0 = true := by rw [Nat.testBit_zero]; simp [hM]
  have e : X &&& -X = BitVec.twoPow 64 n := by
    apply BitVec.eq_of_getLsbD_eq
    intro i hi
    rw [BitVec.getLsbD_and, BitVec.getLsbD_neg, BitVec.getLsbD_twoPow, hb i]
    rcases Nat.lt_trichotomy i n with h | h | h
    · rw [decide_eq_false (by omega : ¬ n ≤ i), decide_eq_false (by omega : ¬ n = i)]
      simp
    · subst h
      have hno : ¬ ∃ j, j < i ∧ X.getLsbD j = true := fun ⟨j, h1, h2⟩ => by
        rw [hb, decide_eq_false (by omega : ¬ i ≤ j)] at h2; cases h2
      simp [hM0, hi, hno]
    · have hyes : ∃ j, j < i ∧ X.getLsbD j = true := ⟨n, h, by rw [hb, Nat.sub_self, hM0]; simp⟩
      rw [decide_eq_false (by omega : ¬ n = i), decide_eq_true hi, decide_eq_true hyes]
      simp
  rw [e, BitVec.toNat_twoPow, Nat.mod_eq_of_lt (Nat.pow_lt_pow_right (by omega) hn)]
theorem neg_and {x : Int} {n : Nat} (h1 : 0 ≤ x) (h2 : x < 18446744073709551616) {M : Nat} (hx : x.toNat = 2 ^ n * M) (hM : M % 2 = 1) (hn : n < 64) :
    (BitVec.ofInt IntKind.u64.bits x &&& BitVec.ofInt IntKind.u64.bits (IntKind.u64.wrap (0 - x))).toNat = 2 ^ n := by
  have e : BitVec.ofInt 64 (IntKind.u64.wrap (0 - x)) = -(BitVec.ofInt 64 x) := by
    apply BitVec.eq_of_toNat_eq
    rw [BitVec.toNat_neg, BitVec.toNat_ofInt, BitVec.toNat_ofInt, wrap_u64]
    omega
  show (BitVec.ofInt 64 x &&& BitVec.ofInt 64 (IntKind.u64.wrap (0 - x))).toNat = 2 ^ n
  rw [e]
  refine low_bit ?_ hM hn
  rw [BitVec.toNat_ofInt]
  omega
end Go.Proofs.YtceciiemnagdoaaDoor
