/- Words for strings: a string as its bytes; conversions; lists of strings. No condition. -/
import Derived.Test.YthkcdkldpbndnaaDoorHs
import Derived.Lib.Strings
import Derived.Lib.Bytealg
import Derived.Laws.IdiomStrings
set_option linter.unusedVariables false
namespace Go.Hx
open Go.RowKit
def str (l : List UInt8) : ByteArray := ⟨l.toArray⟩
theorem str_of (s : ByteArray) : s = str s.data.toList := (Go.Lib.mk_data s).symm
theorem str_list (l : List UInt8) : (str l).data.toList = l := rfl
theorem str_size (l : List UInt8) : (str l).size = l.length := by rw [Go.Lib.size_eq, str_list]
theorem str_extract (l : List UInt8) (a b : Nat) : (str l).extract a b = str ((l.drop a).take (b - a)) := Go.Lib.extract_eq _ _ _
theorem str_take (l : List UInt8) (n : Nat) : (str l).extract 0 n = str (l.take n) := by rw [str_extract]; simp
theorem str_drop (l : List UInt8) (n m : Nat) (h : l.length ≤ m) : (str l).extract n m = str (l.drop n) := by
  rw [str_extract, List.take_of_length_le]
  rw [List.length_drop]; omega
theorem str_get (l : List UInt8) (i : Nat) : (str l)[i]? = l[i]? := by
  by_cases h : i < l.length
  · rw [List.getElem?_eq_getElem h, getElem?_pos (str l) i (by rw [str_size]; exact h)]
    rfl
  · rw [List.getElem?_eq_none (by omega), getElem?_neg (str l) i (by rw [str_size]; exact h)]
theorem str_inj {a b : List UInt8} (h : str a = str b) : a = b := by
  have := congrArg (fun s : ByteArray => s.data.toList) h
  exact this
theorem strEq_str (a b : List UInt8) : strEq (str a) (str b) = decide (a = b) := by
  unfold strEq
  rw [Go.Lib.toList_data, Go.Lib.toList_data, str_list, str_list]
  by_cases h : a = b
  · subst h; simp
  · rw [decide_eq_false h]; simpa using h
theorem str_lit (a : Array UInt8) : (⟨a⟩ : ByteArray) = str a.toList := str_of _
/-- string(b). -/
theorem rd_string {P : Program} {w : World} {src dst e : TypeId} {q : Option Addr} {n c : Nat} {xs : List UInt8} (h : Rd 1 w q n (bv xs)) (hs : P.underlying src = some (.slice e)) (he : P.underlying e = some (.int .u8)) (hd : P.underlying dst = some .string) :
    rdP P (convert src dst (.slice q n c)) (.string (str xs)) w := by
  have hl := h.len
  rw [bv_length, Nat.mul_one] at hl
  subst hl
  cases q with
  | none =>
    have h0 := h.nil rfl
    have hx : xs = [] := List.length_eq_zero_iff.1 h0
    subst hx
    unfold rdP
    show Sem.run P (convert src dst (Value.slice none 0 c)) w = _
    rw [run_convert_bytes_string w src dst e none 0 c hs he hd]
    rfl
  | some a =>
    refine run_convert_bytes_back w src dst e a c xs hs he hd fun j hj => ?_
    exact h.cell rfl (by rw [bv_get, List.getElem?_eq_getElem hj]; rfl)
/-- The tail of a slice. -/
theorem slB_pos {b : Option Addr} {l m : Nat} (h : l < m) (size : Nat) : slB b l m size = b.map (fun a => a.add (l * size)) := by
  unfold slB; rw [if_neg (by omega)]
theorem Rd.drop {w : World} {q : Option Addr} {n c i : Nat} {vs : List Value} (h : Rd 1 w q n vs) (hi : i < n) (hc : n ≤ c) : Rd 1 w (slB q i c 1) (n - i) (vs.drop i) := by
  rw [slB_pos (by omega)]
  refine ⟨by rw [List.length_drop, h.len]; omega, fun hq => ?_, fun a hq => ?_⟩
  · cases q with
    | none => have := h.nil rfl; omega
    | some a => cases hq
  · cases q with
    | none => cases hq
    | some b =>
      cases hq
      intro j v hv
      rw [List.getElem?_toArray, List.getElem?_drop] at hv
      rw [Addr.add_add, Nat.mul_one]
      exact h.cell rfl hv
theorem Rd.take {w : World} {q : Option Addr} {n i : Nat} {vs : List Value} (h : Rd 1 w q n vs) (hi : i ≤ n) : Rd 1 w q i (vs.take i) := by
  refine ⟨by rw [List.length_take, h.len]; omega, fun hq => by have := h.nil hq; omega, fun a hq j v hv => ?_⟩
  rw [List.getElem?_toArray] at hv
  have hj := (List.getElem?_eq_some_iff.1 hv).1
  rw [List.length_take] at hj
  rw [List.getElem?_take_of_lt (by omega)] at hv
  exact h.cell hq hv
theorem bv_drop (xs : List UInt8) (n : Nat) : (bv xs).drop n = bv (xs.drop n) := by simp [bv, List.map_drop]
theorem bv_take (xs : List UInt8) (n : Nat) : (bv xs).take n = bv (xs.take n) := by simp [bv, List.map_take]
/-! ### Lists of strings -/
def sv (l : List (List UInt8)) : List Value := l.map fun s => .string (str s)
theorem sv_length (l : List (List UInt8)) : (sv l).length = l.length := by simp [sv]
theorem sv_get (l : List (List UInt8)) (i : Nat) : (sv l)[i]? = (l[i]?).map fun s => .string (str s) := by simp [sv]
theorem sv_app (l m : List (List UInt8)) : sv (l ++ m) = sv l ++ sv m := by simp [sv]
theorem sv_set (l : List (List UInt8)) (i : Nat) (s : List UInt8) : (sv l).set i (.string (str s)) = sv (l.set i s) := by simp [sv, List.map_set]
theorem sv_one (l : List (List UInt8)) : ∀ u ∈ sv l, one u = true := fun u hu => by
  simp only [sv, List.mem_map] at hu
  obtain ⟨b, _, rfl⟩ := hu
  rfl
/-- A string of a list. -/
theorem rd_str {w : World} {q : Option Addr} {n : Nat} {l : List (List UInt8)} (h : Rd 1 w q n (sv l)) {i : Nat} (hi : i < n) {K : ByteArray → Prop} (hK : ∀ s, l[i]? = some s → K (str s)) :
    nlW q fun a => (0 ≤ (i : Int) ∧ (i : Int) < ((n : Nat) : Int)) ∧ ∃ m : ByteArray, w.cell? (a.add ((i : Int).toNat * 1)) = some (.string m) ∧ K m :=
  h.at1 hi fun a v _ hv hc => by
    rw [sv_get] at hv
    cases e : l[i]? with
    | none => rw [e] at hv; cases hv
    | some b =>
      rw [e] at hv
      simp only [Option.map_some, Option.some.injEq] at hv
      exact ⟨_, by rw [Int.toNat_natCast, hc, ← hv], hK b e⟩
end Go.Hx
