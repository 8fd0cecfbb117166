/- The law TreeBytes: two files in the root, as plain data. No condition. -/
import Derived.Test.YthkcdkldpbndnaaDoorXa
set_option linter.unusedVariables false
namespace Go.Proofs.YthkcdkldpbndnaaDoor
open Go.RowKit Go.Hx Go.WideShapes
def fileND (d : List UInt8) : ND := ⟨2, 0, 0, 1, 0, d, []⟩
def MA : List ND := (M0.set 2 (fileND [])).set 1 { rootND with dir := rootND.dir ++ [(2, [97])] }
def MB : List ND := (MA.set 3 (fileND [])).set 1 { rootND with dir := rootND.dir ++ [(2, [97]), (3, [98])] }
set_option maxRecDepth 100000 in
theorem mkA : makeM M0 198 1 [47, 97] 2 0 0 = ((MA, 198), 2, 0) := by kernel_rfl
set_option maxRecDepth 100000 in
theorem mkB : makeM MA 198 1 [47, 98] 2 0 0 = ((MB, 198), 3, 0) := by kernel_rfl
/-- The two files' bytes. -/
def FS (da db : List UInt8) : List ND := (MB.set 2 (fileND da)).set 3 (fileND db)
theorem MB_len : MB.length = 200 := by kernel_rfl
set_option maxRecDepth 100000 in
theorem FS0 : MB = FS [] [] := by kernel_rfl
theorem FS2 (da db : List UInt8) : nd (FS da db) 2 = fileND da := by
  unfold FS
  rw [md_other (by decide), md_self (by rw [MB_len]; decide)]
theorem FS3 (da db : List UInt8) : nd (FS da db) 3 = fileND db := by
  unfold FS
  rw [md_self (by rw [List.length_set, MB_len]; decide)]
theorem FS_set2 (da db d : List UInt8) : (FS da db).set 2 (fileND d) = FS d db := by
  unfold FS
  rw [List.set_comm _ _ (by decide : (3 : Nat) ≠ 2), List.set_set]
theorem FS_set3 (da db d : List UInt8) : (FS da db).set 3 (fileND d) = FS da d := by
  unfold FS
  rw [List.set_set]
theorem there_FS (da db : List UInt8) : thereM (FS da db) 2 = true ∧ thereM (FS da db) 3 = true := by
  constructor
  · unfold thereM
    rw [show ((2 : Int)).toNat = 2 from rfl, FS2]; rfl
  · unfold thereM
    rw [show ((3 : Int)).toNat = 3 from rfl, FS3]; rfl
theorem file_size (d : List UInt8) : (fileND d).size = d.length := rfl
theorem FS_write2 {da db : List UInt8} {n o : Nat} {xs : List UInt8} (ho : o ≤ da.length) :
    writeM (FS da db) n 2 ((o : Nat) : Int) xs = ((FS (wrB da o (xs.take (wrN (fileND da) n o xs.length))) db, n - (blkN (o + wrN (fileND da) n o xs.length) - blkN da.length)), ((wrN (fileND da) n o xs.length : Nat) : Int)) := by
  unfold writeM
  have e2 : ((2 : Int)).toNat = 2 := rfl
  rw [e2, FS2, (there_FS da db).1, Int.toNat_natCast, if_neg]
  · rw [← FS_set2 da db]; rfl
  · rintro (h | h | h | h)
    · exact absurd h (by decide)
    · exact h rfl
    · omega
    · have h : ((da.length : Nat) : Int) < ((o : Nat) : Int) := h
      omega
theorem FS_write3 {da db : List UInt8} {n o : Nat} {xs : List UInt8} (ho : o ≤ db.length) :
    writeM (FS da db) n 3 ((o : Nat) : Int) xs = ((FS da (wrB db o (xs.take (wrN (fileND db) n o xs.length))), n - (blkN (o + wrN (fileND db) n o xs.length) - blkN db.length)), ((wrN (fileND db) n o xs.length : Nat) : Int)) := by
  unfold writeM
  have e2 : ((3 : Int)).toNat = 3 := rfl
  rw [e2, FS3, (there_FS da db).2, Int.toNat_natCast, if_neg]
  · rw [← FS_set3 da db]; rfl
  · rintro (h | h | h | h)
    · exact absurd h (by decide)
    · exact h rfl
    · omega
    · have h : ((db.length : Nat) : Int) < ((o : Nat) : Int) := h
      omega
theorem FS_bad {da db : List UInt8} {n : Nat} {o : Int} {xs : List UInt8} (ho : o < 0 ∨ ((da.length : Nat) : Int) < o) : writeM (FS da db) n 2 o xs = ((FS da db, n), -1) := by
  unfold writeM
  have e2 : ((2 : Int)).toNat = 2 := rfl
  rw [e2, FS2, if_pos]
  exact .inr (.inr ho)
theorem read_file {da db : List UInt8} {o m : Int} : readM (FS da db) 2 o m = if 0 ≤ o ∧ 0 ≤ m ∧ o ≤ ((da.length : Nat) : Int) then win da o.toNat (min m.toNat (da.length - o.toNat)) else [] := by
  unfold readM
  have e2 : ((2 : Int)).toNat = 2 := rfl
  rw [e2, FS2, (there_FS da db).1]
  by_cases h : 0 ≤ o ∧ 0 ≤ m ∧ o ≤ ((da.length : Nat) : Int)
  · rw [if_pos h, if_pos ⟨rfl, show (2 : Int) ≠ 3 by decide, h⟩]; rfl
  · rw [if_neg h, if_neg fun hc => h hc.2.2]
theorem look_size2 (da db : List UInt8) (b : Option Addr) (c : Nat) : (lookM (FS da db) 2 b c)[6]? = some (.int .i64 ((da.length : Nat) : Int)) := by
  unfold lookM
  have e2 : ((2 : Int)).toNat = 2 := rfl
  rw [(there_FS da db).1, e2, FS2, if_pos rfl]; rfl
theorem look_size3 (da db : List UInt8) (b : Option Addr) (c : Nat) : (lookM (FS da db) 3 b c)[6]? = some (.int .i64 ((db.length : Nat) : Int)) := by
  unfold lookM
  have e2 : ((3 : Int)).toNat = 3 := rfl
  rw [(there_FS da db).2, e2, FS3, if_pos rfl]; rfl
/-! ### Bytes copied one by one -/
theorem wrB_nil {l : List UInt8} {o : Nat} : wrB l o [] = l := by
  unfold wrB
  simp
theorem wrB_setN {l xs : List UInt8} {o j : Nat} {b : UInt8} (ho : o ≤ l.length) (hj : xs[j]? = some b) (hlt : o + j < l.length) : (wrB l o (xs.take j)).set (o + j) b = wrB l o (xs.take (j + 1)) := by
  have hjx := (List.getElem?_eq_some_iff.1 hj).1
  have l1 : (xs.take j).length = j := by rw [List.length_take]; omega
  have l2 : (xs.take (j + 1)).length = j + 1 := by rw [List.length_take]; omega
  apply List.ext_getElem?
  intro i
  rw [wrB_get ho, l2, List.getElem?_set, wrB_get ho, l1]
  by_cases h1 : o + j = i
  · subst h1
    rw [if_pos rfl, if_pos (by rw [wrB_len ho, l1]; omega), if_pos (by omega), show o + j - o = j by omega, List.getElem?_take_of_lt (by omega), hj]
  · rw [if_neg h1]
    by_cases h2 : o ≤ i ∧ i < o + j
    · rw [if_pos h2, if_pos (by omega), List.getElem?_take_of_lt (by omega), List.getElem?_take_of_lt (by omega)]
    · rw [if_neg h2, if_neg (by omega)]
theorem wrB_app {l xs : List UInt8} {o j : Nat} {b : UInt8} (ho : o ≤ l.length) (hj : xs[j]? = some b) (hge : l.length ≤ o + j) : wrB l o (xs.take j) ++ [b] = wrB l o (xs.take (j + 1)) := by
  have hjx := (List.getElem?_eq_some_iff.1 hj).1
  unfold wrB
  rw [takeL_snoc hj, List.drop_eq_nil_of_le (by rw [List.length_take]; omega), List.drop_eq_nil_of_le (by rw [List.length_append, List.length_take]; simp; omega)]
  simp
theorem wrB_end {l xs : List UInt8} : wrB l l.length xs = l ++ xs := by
  unfold wrB
  rw [List.take_length, List.drop_eq_nil_of_le (by omega), List.append_nil]
end Go.Proofs.YthkcdkldpbndnaaDoor
