/- The law TreeNobody: trees that New did not give. No condition. -/
import Derived.Test.YthkcdkldpbndnaaDoorBy
import Derived.Test.YthkcdkldpbndnaaDoorHv
import Derived.Test.YthkcdkldpbndnaaDoorHr
import Derived.Test.YthkcdkldpbndnaaDoorHu
import Derived.Test.YthkcdkldpbndnaaDoorWn
set_option linter.unusedVariables false
namespace Go.Proofs.YthkcdkldpbndnaaDoor
open Go.RowKit Go.Hx
/-- A pointer to no tree that New gave. -/
def NoT (p : Option Addr) (w : World) : Prop := ∀ a, p = some a → w.cell? a = some (.pointer none)
theorem cell_below {w w' : World} {a : Addr} {v : Value} (h : w.cell? a = some v) (b : Below w.heap.size w w') : w'.cell? a = some v := by
  have hlt : a.block < w.heap.size := by
    unfold World.cell? at h
    cases e : w.heap[a.block]? with
    | none => simp only [e] at h; cases h
    | some o => exact (Array.getElem?_eq_some_iff.1 e).1
  unfold World.cell? at h ⊢
  rw [b.block _ hlt]
  exact h
theorem NoT.below {p : Option Addr} {w w' : World} (h : NoT p w) (b : Below w.heap.size w w') : NoT p w' := fun a ha => cell_below (h a ha) b
def B1 (w : World) (v : Value) : Value → World → Prop := fun r w' => r = v ∧ Below w.heap.size w w'
variable {p : Option Addr} {w : World}
theorem c_is (h : NoT p w) : Calls Tryd.prog 80 #[.pointer p] w (Ret fun v w' => v = .bool false ∧ w = w') := by
  refine W80_ok _ w _ ?_
  cases p with
  | none => exact ⟨rfl, rfl⟩
  | some a => exact ⟨none, h a rfl, rfl, rfl⟩
theorem c_from (h : NoT p w) (i : Int) (s : ByteArray) : Calls Tryd.prog 109 #[.pointer p, .int .i64 i, .string s] w (Ret fun v w' => v = .tuple #[.int .i64 0, .slice none 0 0, .int .i64 3] ∧ w = w') := by
  refine W109_ok _ _ _ w _ ((c_is h).mono ?_)
  rintro _ _ ⟨_, rfl, rfl, rfl⟩
  exact ⟨_, rfl, rfl, rfl⟩
theorem c_last (h : NoT p w) (i : Int) (s : ByteArray) : Calls Tryd.prog 73 #[.pointer p, .int .i64 i, .string s] w (Ret fun v w' => v = .tuple #[.int .i64 0, .string ⟨#[]⟩, .int .i64 3] ∧ w = w') := by
  refine W73_ok _ _ _ w _ ((c_from h i s).mono ?_)
  rintro _ _ ⟨_, rfl, rfl, rfl⟩
  exact ⟨_, _, _, _, _, rfl, c_ne (fun _ => ⟨rfl, rfl⟩) (fun h => absurd h (by decide))⟩
theorem c_nFind (h : NoT p w) (i : Int) (s : ByteArray) : Calls Tryd.prog 48 #[.pointer p, .int .i64 i, .string s] w (Ret (B1 w (.tuple #[.int .i64 0, .int .i64 3]))) := by
  refine W48_ok _ _ _ w _ ((c_from h i s).mono ?_)
  rintro _ _ ⟨_, rfl, rfl, rfl⟩
  exact ⟨_, _, _, _, _, rfl, c_ne (fun _ => ⟨rfl, Below.refl _ _⟩) (fun h => absurd h (by decide))⟩
theorem c_nMake (h : NoT p w) (i : Int) (s : ByteArray) (ty ma mi : Int) : Calls Tryd.prog 24 #[.pointer p, .int .i64 i, .string s, .int .i64 ty, .int .i16 ma, .int .i16 mi] w (Ret (B1 w (.tuple #[.int .i64 0, .int .i64 3]))) := by
  refine W24_ok _ _ _ _ _ _ w _ (newW_intro fun a1 w1 k1 l1 b1 => newW_intro fun a2 w2 k2 l2 b2 => ?_)
  have z1 := b1.size
  have z2 := b2.size
  have b12 := b1.trans (b2.mono z1)
  refine (c_last (h.below b12) i s).mono ?_
  rintro _ _ ⟨_, rfl, rfl, rfl⟩
  refine ⟨_, _, _, rfl, c_ne (fun _ => ?_) (fun h => absurd h (by decide))⟩
  have hlt := k1.lt
  refine stC_intro (below_blk b2 hlt k1) (show 0 < 1 by decide) fun w3 k3 m3 s3 => stC_intro (m3.blk (by omega : a2 ≠ a1) k2) (show 0 < 1 by decide) fun w4 k4 m4 s4 => ?_
  have k34 := m4.blk (by omega : a1 ≠ a2) k3
  exact ⟨_, k34.cell rfl, _, k4.cell rfl, rfl, (b12.trans (m3.below b12.size l1)).trans (m4.below (by omega) (by omega))⟩
theorem c_nLink (h : NoT p w) (j i : Int) (s : ByteArray) : Calls Tryd.prog 49 #[.pointer p, .int .i64 j, .int .i64 i, .string s] w (Ret (B1 w (.int .i64 3))) := by
  refine W49_ok _ _ _ _ w _ ((c_is h).mono ?_)
  rintro _ _ ⟨_, rfl, rfl, rfl⟩
  exact ⟨_, rfl, rfl, Below.refl _ _⟩
theorem c_nUnlink (h : NoT p w) (i : Int) (s : ByteArray) : Calls Tryd.prog 50 #[.pointer p, .int .i64 i, .string s] w (Ret (B1 w (.int .i64 3))) := by
  refine W50_ok _ _ _ w _ (newW_intro fun a1 w1 k1 l1 b1 => (c_last (h.below b1) i s).mono ?_)
  rintro _ _ ⟨_, rfl, rfl, rfl⟩
  refine ⟨_, _, _, rfl, c_ne (fun _ => ?_) (fun h => absurd h (by decide))⟩
  exact stC_intro k1 (show 0 < 1 by decide) fun w3 k3 m3 s3 => ⟨_, k3.cell rfl, rfl, b1.trans (m3.below b1.size l1)⟩
theorem c_nRead (h : NoT p w) (a b c : Int) : Calls Tryd.prog 28 #[.pointer p, .int .i64 a, .int .i64 b, .int .i64 c] w (Ret (B1 w (.slice none 0 0))) := by
  refine W28_ok _ _ _ _ w _ ((c_is h).mono ?_)
  rintro _ _ ⟨_, rfl, rfl, rfl⟩
  exact ⟨_, rfl, rfl, Below.refl _ _⟩
theorem c_nWrite (h : NoT p w) (a b : Int) (q : Option Addr) (n c : Nat) : Calls Tryd.prog 25 #[.pointer p, .int .i64 a, .int .i64 b, .slice q n c] w (Ret (B1 w (.int .i64 0))) := by
  refine W25_ok _ _ _ _ _ _ w _ ((c_is h).mono ?_)
  rintro _ _ ⟨_, rfl, rfl, rfl⟩
  exact ⟨_, rfl, rfl, Below.refl _ _⟩
theorem c_nTrunc (h : NoT p w) (a : Int) : Calls Tryd.prog 51 #[.pointer p, .int .i64 a] w (Ret (B1 w (.int .i64 3))) := by
  refine W51_ok _ _ w _ ((c_is h).mono ?_)
  rintro _ _ ⟨_, rfl, rfl, rfl⟩
  exact ⟨_, rfl, rfl, Below.refl _ _⟩
theorem c_nHold (h : NoT p w) (a : Int) : Calls Tryd.prog 52 #[.pointer p, .int .i64 a] w (Ret (B1 w (.int .i64 3))) := by
  refine W52_ok _ _ w _ ((c_is h).mono ?_)
  rintro _ _ ⟨_, rfl, rfl, rfl⟩
  exact ⟨_, rfl, rfl, Below.refl _ _⟩
theorem c_nDrop (h : NoT p w) (a : Int) : Calls Tryd.prog 53 #[.pointer p, .int .i64 a] w (Ret (B1 w (.int .i64 3))) := by
  refine W53_ok _ _ w _ ((c_is h).mono ?_)
  rintro _ _ ⟨_, rfl, rfl, rfl⟩
  exact ⟨_, rfl, rfl, Below.refl _ _⟩
theorem c_nList (h : NoT p w) (a : Int) : Calls Tryd.prog 55 #[.pointer p, .int .i64 a] w (Ret (B1 w (.slice none 0 0))) := by
  refine W55_ok _ _ w _ ((c_is h).mono ?_)
  rintro _ _ ⟨_, rfl, rfl, rfl⟩
  exact ⟨_, rfl, rfl, Below.refl _ _⟩
theorem c_nLeft (h : NoT p w) : Calls Tryd.prog 56 #[.pointer p] w (Ret (B1 w (.int .i64 0))) := by
  refine W56_ok _ w _ ((c_is h).mono ?_)
  rintro _ _ ⟨_, rfl, rfl, rfl⟩
  exact ⟨_, rfl, rfl, Below.refl _ _⟩
def statZ : Array Value := #[.int .i32 0, .int .u32 0, .int .i16 0, .int .i16 0, .int .u64 0]
theorem bStat : bldP Tryd.prog 102 [] (.agg statZ) := fun w => by kernel_rfl
theorem eq_Stat : AggEq Tryd.prog 102 statZ statZ true := by
  have hx : conf [.int .i32, .int .u32, .int .i16, .int .i16, .int .u64] [.int .i32 0, .int .u32 0, .int .i16 0, .int .i16 0, .int .u64 0] := ⟨⟨0, rfl⟩, ⟨0, rfl⟩, ⟨0, rfl⟩, ⟨0, rfl⟩, ⟨0, rfl⟩, trivial⟩
  have h1 := aggEq_of (P := Tryd.prog) (t := 102) (ks := [.int .i32, .int .u32, .int .i16, .int .i16, .int .u64]) (D := 3) (by decide) (by kernel_rfl) (by kernel_rfl) hx hx
  rwa [(leq_iff hx hx).2 rfl] at h1
theorem c_nStat (h : NoT p w) (a : Int) : Calls Tryd.prog 54 #[.pointer p, .int .i64 a] w (Ret (B1 w (.agg statZ))) := by
  refine W54_ok _ _ w _ (newW_intro fun a1 w1 k1 l1 b1 => ⟨fun t w' => t = (true, ()) ∧ w1 = w', ?_, ?_⟩)
  · rintro _ _ _ ⟨rfl, rfl⟩
    exact ⟨_, bStat, stW_intro k1 fun w2 k2 m2 s2 => ⟨_, rfl, row_whole k2, rfl, b1.trans (m2.below b1.size l1)⟩⟩
  · refine (c_is (h.below b1)).mono ?_
    rintro _ _ ⟨_, rfl, rfl, rfl⟩
    exact ⟨_, rfl, (true, ()), rfl, rfl, rfl⟩
def lookZ : Array Value := #[.int .i64 0, .int .i64 0, .int .i16 0, .int .i16 0, .int .i64 0, .int .i64 0, .int .i64 0, .slice none 0 0]
theorem bLook : bldP Tryd.prog 50 [] (.agg lookZ) := fun w => by kernel_rfl
theorem c_nLook (h : NoT p w) (a : Int) : Calls Tryd.prog 27 #[.pointer p, .int .i64 a] w (Ret (B1 w (.agg lookZ))) := by
  refine W27_ok _ _ w _ (newW_intro fun a1 w1 k1 l1 b1 => ⟨fun t w' => t = (true, ()) ∧ w1 = w', ?_, ?_⟩)
  · rintro _ _ _ ⟨rfl, rfl⟩
    exact ⟨_, bLook, stW_intro k1 fun w2 k2 m2 s2 => ⟨_, rfl, row_whole k2, rfl, b1.trans (m2.below b1.size l1)⟩⟩
  · refine (c_is (h.below b1)).mono ?_
    rintro _ _ ⟨_, rfl, rfl, rfl⟩
    exact ⟨_, rfl, (true, ()), rfl, rfl, rfl⟩
/-- A pointer to no memory. -/
def NoR (p : Option Addr) (w : World) : Prop := ∀ a, p = some a → w.cell? a = some (.slice none 0 0)
theorem c_none (h : NoR p w) : Calls Tryd.prog 116 #[.pointer p] w (Ret fun v w' => v = .bool true ∧ w = w') := by
  refine W116_ok _ w _ ?_
  cases p with
  | none => exact ⟨rfl, rfl⟩
  | some a => exact ⟨none, 0, 0, h a rfl, rfl, rfl⟩
theorem c_Frames0 (h : NoR p w) : Calls Tryd.prog 99 #[.pointer p] w (Ret fun v w' => v = .int .i64 0 ∧ w = w') := by
  refine W99_ok _ w _ ((c_none h).mono ?_)
  rintro _ _ ⟨_, rfl, rfl, rfl⟩
  exact ⟨_, rfl, rfl, rfl⟩
theorem c_New0 (h : NoR p w) : Calls Tryd.prog 45 #[.pointer p] w (Ret fun v w' => v = .tuple #[.pointer none, .int .i64 3] ∧ w = w') := by
  refine W45_ok _ w _ ((c_Frames0 h).mono ?_)
  rintro _ _ ⟨_, rfl, rfl, rfl⟩
  exact ⟨_, rfl, c_eq (fun _ => ⟨rfl, rfl⟩) (fun h => absurd rfl h)⟩
end Go.Proofs.YthkcdkldpbndnaaDoor
