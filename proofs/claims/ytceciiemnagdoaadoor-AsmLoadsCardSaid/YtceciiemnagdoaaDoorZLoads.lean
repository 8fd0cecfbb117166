/- The law AsmLoads of the given program: called with any value and register in any memory where the table of the library's bits lies as the program's text says, it returns true and leaves all that was there as it was; and its tied card. -/
import Derived.Test.YtceciiemnagdoaaDoorRows
import Derived.Test.YtceciiemnagdoaaDoorCards
import Derived.Test.YtceciiemnagdoaaDoorTie
import Derived.Test.YtceciiemnagdoaaDoorLd
import Derived.Test.YtceciiemnagdoaaDoorHq
import Derived.WalkKit
import Derived.ProofKit
import Derived.SevenTiedAt
set_option linter.unusedVariables false
namespace Go.Proofs.YtceciiemnagdoaaDoor.asmLoads
open Go.RowKit Go.Hx Go.WideShapes
theorem own : ownKnob Tryd.prog.godebug = none := by kernel_rfl
theorem door_met (os : Os) (args : Array Value) : laidMetH Tryd.prog Rows.asmLoadsRow.laid ((World.doorLaid Tryd.prog 2000 os).forCall (fun _ _ => 0) ⟨#[], args, []⟩).memory :=
  laidMetH_of_parts3 (fuel := 8) (laidMet_of_run' 8 (by kernel_rfl) (by kernel_rfl)) (by kernel_rfl) (by kernel_rfl)
theorem tab_of {W : World} (h : laidMetH Tryd.prog Rows.asmLoadsRow.laid W) : TabAt W :=
  laid_ints (P := Tryd.prog) (n := "math/bits.deBruijn64tab") (k := .u8) (ns := tabV) (g := 0) (m := 64) (t := 32) (e := 5) h (by kernel_rfl) (List.mem_cons_self ..) (by kernel_rfl) (by kernel_rfl) (by kernel_rfl) (by kernel_rfl) (by kernel_rfl)
set_option maxRecDepth 100000 in
theorem lifted (os : Os) (started : os.Started) (H : Type) (enc : TypeId × Value → H) :
    ReturnsInHanded {} Tryd.checked os 3 .any (fun w args => (Rows.asmLoadsSpec.pre enc Tryd.prog Tryd.f3 [] false w args ∧ laidMetH Tryd.prog Rows.asmLoadsRow.laid w) ∧ sizedMet enc Tryd.prog Tryd.f3 (OpenSpec.ofChange Rows.asmLoadsSpec) false w args)
      (Rows.asmLoadsSpec.post enc Tryd.prog Tryd.f3 false true false false) := by
  refine law_lifted_laid (C := Tryd.checked) (ts := [22, 3]) (tb := 4) own started (by kernel_rfl) Tryd.func3
    (ChangeSpec.witness_shaped (enc := enc) (C := Tryd.checked) (os := os) (X := fun w _ => laidMetH Tryd.prog Rows.asmLoadsRow.laid w) false (World.doorLaid Tryd.prog 2000 os) #[.int .u64 0, .int .i64 0] 8 rfl (World.shaped_of_RefB (by kernel_rfl) (by kernel_rfl)) (by kernel_rfl) (by kernel_rfl) (by kernel_rfl) (door_met os _))
    (by kernel_rfl) (by kernel_rfl) (by kernel_rfl) rfl ?_ (by kernel_rfl) (by kernel_rfl) ?_
  · intro ds hd
    match ds, hd with
    | [_, _], _ => rfl
  · intro W vs hA hL
    match vs, hA with
    | [v1, v2], ⟨h1, h2, _⟩ =>
      obtain ⟨x, rfl, _⟩ := arg_int h1 (k := .u64) (by kernel_rfl)
      obtain ⟨r, rfl, _⟩ := arg_int h2 (k := .i64) (by kernel_rfl)
      refine (c_law x r W (tab_of hL)).mono ?_
      rintro e w' ⟨v, rfl, rfl, hb⟩
      exact ⟨rfl, hb⟩
theorem over : Rows.asmLoadsRow.holds Tryd.pinned (OpenSpec.ofChange Rows.asmLoadsSpec) :=
  OpenClaim.holds_of_wide 3 Tryd.f3 rfl rfl rfl rfl rfl rfl rfl ⟨rfl, rfl, rfl, rfl, rfl⟩ rfl rfl rfl rfl rfl (by kernel_rfl) Tryd.func3 (by kernel_rfl)
    (of_decide_eq_true (by kernel_rfl)) (by unfold Func.isWrapper; first | (rw [if_pos (by decide +kernel)]; kernel_rfl) | (rw [if_neg (by decide +kernel)]; exact ⟨rfl, rfl⟩))
    (fun os started H enc _ => lifted os started H enc)
theorem proved : Rows.AsmLoadsCardSaid :=
  Claim7.holds_tied_plain_at .later [] [.data] true (true, "032dc1b75da12b91b5b1206de9348da8c75b68d34ee291a5daab645cba09d4e2") false
    over (fun _ h => by cases h) (by kernel_rfl) (fun _ h => by cases h) asmLoads_row_tie rfl ⟨rfl, rfl⟩ (by kernel_rfl) rfl
    (fun f fn hf hfn => by
      obtain rfl : f = 3 := Option.some.inj ((show Tryd.prog.funcNamed "hartix/hartixlaw6.AsmLoads" = some 3 by kernel_rfl).symm.trans hf) |>.symm
      obtain rfl : fn = Tryd.f3 := (Option.some.inj (Tryd.func3.symm.trans hfn)).symm
      exact ⟨by kernel_rfl, fun j t ht => by
        have hp : (Tryd.f3).params = #[22, 3] := by kernel_rfl
        rw [hp] at ht
        have hm : t ∈ [22, 3] := by simpa using Array.mem_of_getElem? ht
        have hall : ([22, 3].all fun u => !Tryd.prog.wantsStandIn u) = true := by kernel_rfl
        exact (show Tryd.prog.wantsStandIn t = false by simpa using List.all_eq_true.1 hall t hm)⟩)
    (by kernel_rfl)
#print axioms proved
end Go.Proofs.YtceciiemnagdoaaDoor.asmLoads
