/- The law TreeRoom of the given program: called with any arguments in any memory where the listed variables lie as the program's text says, it returns true and leaves all that was there as it was; and its tied card. -/
import Derived.Test.YthkcdkldpbndnaaDoorRows
import Derived.Test.YthkcdkldpbndnaaDoorCards
import Derived.Test.YthkcdkldpbndnaaDoorTie
import Derived.Test.YthkcdkldpbndnaaDoorVp
import Derived.Test.YthkcdkldpbndnaaDoorHt
import Derived.Test.YthkcdkldpbndnaaDoorHq
import Derived.WalkKit
import Derived.ProofKit
import Derived.SevenTiedAt
import Derived.Lay
set_option linter.unusedVariables false
namespace Go.Proofs.YthkcdkldpbndnaaDoor.treeRoom
open Go.RowKit Go.Hx Go.WideShapes
theorem own : ownKnob Tryd.prog.godebug = none := by kernel_rfl
set_option maxRecDepth 100000 in
theorem lifted (os : Os) (started : os.Started) (H : Type) (enc : TypeId × Value → H) :
    ReturnsInHanded {} Tryd.checked os 11 .any (fun w args => (Rows.treeRoomSpec.pre enc Tryd.prog Tryd.f11 [] false w args ∧ laidMetH Tryd.prog Rows.treeRoomRow.laid w) ∧ sizedMet enc Tryd.prog Tryd.f11 (OpenSpec.ofChange Rows.treeRoomSpec) false w args)
      (Rows.treeRoomSpec.post enc Tryd.prog Tryd.f11 false true false false) := by
  refine law_lifted_laid (C := Tryd.checked) (ts := [3, 139]) (tb := 4) own started (by kernel_rfl) Tryd.func11
    (ChangeSpec.witness_shaped (enc := enc) (C := Tryd.checked) (os := os) (X := fun w _ => laidMetH Tryd.prog Rows.treeRoomRow.laid w) false (World.laidAll Tryd.prog os Rows.treeRoomRow.laid) #[.int .i64 0, .slice none 0 0] 12 (World.laidAll_os _ _ _) (World.shaped_of_ZipB (by kernel_rfl) (by kernel_rfl)) (by kernel_rfl) (by kernel_rfl) (by kernel_rfl)
      (by rw [MakeChecks.laidMetH_plain _ _ _ (by kernel_rfl)]; exact laidMet_laidAll _ (by kernel_rfl) (by kernel_rfl)))
    (by kernel_rfl) (by kernel_rfl) (by kernel_rfl) rfl ?_ (by kernel_rfl) (by kernel_rfl) ?_
  · intro ds hd
    match ds, hd with
    | [_, _], _ => rfl
  · intro W vs hA hL
    match vs, hA with
    | [v1, v2], ⟨h1, h2, _⟩ =>
      obtain ⟨x0, rfl, _⟩ := arg_int (k := .i64) h1 (by kernel_rfl)
      obtain ⟨q, n, c, ops, rfl, _, _, hl, hx, ho⟩ := arg_ops h2
      refine (c_treeRoom hx hl ho).mono ?_
      rintro e w' ⟨v, rfl, rfl, hb⟩
      exact ⟨rfl, hb⟩
theorem over : Rows.treeRoomRow.holds Tryd.pinned (OpenSpec.ofChange Rows.treeRoomSpec) :=
  OpenClaim.holds_of_wide 11 Tryd.f11 rfl rfl rfl rfl rfl rfl rfl ⟨rfl, rfl, rfl, rfl, rfl⟩ rfl rfl rfl rfl rfl (by kernel_rfl) Tryd.func11 (by kernel_rfl)
    (of_decide_eq_true (by kernel_rfl)) (by unfold Func.isWrapper; first | (rw [if_pos (by decide +kernel)]; kernel_rfl) | (rw [if_neg (by decide +kernel)]; exact ⟨rfl, rfl⟩))
    (fun os started H enc _ => lifted os started H enc)
theorem proved : Rows.TreeRoomCardSaid :=
  Claim7.holds_tied_plain_at .later [] [.data, .pinned] true (true, "2a5dc558d3499f8a9e4120dc99600dc9085bdae164366207caac4333aedb5e3e") false
    over (fun _ h => by cases h) (by kernel_rfl) (fun _ h => by cases h) treeRoom_row_tie rfl ⟨rfl, rfl⟩ (by kernel_rfl) rfl
    (fun f fn hf hfn => by
      obtain rfl : f = 11 := Option.some.inj ((show Tryd.prog.funcNamed "hartix/hartixlaw9.TreeRoom" = some 11 by kernel_rfl).symm.trans hf) |>.symm
      obtain rfl : fn = Tryd.f11 := (Option.some.inj (Tryd.func11.symm.trans hfn)).symm
      exact ⟨by kernel_rfl, fun j t ht => by
        have hp : (Tryd.f11).params = #[3, 139] := by kernel_rfl
        rw [hp] at ht
        have hm : t ∈ [3, 139] := by simpa using Array.mem_of_getElem? ht
        have hall : ([3, 139].all fun u => !Tryd.prog.wantsStandIn u) = true := by kernel_rfl
        exact (show Tryd.prog.wantsStandIn t = false by simpa using List.all_eq_true.1 hall t hm)⟩)
    (by kernel_rfl)
#print axioms proved
end Go.Proofs.YthkcdkldpbndnaaDoor.treeRoom
