/- The law ProcEnds of the given program: called with any arguments in any memory, it returns true and leaves all that was there as it was. No condition. -/
import Derived.Test.YthihjppjollekaaRows
import Derived.Test.YthihjppjollekaaRa
import Derived.Test.YthihjppjollekaaLe
import Derived.WalkKit
import Derived.ProofKit
set_option linter.unusedVariables false
namespace Go.Proofs.Ythihjppjollekaa.procEnds
open Go.RowKit Go.Hx
theorem own : ownKnob Try.prog.godebug = none := by kernel_rfl
set_option maxRecDepth 100000 in
theorem lifted (os : Os) (started : os.Started) (H : Type) (enc : TypeId × Value → H) :
    ReturnsInHanded {} Try.checked os 7 .any (Rows.procEndsSpec.pre6 enc Try.prog Try.f7 Rows.procEndsRow.domain false) (Rows.procEndsSpec.post enc Try.prog Try.f7 false true false false) := by
  refine law_lifted (C := Try.checked) (ts := [42, 3, 21]) (tb := 4) own started (by kernel_rfl) Try.func7
    (ChangeSpec.witness6 (enc := enc) (C := Try.checked) false ⟨#[], #[.slice none 0 0, .int .i64 0, .int .i32 0], []⟩ 8 (by kernel_rfl) (by kernel_rfl) (by kernel_rfl) (by kernel_rfl))
    (by kernel_rfl) (by kernel_rfl) (by kernel_rfl) rfl ?_ (by kernel_rfl) (by kernel_rfl) ?_
  · intro ds hd
    match ds, hd with
    | [_, _, _], _ => rfl
  · intro W vs hA
    match vs, hA with
    | [v1, v2, v3], ⟨h1, h2, h3, _⟩ =>
      obtain ⟨x, n, c, rfl, ho⟩ := arg_ops h1
      obtain ⟨l, rfl, _⟩ := arg_int h2 (k := .i64) (by kernel_rfl)
      obtain ⟨s, rfl, _⟩ := arg_int h3 (k := .i32) (by kernel_rfl)
      refine (law7 x n c l s W ho).mono ?_
      rintro e w' ⟨v, rfl, rfl, hb⟩
      exact ⟨rfl, hb⟩
theorem over : Rows.procEndsRow.holds Try.pinned (OpenSpec.ofChange Rows.procEndsSpec) :=
  OpenClaim.holds_of_wide 7 Try.f7 rfl rfl rfl rfl rfl rfl rfl ⟨rfl, rfl, rfl, rfl, rfl⟩ rfl rfl rfl rfl rfl (by kernel_rfl) Try.func7 (by kernel_rfl)
    (of_decide_eq_true (by kernel_rfl)) (by unfold Func.isWrapper; first | (rw [if_pos (by decide +kernel)]; kernel_rfl) | (rw [if_neg (by decide +kernel)]; exact ⟨rfl, rfl⟩))
    (fun os started H enc _ => lifted os started H enc)
theorem proved : Rows.ProcEndsSaid := over
#print axioms proved
end Go.Proofs.Ythihjppjollekaa.procEnds
