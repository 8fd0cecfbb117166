/- The law ProcPlays of the given program: called with any arguments in any memory, it returns true and leaves all that was there as it was. No condition. -/
import Derived.Test.YthihjppjollekaaRows
import Derived.Test.YthihjppjollekaaRa
import Derived.Test.YthihjppjollekaaRb
import Derived.Test.YthihjppjollekaaLh
import Derived.WalkKit
import Derived.ProofKit
set_option linter.unusedVariables false
namespace Go.Proofs.Ythihjppjollekaa.procPlays
open Go.RowKit Go.Hx
theorem own : ownKnob Try.prog.godebug = none := by kernel_rfl
set_option maxRecDepth 100000 in
theorem lifted (os : Os) (started : os.Started) (H : Type) (enc : TypeId × Value → H) :
    ReturnsInHanded {} Try.checked os 9 .any (Rows.procPlaysSpec.pre6 enc Try.prog Try.f9 Rows.procPlaysRow.domain false) (Rows.procPlaysSpec.post enc Try.prog Try.f9 false true false false) := by
  refine law_lifted (C := Try.checked) (ts := [24, 42]) (tb := 4) own started (by kernel_rfl) Try.func9
    (ChangeSpec.witness6 (enc := enc) (C := Try.checked) false ⟨#[], #[.agg #[.slice none 0 0, .int .i64 0], .slice none 0 0], []⟩ 8 (by kernel_rfl) (by kernel_rfl) (by kernel_rfl) (by kernel_rfl))
    (by kernel_rfl) (by kernel_rfl) (by kernel_rfl) rfl ?_ (by kernel_rfl) (by kernel_rfl) ?_
  · intro ds hd
    match ds, hd with
    | [_, _], _ => rfl
  · intro W vs hA
    match vs, hA with
    | [v1, v2], ⟨h1, h2, _⟩ =>
      obtain ⟨x, n, c, nx, rfl, hs, hn⟩ := arg_state h1
      obtain ⟨y, m, d, rfl, ho⟩ := arg_ops h2
      refine (law9 x n c nx y m d W hs hn ho).mono ?_
      rintro e w' ⟨v, rfl, rfl, hb⟩
      exact ⟨rfl, hb⟩
theorem over : Rows.procPlaysRow.holds Try.pinned (OpenSpec.ofChange Rows.procPlaysSpec) :=
  OpenClaim.holds_of_wide 9 Try.f9 rfl rfl rfl rfl rfl rfl rfl ⟨rfl, rfl, rfl, rfl, rfl⟩ rfl rfl rfl rfl rfl (by kernel_rfl) Try.func9 (by kernel_rfl)
    (of_decide_eq_true (by kernel_rfl)) (by unfold Func.isWrapper; first | (rw [if_pos (by decide +kernel)]; kernel_rfl) | (rw [if_neg (by decide +kernel)]; exact ⟨rfl, rfl⟩))
    (fun os started H enc _ => lifted os started H enc)
theorem proved : Rows.ProcPlaysSaid := over
#print axioms proved
end Go.Proofs.Ythihjppjollekaa.procPlays
