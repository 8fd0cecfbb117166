/- The law ProcNobody of the given program: called with any arguments in any memory, it returns true and leaves all that was there as it was. No condition. -/
import Derived.Test.YthihjppjollekaaRows
import Derived.Test.YthihjppjollekaaHr
import Derived.Test.YthihjppjollekaaLa
import Derived.WalkKit
import Derived.ProofKit
set_option linter.unusedVariables false
namespace Go.Proofs.Ythihjppjollekaa.procNobody
open Go.RowKit Go.Hx
theorem own : ownKnob Try.prog.godebug = none := by kernel_rfl
theorem conf_chan {cs : List Value} (h : confW [.int .i64, .int .i64] cs) : ∃ a b, cs = [.int .i64 a, .int .i64 b] := by
  have hl := confW_length h
  match cs, hl with
  | [x, y], _ =>
    have h1 : celW (.int .i64) x := h.1
    have h2 : celW (.int .i64) y := h.2.1
    obtain ⟨a, ha, _⟩ := h1
    obtain ⟨b, hb, _⟩ := h2
    exact ⟨a, b, by rw [ha, hb]⟩
set_option maxRecDepth 100000 in
theorem lifted (os : Os) (started : os.Started) (H : Type) (enc : TypeId × Value → H) :
    ReturnsInHanded {} Try.checked os 8 .any (Rows.procNobodySpec.pre6 enc Try.prog Try.f8 Rows.procNobodyRow.domain false) (Rows.procNobodySpec.post enc Try.prog Try.f8 false true false false) := by
  refine law_lifted (C := Try.checked) (ts := [3, 26, 21]) (tb := 4) own started (by kernel_rfl) Try.func8
    (ChangeSpec.witness6 (enc := enc) (C := Try.checked) false ⟨#[], #[.int .i64 0, .agg #[.int .i64 0, .int .i64 0], .int .i32 0], []⟩ 8 (by kernel_rfl) (by kernel_rfl) (by kernel_rfl) (by kernel_rfl))
    (by kernel_rfl) (by kernel_rfl) (by kernel_rfl) rfl ?_ (by kernel_rfl) (by kernel_rfl) ?_
  · intro ds hd
    match ds, hd with
    | [_, _, _], _ => rfl
  · intro W vs hA
    match vs, hA with
    | [v1, v2, v3], ⟨h1, h2, h3, _⟩ =>
      obtain ⟨n, rfl, _⟩ := arg_int h1 (k := .i64) (by kernel_rfl)
      obtain ⟨s, rfl, _⟩ := arg_int h3 (k := .i32) (by kernel_rfl)
      obtain ⟨cs, rfl, hc⟩ := arg_struct h2 (fs := match Try.prog.underlying 26 with | some (.struct f) => f | _ => #[]) (D := 2) (ks := [.int .i64, .int .i64]) (by kernel_rfl) (by kernel_rfl)
      obtain ⟨k, c, rfl⟩ := conf_chan hc
      refine (law8 n k c s W).mono ?_
      rintro e w' ⟨v, rfl, rfl, hb⟩
      exact ⟨rfl, hb⟩
theorem over : Rows.procNobodyRow.holds Try.pinned (OpenSpec.ofChange Rows.procNobodySpec) :=
  OpenClaim.holds_of_wide 8 Try.f8 rfl rfl rfl rfl rfl rfl rfl ⟨rfl, rfl, rfl, rfl, rfl⟩ rfl rfl rfl rfl rfl (by kernel_rfl) Try.func8 (by kernel_rfl)
    (of_decide_eq_true (by kernel_rfl)) (by unfold Func.isWrapper; first | (rw [if_pos (by decide +kernel)]; kernel_rfl) | (rw [if_neg (by decide +kernel)]; exact ⟨rfl, rfl⟩))
    (fun os started H enc _ => lifted os started H enc)
theorem proved : Rows.ProcNobodySaid := over
#print axioms proved
end Go.Proofs.Ythihjppjollekaa.procNobody
