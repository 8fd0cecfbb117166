/- What the laws on names are handed. No condition. -/
import Derived.Test.YthkcdkldpbndnaaDoorSt
import Derived.Test.YthkcdkldpbndnaaDoorHt
set_option linter.unusedVariables false
namespace Go.Proofs.YthkcdkldpbndnaaDoor
open Go.RowKit Go.Hx
set_option maxRecDepth 100000 in
theorem arg_dir {H : Type} {enc : TypeId × Value → H} {W : World} {v : Value} (h : ArgIs enc Tryd.prog W 23 v) : ∃ ino name, v = .agg (dirC ino name) := by
  obtain ⟨cs, rfl, hc⟩ := arg_struct h (fs := match Tryd.prog.underlying 23 with | some (.struct f) => f | _ => #[]) (D := 2) (ks := [.int .i64, .str]) (by kernel_rfl) (by kernel_rfl)
  have hl := confW_length hc
  match cs, hl with
  | [x, y], _ =>
    have h1 : celW (.int .i64) x := hc.1
    have h2 : celW .str y := hc.2.1
    obtain ⟨a, rfl, _⟩ := h1
    obtain ⟨s, rfl, _⟩ := h2
    exact ⟨a, s.data.toList, by rw [dirC, ← str_of]⟩
end Go.Proofs.YthkcdkldpbndnaaDoor
