/- What the laws on processes are handed: calls, channels; no condition. -/
import Derived.Test.YthihjppjollekaaGb
import Derived.Test.YthihjppjollekaaHr
set_option linter.unusedVariables false
namespace Go.Proofs.Ythihjppjollekaa
open Go.RowKit Go.Hx
theorem conf_chan {cs : List Value} (h : confW [.int .i64, .int .i64] cs) : ∃ a b, cs = [.int .i64 a, .int .i64 b] := by
  have hl := confW_length h
  match cs, hl with
  | [x, y], _ =>
    have h1 : celW (.int .i64) x := h.1
    have h2 : celW (.int .i64) y := h.2.1
    obtain ⟨a, ha, _⟩ := h1
    obtain ⟨b, hb, _⟩ := h2
    exact ⟨a, b, by rw [ha, hb]⟩
def kO : List Kd := [.int .i64, .int .i64, .int .i64, .int .i64, .int .i32]
theorem conf_op {cs : List Value} (h : confW kO cs) : ∃ o : OpD, cs.toArray = o.a := by
  have hl := confW_length h
  match cs, hl with
  | [x, y, z, u, v], _ =>
    have h1 : celW (.int .i64) x := h.1
    have h2 : celW (.int .i64) y := h.2.1
    have h3 : celW (.int .i64) z := h.2.2.1
    have h4 : celW (.int .i64) u := h.2.2.2.1
    have h5 : celW (.int .i32) v := h.2.2.2.2.1
    obtain ⟨a, ha, _⟩ := h1
    obtain ⟨b, hb, _⟩ := h2
    obtain ⟨c, hc, _⟩ := h3
    obtain ⟨d, hd, _⟩ := h4
    obtain ⟨e, he, _⟩ := h5
    exact ⟨⟨a, b, c, d, e⟩, by rw [ha, hb, hc, hd, he]; rfl⟩
theorem cell_lt {w : World} {a : Addr} {v : Value} (h : w.cell? a = some v) : a.block < w.heap.size := by
  unfold World.cell? at h
  apply Classical.byContradiction
  intro hh
  rw [Array.getElem?_eq_none (by omega)] at h
  simp at h
theorem fl46 : flatB Try.prog 3 46 = some kO := by kernel_rfl
theorem arg_ops {H : Type} {enc : TypeId × Value → H} {W : World} {v : Value} (h : ArgIs enc Try.prog W 42 v) : ∃ x n c, v = .slice x n c ∧ OpsAt W x n := by
  rcases arg_slice h (e := 46) (by kernel_rfl) fl46 with rfl | ⟨a, len, cap, rfl, _, _, hel⟩
  · exact ⟨none, 0, 0, rfl, fun i hi => by omega⟩
  · refine ⟨some a, len, cap, rfl, fun i hi => ?_⟩
    obtain ⟨cs, hc, hr⟩ := hel i hi
    obtain ⟨o, ho⟩ := conf_op hc
    rw [ho] at hr
    have hr' : RowAt W (a.add (i * 5)) o.a := hr
    refine ⟨a, rfl, ?_, o, hr'⟩
    have := cell_lt (hr' 0 _ rfl)
    rw [add_block, add_block] at this
    exact this
theorem arg_chan {H : Type} {enc : TypeId × Value → H} {W : World} {v : Value} (h : ArgIs enc Try.prog W 26 v) : ∃ a b, v = .agg #[.int .i64 a, .int .i64 b] := by
  obtain ⟨cs, rfl, hc⟩ := arg_struct h (fs := match Try.prog.underlying 26 with | some (.struct f) => f | _ => #[]) (D := 2) (ks := [.int .i64, .int .i64]) (by kernel_rfl) (by kernel_rfl)
  obtain ⟨a, b, rfl⟩ := conf_chan hc
  exact ⟨a, b, rfl⟩
end Go.Proofs.Ythihjppjollekaa
