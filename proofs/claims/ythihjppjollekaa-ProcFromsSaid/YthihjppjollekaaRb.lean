/- What the laws on states of processes are handed; no condition. -/
import Derived.Test.YthihjppjollekaaRa
import Derived.Test.YthihjppjollekaaFi
set_option linter.unusedVariables false
namespace Go.Proofs.Ythihjppjollekaa
open Go.RowKit Go.Hx Go.WideShapes
def kS : List Kd := [.int .i64, .int .i64, .int .i64, .int .i64, .int .i64, .int .i64, .bool, .int .i32]
theorem conf_slot {cs : List Value} (h : confW kS cs) : ∃ (at_ : Int) (p : Pr), cs.toArray = #[.int .i64 at_] ++ p.a := by
  have hl := confW_length h
  match cs, hl with
  | [x0, x1, x2, x3, x4, x5, x6, x7], _ =>
    have h0 : celW (.int .i64) x0 := h.1
    have h1 : celW (.int .i64) x1 := h.2.1
    have h2 : celW (.int .i64) x2 := h.2.2.1
    have h3 : celW (.int .i64) x3 := h.2.2.2.1
    have h4 : celW (.int .i64) x4 := h.2.2.2.2.1
    have h5 : celW (.int .i64) x5 := h.2.2.2.2.2.1
    have h6 : celW .bool x6 := h.2.2.2.2.2.2.1
    have h7 : celW (.int .i32) x7 := h.2.2.2.2.2.2.2.1
    obtain ⟨a0, e0, _⟩ := h0
    obtain ⟨a1, e1, _⟩ := h1
    obtain ⟨a2, e2, _⟩ := h2
    obtain ⟨a3, e3, _⟩ := h3
    obtain ⟨a4, e4, _⟩ := h4
    obtain ⟨a5, e5, _⟩ := h5
    obtain ⟨a6, e6⟩ := h6
    obtain ⟨a7, e7, _⟩ := h7
    exact ⟨a0, ⟨a1, a2, a3, a4, a5, a6, a7⟩, by rw [e0, e1, e2, e3, e4, e5, e6, e7]; rfl⟩
theorem fl74 : flatB Try.prog 4 74 = some kS := by kernel_rfl
noncomputable def F24 : Array Field := match Try.prog.underlying 24 with | some (.struct f) => f | _ => #[]
set_option maxRecDepth 100000 in
theorem arg_state {H : Type} {enc : TypeId × Value → H} {W : World} {v : Value} (h : ArgIs enc Try.prog W 24 v) : ∃ x n c next, v = .agg #[.slice x n c, .int .i64 next] ∧ SlotsAt W x n ∧ n ≤ maxLen := by
  obtain ⟨b0, d, p, h1, fuel, h2⟩ := h
  have hu : Try.prog.underlying 24 = some (.struct F24) := by kernel_rfl
  obtain ⟨cs, rfl, hsz⟩ := okWide_struct hu h1
  obtain ⟨xs, m, _, _, hl, hlen, hf⟩ := DataW.trod_struct hu h2
  have t0 : (F24[0]?).map (fun f => (f.type, f.offset)) = some (22, 0) := by kernel_rfl
  have t1 : (F24[1]?).map (fun f => (f.type, f.offset)) = some (3, 1) := by kernel_rfl
  have s24 : Try.prog.cellsOf 24 = 2 := by kernel_rfl
  have s22 : Try.prog.cellsOf 22 = 1 := by kernel_rfl
  have s3 : Try.prog.cellsOf 3 = 1 := by kernel_rfl
  have sF : F24.size = 2 := by kernel_rfl
  obtain ⟨f0, g0, e0⟩ := Option.map_eq_some_iff.1 t0
  obtain ⟨f1, g1, e1⟩ := Option.map_eq_some_iff.1 t1
  simp only [Prod.mk.injEq] at e0 e1
  have r0 := hf 0 f0 g0
  have r1 := hf 1 f1 g1
  rw [e0.1, e0.2, s22] at r0
  rw [e1.1, e1.2, s3] at r1
  have hcl : (Value.agg cs).cells.toList = cs.toList := rfl
  rw [hcl] at r0 r1
  have hcs : cs.size = 2 := by rw [hsz, s24]
  obtain ⟨c0, c1, rfl⟩ : ∃ c0 c1, cs = #[c0, c1] := by
    match cs, hcs with
    | ⟨[a, b]⟩, _ => exact ⟨a, b, rfl⟩
  rw [List.getElem?_eq_getElem (by omega)] at r0 r1
  simp only [List.drop_zero] at r0
  obtain ⟨nx, hn, _⟩ := DataW.trod_int (k := .i64) (by kernel_rfl) r1
  have hc1 : c1 = .int .i64 nx := by simpa using hn
  rcases Go.Deep.open_slice (e := 74) (by kernel_rfl) r0 with ⟨h0, _⟩ | ⟨a, len, cap, mm, k, Dd, Pl, h0, _, hlc, hm, hmm, _, hel⟩
  · have hc0 : c0 = .slice none 0 0 := by simpa using h0
    exact ⟨none, 0, 0, nx, by rw [hc0, hc1], fun i hi => by omega, by omega⟩
  · have hc0 : c0 = .slice (some a) len cap := by simpa using h0
    refine ⟨some a, len, cap, nx, by rw [hc0, hc1], fun i hi => ?_, by omega⟩
    obtain ⟨es, hes, ht⟩ := hel i (by rw [hmm]; split <;> omega)
    have hk := flatB_len fl74
    obtain ⟨_, hr⟩ := cells_row _ _ hes
    obtain ⟨at_, p, hp⟩ := conf_slot (trod_flat 4 74 kS k es _ fl74 ht)
    rw [hp, ← hk] at hr
    have hr' : RowAt W (a.add (i * 8)) (#[.int .i64 at_] ++ p.a) := hr
    refine ⟨a, rfl, ?_, at_, p, hr'⟩
    have := cell_lt (hr' 0 (.int .i64 at_) (by rw [Array.getElem?_append_left (by simp)]; rfl))
    rw [add_block, add_block] at this
    exact this
end Go.Proofs.Ythihjppjollekaa
