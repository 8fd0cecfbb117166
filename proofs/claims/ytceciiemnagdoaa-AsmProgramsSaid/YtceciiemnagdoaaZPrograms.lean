/- The law AsmPrograms of the given program: called with any image in any memory, it returns true and leaves all that was there as it was. No condition. -/
import Derived.Test.YtceciiemnagdoaaRows
import Derived.Test.YtceciiemnagdoaaPl
import Derived.Test.YtceciiemnagdoaaHt
import Derived.WalkKit
import Derived.ProofKit
set_option linter.unusedVariables false
namespace Go.Proofs.Ytceciiemnagdoaa
open Go.RowKit Go.Hx Go.WideShapes
noncomputable def F27 : Array Field := match Try.prog.underlying 27 with | some (.struct f) => f | _ => #[]
theorem weights_part {H : Type} {P : Program} : ∀ {ts : List TypeId} {ds : List (DataW H)}, (DataW.weightsEach P ts ds).all (· ≤ reachBytes) = true → ∀ {i : Nat} {t : TypeId} {d : DataW H}, ts[i]? = some t → ds[i]? = some d → (d.weights P t).all (· ≤ reachBytes) = true
  | [], _, _, i, t, d, ht, _ => by simp at ht
  | _ :: _, [], _, i, t, d, _, hd => by simp at hd
  | t :: ts, d :: ds, h, 0, _, _, rfl, rfl => by
    unfold DataW.weightsEach at h
    rw [List.all_append, Bool.and_eq_true] at h
    exact h.1
  | t :: ts, d :: ds, h, i + 1, _, _, ht, hd => by
    unfold DataW.weightsEach at h
    rw [List.all_append, Bool.and_eq_true] at h
    exact weights_part h.2 (by simpa using ht) (by simpa using hd)
set_option maxRecDepth 100000 in
theorem arg_image {H : Type} {enc : TypeId × Value → H} {W : World} {v : Value} (h : ArgIs enc Try.prog W 27 v) :
    ∃ (ib jb : Option Addr) (il ic jl jc : Nat) (at_ bss n en : Int) (sb : Option Addr) (sl sc : Nat) (xs ys : List UInt8), v = .agg (imgC ib il ic jb jl jc at_ bss n en sb sl sc) ∧ Rd 1 W ib il (bv xs) ∧ Rd 1 W jb jl (bv ys) ∧ il ≤ 140737488351232 ∧ jl ≤ 140737488351232 := by
  obtain ⟨b0, d, p, h1, ⟨fuel, h2⟩, hw⟩ := h
  have hu : Try.prog.underlying 27 = some (.struct F27) := by kernel_rfl
  obtain ⟨cs, rfl, hsz⟩ := okWide_struct hu h1
  obtain ⟨xs, m, _, hx, hl, hlen, hf⟩ := DataW.trod_struct hu h2
  simp only [Prod.mk.injEq] at hx
  rw [hx.1] at hw
  simp only [DataW.weights, hu] at hw
  have ts : F27.map (fun f => (f.type, f.offset)) = #[(23, 0), (23, 1), (24, 2), (24, 3), (24, 4), (24, 5), (25, 6)] := by kernel_rfl
  have tl : F27.toList.map (·.type) = [23, 23, 24, 24, 24, 24, 25] := by kernel_rfl
  rw [tl] at hw
  have s27 : Try.prog.cellsOf 27 = 7 := by kernel_rfl
  have sB : Try.prog.cellsOf 23 = 1 := by kernel_rfl
  have sU : Try.prog.cellsOf 24 = 1 := by kernel_rfl
  have sS : Try.prog.cellsOf 25 = 1 := by kernel_rfl
  have hcl : (Value.agg cs).cells.toList = cs.toList := rfl
  rw [hcl] at hf
  have hcs : cs.size = 7 := by rw [hsz, s27]
  obtain ⟨c0, c1, c2, c3, c4, c5, c6, rfl⟩ : ∃ c0 c1 c2 c3 c4 c5 c6, cs = #[c0, c1, c2, c3, c4, c5, c6] := by
    match cs, hcs with
    | ⟨[a, b, c, d, e, f, g]⟩, _ => exact ⟨a, b, c, d, e, f, g, rfl⟩
  have get : ∀ (i t o : Nat), (F27.map (fun f => (f.type, f.offset)))[i]? = some (t, o) → Try.prog.cellsOf t = 1 → ∃ x, xs[i]? = some x ∧ DataW.trod enc Try.prog W 0 (fun _ => true) true m t (([c0, c1, c2, c3, c4, c5, c6].drop o).take 1) = some x := fun i t o ht hc => by
    rw [Array.getElem?_map] at ht
    obtain ⟨f, g, e⟩ := Option.map_eq_some_iff.1 ht
    simp only [Prod.mk.injEq] at e
    have r := hf i f g
    rw [e.1, e.2, hc] at r
    have hi : i < xs.length := by rw [hlen]; exact (Array.getElem?_eq_some_iff.1 g).1
    rw [List.getElem?_eq_getElem hi] at r ⊢
    exact ⟨_, rfl, r⟩
  rw [ts] at get
  obtain ⟨x0, g0, r0⟩ := get 0 _ _ rfl sB
  obtain ⟨x1, g1, r1⟩ := get 1 _ _ rfl sB
  obtain ⟨x2, g2, r2⟩ := get 2 _ _ rfl sU
  obtain ⟨x3, g3, r3⟩ := get 3 _ _ rfl sU
  obtain ⟨x4, g4, r4⟩ := get 4 _ _ rfl sU
  obtain ⟨x5, g5, r5⟩ := get 5 _ _ rfl sU
  obtain ⟨x6, g6, r6⟩ := get 6 _ _ rfl sS
  have w0 := weights_part hw (i := 0) rfl (show (xs.map (·.1))[0]? = some x0.1 by rw [List.getElem?_map, g0]; rfl)
  have w1 := weights_part hw (i := 1) rfl (show (xs.map (·.1))[1]? = some x1.1 by rw [List.getElem?_map, g1]; rfl)
  obtain ⟨q0, n0, k0, xs0, e0, d0, l0⟩ := trod_bytes (e := 5) (by kernel_rfl) (by kernel_rfl) (by kernel_rfl) (by kernel_rfl) r0 w0
  obtain ⟨q1, n1, k1, xs1, e1, d1, l1⟩ := trod_bytes (e := 5) (by kernel_rfl) (by kernel_rfl) (by kernel_rfl) (by kernel_rfl) r1 w1
  obtain ⟨m2, e2, _⟩ := DataW.trod_int (k := .u64) (by kernel_rfl) r2
  obtain ⟨m3, e3, _⟩ := DataW.trod_int (k := .u64) (by kernel_rfl) r3
  obtain ⟨m4, e4, _⟩ := DataW.trod_int (k := .u64) (by kernel_rfl) r4
  obtain ⟨m5, e5, _⟩ := DataW.trod_int (k := .u64) (by kernel_rfl) r5
  have f6 : ∃ q n c, c6 = .slice q n c := by
    rcases DataW.trod_slice (e := 55) (by kernel_rfl) r6 with ⟨h0, _⟩ | ⟨a, len, cap, _, _, _, _, h0, _⟩
    · exact ⟨none, 0, 0, by simpa using h0⟩
    · exact ⟨some a, len, cap, by simpa using h0⟩
  obtain ⟨q6, n6, k6, rfl⟩ := f6
  have e0 : c0 = .slice q0 n0 k0 := by simpa using e0
  have e1 : c1 = .slice q1 n1 k1 := by simpa using e1
  have e2 : c2 = .int .u64 m2 := by simpa using e2
  have e3 : c3 = .int .u64 m3 := by simpa using e3
  have e4 : c4 = .int .u64 m4 := by simpa using e4
  have e5 : c5 = .int .u64 m5 := by simpa using e5
  exact ⟨q0, q1, n0, k0, n1, k1, m2, m3, m4, m5, q6, n6, k6, xs0, xs1, by rw [e0, e1, e2, e3, e4, e5]; rfl, d0, d1, l0, l1⟩
namespace asmPrograms
theorem own : ownKnob Try.prog.godebug = none := by kernel_rfl
set_option maxRecDepth 100000 in
theorem lifted (os : Os) (started : os.Started) (H : Type) (enc : TypeId × Value → H) :
    ReturnsInHanded {} Try.checked os 10 .any (Rows.asmProgramsSpec.pre6 enc Try.prog Try.f10 Rows.asmProgramsRow.domain false) (Rows.asmProgramsSpec.post enc Try.prog Try.f10 false true false false) := by
  refine law_lifted (C := Try.checked) (ts := [27]) (tb := 4) own started (by kernel_rfl) Try.func10
    (ChangeSpec.witness6 (enc := enc) (C := Try.checked) false ⟨#[], #[.agg #[.slice none 0 0, .slice none 0 0, .int .u64 0, .int .u64 0, .int .u64 0, .int .u64 0, .slice none 0 0]], []⟩ 8 (by kernel_rfl) (by kernel_rfl) (by kernel_rfl) (by kernel_rfl))
    (by kernel_rfl) (by kernel_rfl) (by kernel_rfl) rfl ?_ (by kernel_rfl) (by kernel_rfl) ?_
  · intro ds hd
    match ds, hd with
    | [_], _ => rfl
  · intro W vs hA
    match vs, hA with
    | [v1], ⟨h1, _⟩ =>
      obtain ⟨ib, jb, il, ic, jl, jc, at_, bss, n, en, sb, sl, sc, xs, ys, rfl, hx, hy, h3, h4⟩ := arg_image h1
      refine (c_law hx hy h3 h4).mono ?_
      rintro e w' ⟨v, rfl, rfl, hb⟩
      exact ⟨rfl, hb⟩
theorem over : Rows.asmProgramsRow.holds Try.pinned (OpenSpec.ofChange Rows.asmProgramsSpec) :=
  OpenClaim.holds_of_wide 10 Try.f10 rfl rfl rfl rfl rfl rfl rfl ⟨rfl, rfl, rfl, rfl, rfl⟩ rfl rfl rfl rfl rfl (by kernel_rfl) Try.func10 (by kernel_rfl)
    (of_decide_eq_true (by kernel_rfl)) (by unfold Func.isWrapper; first | (rw [if_pos (by decide +kernel)]; kernel_rfl) | (rw [if_neg (by decide +kernel)]; exact ⟨rfl, rfl⟩))
    (fun os started H enc _ => lifted os started H enc)
theorem proved : Rows.AsmProgramsSaid := over
#print axioms proved
end asmPrograms
end Go.Proofs.Ytceciiemnagdoaa
