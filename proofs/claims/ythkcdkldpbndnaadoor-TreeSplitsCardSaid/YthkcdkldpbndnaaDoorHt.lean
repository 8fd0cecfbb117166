/- What laws are handed: slices of bytes. No condition. -/
import Derived.Test.YthkcdkldpbndnaaDoorHr
import Derived.Test.YthkcdkldpbndnaaDoorHs
import Derived.ChangeSlices
set_option linter.unusedVariables false
namespace Go.Hx
open Go.RowKit Go.WideShapes
section
variable {H : Type} {enc : TypeId × Value → H} {P : Program} {W w : World} {base : Nat} {spare : Nat → Bool} {held : Bool}
theorem reach_eq : reachBytes = 140737488351232 := rfl
theorem u8_wf {n : Int} (h : (Lit.int .u8 n).wf = true) : 0 ≤ n ∧ n < 256 := by
  simp only [Lit.wf, Bool.and_eq_true, decide_eq_true_eq] at h
  have h1 : IntKind.u8.min = 0 := by decide
  have h2 : IntKind.u8.max = 255 := by decide
  rw [h1, h2] at h
  omega
theorem ints_bv : ∀ (zs : List Int), (∀ n ∈ zs, (Lit.int .u8 n).wf = true) → zs.map (fun n => Value.int .u8 n) = bv (zs.map fun n => UInt8.ofNat n.toNat)
  | [], _ => rfl
  | z :: r, h => by
    obtain ⟨h1, h2⟩ := u8_wf (h z (List.mem_cons_self ..))
    simp only [List.map_cons, bv]
    rw [ints_bv r fun n hn => h n (List.mem_cons_of_mem _ hn)]
    congr 2
    rw [UInt8.toNat_ofNat']
    omega
theorem trod_bytes {t e : TypeId} {fuel : Nat} {cs : List Value} {x : DataW H × List MemPlace} (hu : P.underlying t = some (.slice e)) (he : P.underlying e = some (.int .u8)) (hc : P.cellsOf e = 1) (hb : P.bytesOf e = 1)
    (h : DataW.trod enc P w base spare held fuel t cs = some x) (hw : (x.1.weights P t).all (· ≤ reachBytes) = true) : ∃ (q : Option Addr) (n c : Nat) (xs : List UInt8), cs = [.slice q n c] ∧ Rd 1 w q n (bv xs) ∧ n ≤ 140737488351232 ∧ n ≤ c := by
  rcases Go.ChangeShapes.open_ints hu he hc h with ⟨h0, _⟩ | ⟨a, len, cap, zs, h0, _, hl, _, hz, hx, hcell, hwf⟩
  · exact ⟨none, 0, 0, [], h0, Rd.empty _ _ _, by omega, by omega⟩
  · have hle : len ≤ zs.length := by rw [hz]; split <;> omega
    refine ⟨some a, len, cap, (zs.take len).map fun n => UInt8.ofNat n.toNat, h0, ⟨?_, fun h => (by cases h), fun b hb' => ?_⟩, ?_, hl⟩
    · rw [bv_length, List.length_map, List.length_take]; omega
    · cases hb'
      rw [← ints_bv _ fun n hn => hwf n (List.mem_of_mem_take hn)]
      intro j v hv
      rw [List.getElem?_toArray, List.getElem?_map] at hv
      cases e1 : (zs.take len)[j]? with
      | none => rw [e1] at hv; cases hv
      | some z =>
        rw [e1] at hv
        cases hv
        have hj := (List.getElem?_eq_some_iff.1 e1).1
        rw [List.length_take] at hj
        rw [hcell j (by omega)]
        rw [List.getElem?_take_of_lt (by omega)] at e1
        rw [List.getD_eq_getElem?_getD, e1]; rfl
    · rw [hx] at hw
      simp only [DataW.weights, hu, List.all_cons, Bool.and_eq_true, decide_eq_true_eq] at hw
      have := hw.1
      rw [hb, reach_eq] at this
      simp only [Go.ChangeShapes.lits, List.length_map, List.length_take, List.length_drop] at this
      omega
/-- A slice of bytes. -/
theorem arg_bytes {t e : TypeId} {v : Value} (h : ArgIs enc P W t v) (hu : P.underlying t = some (.slice e)) (he : P.underlying e = some (.int .u8)) (hc : P.cellsOf e = 1) (hb : P.bytesOf e = 1) :
    ∃ (q : Option Addr) (n c : Nat) (xs : List UInt8), v = .slice q n c ∧ Rd 1 W q n (bv xs) ∧ n ≤ 140737488351232 ∧ n ≤ c := by
  obtain ⟨b0, d, p, h1, ⟨fuel, h2⟩, hw⟩ := h
  obtain ⟨a, len, cap, rfl⟩ := okWide_slice hu h1
  obtain ⟨q, n, c, xs, h3, h4, h5⟩ := trod_bytes hu he hc hb h2 hw
  have h6 : [Value.slice a len cap] = [.slice q n c] := h3
  cases h6
  exact ⟨_, _, _, xs, rfl, h4, h5⟩
end
end Go.Hx
