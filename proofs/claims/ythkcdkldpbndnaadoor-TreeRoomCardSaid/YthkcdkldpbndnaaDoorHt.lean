/- What laws are handed: slices of bytes. No condition. -/
import Derived.Test.YthkcdkldpbndnaaDoorHr
import Derived.Test.YthkcdkldpbndnaaDoorHs
import Derived.ChangeSlices
set_option linter.unusedVariables false
namespace Go.Hx
open Go.RowKit Go.WideShapes
section
variable {H : Type} {enc : TypeId × Value → H} {P : Program} {W w : World} {base : Nat} {spare : Nat → Bool} {held : Bool}
theorem reach_eq : reachBytes = 140737488351232 := rfl
theorem u8_wf {n : Int} (h : (Lit.int .u8 n).wf = true) : 0 ≤ n ∧ n < 256 := by
  simp only [Lit.wf, Bool.and_eq_true, decide_eq_true_eq] at h
  have h1 : IntKind.u8.min = 0 := by decide
  have h2 : IntKind.u8.max = 255 := by decide
  rw [h1, h2] at h
  omega
theorem ints_bv : ∀ (zs : List Int), (∀ n ∈ zs, (Lit.int .u8 n).wf = true) → zs.map (fun n => Value.int .u8 n) = bv (zs.map fun n => UInt8.ofNat n.toNat)
  | [], _ => rfl
  | z :: r, h => by
    obtain ⟨h1, h2⟩ := u8_wf (h z (List.mem_cons_self ..))
    simp only [List.map_cons, bv]
    rw [ints_bv r fun n hn => h n (List.mem_cons_of_mem _ hn)]
    congr 2
    rw [UInt8.toNat_ofNat']
    omega
theorem trod_bytes {t e : TypeId} {fuel : Nat} {cs : List Value} {x : DataW H × List MemPlace} (hu : P.underlying t = some (.slice e)) (he : P.underlying e = some (.int .u8)) (hc : P.cellsOf e = 1) (hb : P.bytesOf e = 1)
    (h : DataW.trod enc P w base spare held fuel t cs = some x) (hw : (x.1.weights P t).all (· ≤ reachBytes) = true) : ∃ (q : Option Addr) (n c : Nat) (xs : List UInt8), cs = [.slice q n c] ∧ Rd 1 w q n (bv xs) ∧ n ≤ 140737488351232 ∧ n ≤ c := by
  rcases Go.ChangeShapes.open_ints hu he hc h with ⟨h0, _⟩ | ⟨a, len, cap, zs, h0, _, hl, _, hz, hx, hcell, hwf⟩
  · exact ⟨none, 0, 0, [], h0, Rd.empty _ _ _, by omega, by omega⟩
  · have hle : len ≤ zs.length := by rw [hz]; split <;> omega
    refine ⟨some a, len, cap, (zs.take len).map fun n => UInt8.ofNat n.toNat, h0, ⟨?_, fun h => (by cases h), fun b hb' => ?_⟩, ?_, hl⟩
    · rw [bv_length, List.length_map, List.length_take]; omega
    · cases hb'
      rw [← ints_bv _ fun n hn => hwf n (List.mem_of_mem_take hn)]
      intro j v hv
      rw [List.getElem?_toArray, List.getElem?_map] at hv
      cases e1 : (zs.take len)[j]? with
      | none => rw [e1] at hv; cases hv
      | some z =>
        rw [e1] at hv
        cases hv
        have hj := (List.getElem?_eq_some_iff.1 e1).1
        rw [List.length_take] at hj
        rw [hcell j (by omega)]
        rw [List.getElem?_take_of_lt (by omega)] at e1
        rw [List.getD_eq_getElem?_getD, e1]; rfl
    · rw [hx] at hw
      simp only [DataW.weights, hu, List.all_cons, Bool.and_eq_true, decide_eq_true_eq] at hw
      have := hw.1
      rw [hb, reach_eq] at this
      simp only [Go.ChangeShapes.lits, List.length_map, List.length_take, List.length_drop] at this
      omega
/-- A slice of bytes. -/
theorem arg_bytes {t e : TypeId} {v : Value} (h : ArgIs enc P W t v) (hu : P.underlying t = some (.slice e)) (he : P.underlying e = some (.int .u8)) (hc : P.cellsOf e = 1) (hb : P.bytesOf e = 1) :
    ∃ (q : Option Addr) (n c : Nat) (xs : List UInt8), v = .slice q n c ∧ Rd 1 W q n (bv xs) ∧ n ≤ 140737488351232 ∧ n ≤ c := by
  obtain ⟨b0, d, p, h1, ⟨fuel, h2⟩, hw⟩ := h
  obtain ⟨a, len, cap, rfl⟩ := okWide_slice hu h1
  obtain ⟨q, n, c, xs, h3, h4, h5⟩ := trod_bytes hu he hc hb h2 hw
  have h6 : [Value.slice a len cap] = [.slice q n c] := h3
  cases h6
  exact ⟨_, _, _, xs, rfl, h4, h5⟩
theorem weights_part : ∀ {ts : List TypeId} {ds : List (DataW H)}, (DataW.weightsEach P ts ds).all (· ≤ reachBytes) = true → ∀ {i : Nat} {t : TypeId} {d : DataW H}, ts[i]? = some t → ds[i]? = some d → (d.weights P t).all (· ≤ reachBytes) = true
  | [], _, _, i, t, d, ht, _ => by simp at ht
  | _ :: _, [], _, i, t, d, _, hd => by simp at hd
  | t :: ts, d :: ds, h, 0, _, _, rfl, rfl => by
    unfold DataW.weightsEach at h
    rw [List.all_append, Bool.and_eq_true] at h
    exact h.1
  | t :: ts, d :: ds, h, i + 1, _, _, ht, hd => by
    unfold DataW.weightsEach at h
    rw [List.all_append, Bool.and_eq_true] at h
    exact weights_part h.2 (by simpa using ht) (by simpa using hd)
/-- A struct whose fields have one cell each. -/
theorem arg_cells {t : TypeId} {v : Value} {fs : Array Field} {tl : List TypeId} (h : ArgIs enc P W t v) (hu : P.underlying t = some (.struct fs)) (hm : fs.toList.map (fun f => (f.type, f.offset)) = tl.zipIdx) (h1 : (tl.all fun u => Nat.beq (P.cellsOf u) 1) = true) (hs : P.cellsOf t = tl.length) :
    ∃ cs : List Value, v = .agg cs.toArray ∧ cs.length = tl.length ∧ ∀ (i : Nat) (u : TypeId), tl[i]? = some u → ∃ (c : Value) (x : DataW H × List MemPlace) (m : Nat), cs[i]? = some c ∧ DataW.trod enc P W 0 (fun _ => true) true m u [c] = some x ∧ (x.1.weights P u).all (· ≤ reachBytes) = true := by
  obtain ⟨b0, d, p, h2, ⟨fuel, h3⟩, hw⟩ := h
  obtain ⟨cs, rfl, hsz⟩ := okWide_struct hu h2
  obtain ⟨xs, m, _, hx, hl, hlen, hf⟩ := DataW.trod_struct hu h3
  simp only [Prod.mk.injEq] at hx
  rw [hx.1] at hw
  simp only [DataW.weights, hu] at hw
  have tl2 : fs.toList.map (·.type) = tl := by
    have := congrArg (List.map Prod.fst) hm
    rw [List.map_map, List.zipIdx_map_fst] at this
    exact this
  rw [tl2] at hw
  have hcl : (Value.agg cs).cells.toList = cs.toList := rfl
  rw [hcl] at hf
  have hcs : cs.toList.length = tl.length := by rw [Array.length_toList, hsz, hs]
  refine ⟨cs.toList, by simp, hcs, fun i u hi => ?_⟩
  have hil : i < tl.length := (List.getElem?_eq_some_iff.1 hi).1
  have hz : (fs.toList.map (fun f => (f.type, f.offset)))[i]? = some (u, i) := by
    rw [hm, List.getElem?_zipIdx, hi]; simp
  rw [List.getElem?_map, Array.getElem?_toList] at hz
  obtain ⟨f, g, e⟩ := Option.map_eq_some_iff.1 hz
  simp only [Prod.mk.injEq] at e
  have r := hf i f g
  have hc1 : P.cellsOf u = 1 := Nat.eq_of_beq_eq_true (List.all_eq_true.1 h1 u (List.mem_of_getElem? hi))
  rw [e.1, e.2, hc1] at r
  have hix : i < xs.length := by rw [hlen]; exact (Array.getElem?_eq_some_iff.1 g).1
  rw [List.getElem?_eq_getElem hix] at r
  have hic : i < cs.toList.length := by omega
  have ed : (cs.toList.drop i).take 1 = [cs.toList[i]] := by
    rw [List.drop_eq_getElem_cons hic]; rfl
  rw [ed] at r
  exact ⟨_, _, m, List.getElem?_eq_getElem hic, r, weights_part hw (i := i) hi (by rw [List.getElem?_map, List.getElem?_eq_getElem hix]; rfl)⟩
theorem trod_str {t : TypeId} {fuel : Nat} {c : Value} {x : DataW H × List MemPlace} (hu : P.underlying t = some .string) (h : DataW.trod enc P w base spare held fuel t [c] = some x) (hw : (x.1.weights P t).all (· ≤ reachBytes) = true) : ∃ s : ByteArray, c = .string s ∧ s.size ≤ 140737488351232 := by
  obtain ⟨s, h3, h4, _⟩ := DataW.trod_string hu h
  have h3 : c = .string s := by simpa using h3
  rw [h4] at hw
  simp only [DataW.weights, List.all_cons, List.all_nil, Bool.and_true, decide_eq_true_eq] at hw
  rw [Array.length_toList] at hw
  exact ⟨s, h3, reach_eq ▸ hw⟩
end
end Go.Hx
