/- Words for maps: a set of numbers held as a map's keys. No condition. -/
import Derived.Test.YthkcdkldpbndnaaDoorHw
import Derived.MapKept
import Derived.Carry
set_option linter.unusedVariables false
namespace Go.Hx
open Go.RowKit Go.MapKept
theorem erase_idx : ∀ {ks : List Int} {j : Nat} {n : Int}, ks.Nodup → ks[j]? = some n → ks.erase n = ks.eraseIdx j
  | [], j, n, _, h => by simp at h
  | x :: r, 0, n, _, h => by
    have : x = n := by simpa using h
    subst this
    simp
  | x :: r, j + 1, n, hn, h => by
    have h : r[j]? = some n := by simpa using h
    have hx : x ≠ n := fun e => (List.nodup_cons.1 hn).1 (e ▸ List.mem_of_getElem? h)
    rw [List.erase_cons_tail (by simpa using hx), erase_idx (List.nodup_cons.1 hn).2 h]
    rfl
theorem map_eraseIdx {α β : Type} (f : α → β) : ∀ (l : List α) (j : Nat), (l.eraseIdx j).map f = (l.map f).eraseIdx j
  | [], j => by simp
  | x :: r, 0 => rfl
  | x :: r, j + 1 => by simp [map_eraseIdx f r j]
/-- The map at b: these keys, each with the value v. -/
def MpAt (k : IntKind) (v : Value) (w : World) (b : Nat) (ks : List Int) : Prop :=
  ∃ es clock, w.heap[b]? = some (.map es clock) ∧ es.toList.map (·.key) = ks.map (fun n => .int k n) ∧ (∀ e ∈ es.toList, e.val = v) ∧ ks.Nodup
section
variable {P : Program} {k : IntKind} {v : Value} {w w' : World} {b : Nat} {ks : List Int}
theorem MpAt.lt (h : MpAt k v w b ks) : b < w.heap.size := by
  obtain ⟨es, clock, h1, _⟩ := h
  exact (Array.getElem?_eq_some_iff.1 h1).1
theorem MpAt.keep (h : MpAt k v w b ks) (hb : w'.heap[b]? = w.heap[b]?) : MpAt k v w' b ks := by
  obtain ⟨es, clock, h1, h2⟩ := h
  exact ⟨es, clock, hb.trans h1, h2⟩
theorem MpAt.nodup (h : MpAt k v w b ks) : ks.Nodup := by
  obtain ⟨es, clock, _, _, _, h4⟩ := h
  exact h4
theorem mp_keys {es : Array MapEntry} (h : es.toList.map (·.key) = ks.map (fun n => .int k n)) : ∀ x ∈ es.toList, IsKey (.int k) x.key := fun x hx => by
  have : x.key ∈ es.toList.map (·.key) := List.mem_map.2 ⟨x, hx, rfl⟩
  rw [h] at this
  obtain ⟨n, _, e⟩ := List.mem_map.1 this
  rw [← e]
  simp [IsKey]
theorem mp_find {es : Array MapEntry} (h : es.toList.map (·.key) = ks.map (fun n => .int k n)) (n : Int) :
    (Instr.findNow (.int k) (.int k n) es.toList 0 = some none ∧ n ∉ ks) ∨ ∃ j e, Instr.findNow (.int k) (.int k n) es.toList 0 = some (some (j, e.val)) ∧ es.toList[j]? = some e ∧ e.key = .int k n ∧ ks[j]? = some n := by
  have hk : IsKey (.int k) (.int k n) := by simp [IsKey]
  rcases findNow_spec hk es.toList 0 (mp_keys h) with ⟨h1, h2⟩ | ⟨j, e, h1, h2, h3⟩
  · refine .inl ⟨h1, fun hn => ?_⟩
    have : Value.int k n ∈ es.toList.map (·.key) := by rw [h]; exact List.mem_map.2 ⟨n, hn, rfl⟩
    obtain ⟨x, hx, e⟩ := List.mem_map.1 this
    exact h2 x hx e
  · rw [Nat.zero_add] at h1
    refine .inr ⟨j, e, h1, h2, h3, ?_⟩
    have h4 : (es.toList.map (·.key))[j]? = some (.int k n) := by rw [List.getElem?_map, h2, ← h3]; rfl
    rw [h, List.getElem?_map] at h4
    obtain ⟨m, hm, e5⟩ := Option.map_eq_some_iff.1 h4
    simp only [Value.int.injEq, true_and] at e5
    rw [hm, e5]
variable {t kt et : TypeId}
theorem mp_has (h : MpAt k v w b ks) (ht : P.underlying t = some (.map kt et)) (hk : P.underlying kt = some (.int k)) (hz : (zeroValue et).run P w = .ok v w) (n : Int) :
    rdP P (Instr.lookup t (.map (some b)) (.int k n) true) (.tuple #[v, .bool (decide (n ∈ ks))]) w := by
  obtain ⟨es, clock, h1, h2, h3, h4⟩ := h
  have hkk : IsKey (.int k) (.int k n) := by simp [IsKey]
  unfold rdP
  rcases mp_find h2 n with ⟨f, hn⟩ | ⟨j, e, f, hj, he, hn⟩
  · simp [Instr.lookup, run_underlying ht, Go.MapKept.run_getObj_map h1, Go.MapKept.run_checkKey hk hkk, Go.MapKept.run_findKey hk f, Result.andThen, hz, hn]
  · have hv := h3 e (List.mem_of_getElem? hj)
    have hm : n ∈ ks := List.mem_of_getElem? hn
    simp [Instr.lookup, run_underlying ht, Go.MapKept.run_getObj_map h1, Go.MapKept.run_checkKey hk hkk, Go.MapKept.run_findKey hk f, Result.andThen, hv, hm]
theorem mp_set {es : Array MapEntry} {clock : Nat} (h1 : w.heap[b]? = some (.map es clock)) (o : Obj) : Mod b w { w with heap := w.heap.setIfInBounds b o } ∧ ({ w with heap := w.heap.setIfInBounds b o } : World).heap.size = w.heap.size :=
  ⟨⟨rfl, rfl, rfl, by simp, fun j hj hne => (heap_set h1).2 j hne⟩, by simp⟩
theorem keyThat (a : Int) : (Instr.keyThatStays (.int k a) (.int k a)).run P w = .ok (.int k a) w := by
  unfold Instr.keyThatStays
  have e : Instr.sameBits 10000 (.int k a) (.int k a) = true := by
    unfold Instr.sameBits
    simp
  rw [if_pos e, Sem.run_pure]
theorem mp_put (h : MpAt k v w b ks) (ht : P.underlying t = some (.map kt et)) (hk : P.underlying kt = some (.int k)) (n : Int) {K : World → Prop}
    (hK : ∀ w', MpAt k v w' b (if n ∈ ks then ks else ks ++ [n]) → Mod b w w' → w'.heap.size = w.heap.size → K w') :
    ∃ w', stU P (Instr.mapUpdate t (.map (some b)) (.int k n) v) w w' ∧ K w' := by
  obtain ⟨es, clock, h1, h2, h3, h4⟩ := h
  have hkk : IsKey (.int k) (.int k n) := by simp [IsKey]
  rcases mp_find h2 n with ⟨f, hn⟩ | ⟨j, e, f, hj, he, hn⟩
  · obtain ⟨m, s⟩ := mp_set h1 (.map (es.push { key := .int k n, val := v, born := clock }) (clock + 1))
    refine ⟨_, ?_, hK _ ⟨_, _, (heap_set h1).1, ?_, ?_, ?_⟩ m s⟩
    · unfold stU
      simp [Instr.mapUpdate, run_underlying ht, Go.MapKept.run_getObj_map h1, Go.MapKept.run_checkKey hk hkk, Go.MapKept.run_findKey hk f, Go.MapKept.run_setObj_map _ h1, Result.andThen]
    · rw [if_neg hn, Array.toList_push, List.map_append, h2, List.map_append]; rfl
    · intro e he
      rw [Array.toList_push] at he
      rcases List.mem_append.1 he with he | he
      · exact h3 e he
      · simp at he; rw [he]
    · rw [if_neg hn]
      exact List.nodup_append.2 ⟨h4, by simp, fun a ha b hb => by simp at hb; subst hb; rintro rfl; exact hn ha⟩
  · have hm : n ∈ ks := List.mem_of_getElem? hn
    have hv := h3 e (List.mem_of_getElem? hj)
    have hje : es[j]? = some e := by simpa using hj
    have hkt : (Instr.keyThatStays (((es[j]?).map (·.key)).getD (.int k n)) (.int k n)).run P w = .ok (.int k n) w := by
      rw [hje]
      show (Instr.keyThatStays e.key (.int k n)).run P w = _
      rw [he]
      exact keyThat n
    obtain ⟨m, s⟩ := mp_set h1 (.map (es.modify j fun e => { e with key := .int k n, val := v }) clock)
    refine ⟨_, ?_, hK _ ⟨_, _, (heap_set h1).1, ?_, ?_, ?_⟩ m s⟩
    · unfold stU
      simp [Instr.mapUpdate, run_underlying ht, Go.MapKept.run_getObj_map h1, Go.MapKept.run_checkKey hk hkk, Go.MapKept.run_findKey hk f, Go.MapKept.run_setObj_map _ h1, Result.andThen, hkt]
    · rw [if_pos hm, ← h2]
      exact modify_keys j _ fun e' h' => by rw [hje] at h'; cases h'; exact he.symm
    · intro e' he'
      have : e'.val ∈ (es.modify j fun e => { e with key := .int k n, val := v }).toList.map (·.val) := List.mem_map.2 ⟨e', he', rfl⟩
      obtain ⟨i, hi⟩ := List.mem_iff_getElem?.1 he'
      rw [Array.getElem?_toList, Array.getElem?_modify] at hi
      split at hi
      · obtain ⟨x, _, rfl⟩ := Option.map_eq_some_iff.1 hi
        rfl
      · exact h3 e' (Array.mem_toList_iff.2 (Array.mem_of_getElem? hi))
    · rw [if_pos hm]; exact h4
theorem mp_del (h : MpAt k v w b ks) (ht : P.underlying t = some (.map kt et)) (hk : P.underlying kt = some (.int k)) (n : Int) {u : TypeId} {K : World → Prop}
    (hK : ∀ w', MpAt k v w' b (ks.erase n) → Mod b w w' → w'.heap.size = w.heap.size → K w') :
    ∃ (r : Value) (w' : World), stP P (Builtin.delete_ #[t, kt] u #[.map (some b), .int k n]) w r w' ∧ K w' := by
  obtain ⟨es, clock, h1, h2, h3, h4⟩ := h
  have hkk : IsKey (.int k) (.int k n) := by simp [IsKey]
  rcases mp_find h2 n with ⟨f, hn⟩ | ⟨j, e, f, hj, he, hn⟩
  · obtain ⟨m, s⟩ := mp_set h1 (.map es clock)
    refine ⟨.tuple #[], _, ?_, hK _ ⟨_, _, (heap_set h1).1, ?_, h3, ?_⟩ m s⟩
    · unfold stP
      simp [Builtin.delete_, run_underlying ht, Go.MapKept.run_getObj_map h1, Go.MapKept.run_checkKey hk hkk, Go.MapKept.run_findKey hk f, Go.MapKept.run_setObj_map _ h1, Result.andThen]
    · rw [List.erase_of_not_mem hn]; exact h2
    · rw [List.erase_of_not_mem hn]; exact h4
  · have hjl : j < es.toList.length := (List.getElem?_eq_some_iff.1 hj).1
    have hjs : j < es.size := by simpa using hjl
    have hke : ks.erase n = ks.eraseIdx j := erase_idx h4 hn
    obtain ⟨m, s⟩ := mp_set h1 (.map (es.eraseIdxIfInBounds j) clock)
    refine ⟨.tuple #[], _, ?_, hK _ ⟨_, _, (heap_set h1).1, ?_, ?_, ?_⟩ m s⟩
    · unfold stP
      simp [Builtin.delete_, run_underlying ht, Go.MapKept.run_getObj_map h1, Go.MapKept.run_checkKey hk hkk, Go.MapKept.run_findKey hk f, Go.MapKept.run_setObj_map _ h1, Result.andThen]
    · rw [hke, Array.eraseIdxIfInBounds, dif_pos hjs, Array.toList_eraseIdx, map_eraseIdx, h2, ← map_eraseIdx]
    · intro e' he'
      rw [Array.eraseIdxIfInBounds, dif_pos hjs, Array.toList_eraseIdx] at he'
      exact h3 e' (List.mem_of_mem_eraseIdx he')
    · rw [hke]
      exact h4.sublist (List.eraseIdx_sublist _ _)
theorem mp_new {t : TypeId} (v : Value) (k : IntKind) {K : Value → World → Prop} (hK : ∀ b w', MpAt k v w' b [] → w.heap.size ≤ b → Below w.heap.size w w' → K (.map (some b)) w') : ∃ (r : Value) (w' : World), stP P (Instr.makeMap t none) w r w' ∧ K r w' :=
  ⟨_, _, run_makeMap t w, hK _ _ ⟨#[], 0, heap_alloc_new w _, rfl, fun e he => by simp at he, List.nodup_nil⟩ (Nat.le_refl _) (below_new w _)⟩
end
end Go.Hx
