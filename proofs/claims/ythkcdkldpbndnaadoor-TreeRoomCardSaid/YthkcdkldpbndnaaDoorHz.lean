/- The walk library is sound: where 'wFn' holds of a function, its call comes back and what it hands back and the world meet the post. No condition. -/
import Derived.Test.YthkcdkldpbndnaaDoorHy
import Derived.Sort.LoopGhostIn
set_option linter.unusedVariables false
namespace Go.Hx
open Go.RowKit
section
variable {P : Program}

/-- The fences of the walk: of a function's activation, and of a round of a loop. -/
abbrev Fr (r : Option Nat) : Fence := { Fence.wide with round := r }
theorem fr_calls {r : Option Nat} {f : FuncId} {args : Array Value} {w : World} {R : Ending → World → Prop} (h : Calls P f args w R) : CallsIn (Fr r) 0 P f args w R := (callsIn_wide (n := 0)).2 h
theorem run_sizeOf_pos {t : TypeId} {n : Nat} (h : P.cellsOf t = n) (h0 : n ≠ 0) (w : World) : (sizeOf t).run P w = .ok n w := by
  rw [cells_info (by rw [h]; exact h0), h]
theorem run_storeVar_one {t : TypeId} {w : World} {a : Addr} {u v : Value} (hs : P.cellsOf t = 1) (hv : one v = true) (hc : w.cell? a = some u) (hf : w.frozen? a = false) :
    (storeVar t a v).run P w = .ok () (w.setCell a v) := by
  have hcs : v.cells = #[v] := by cases v <;> first | rfl | cases hv
  have ho : v.oneCell' = true := by cases v <;> first | rfl | cases hv
  unfold storeVar
  simp only [Sem.run_bind, hcs, run_sizeOf_pos hs (by omega), Result.andThen_ok]
  rw [if_neg (by simp)]
  simp only [storeCells, Addr.add_zero', Sem.run_bind, run_store P w a v _ ho, hc, hf, Bool.false_eq_true, if_false, Result.andThen_ok, Sem.run_pure]
theorem Room.keep {w : World} {a : Addr} {n : Nat} (h : RoomAt w a n) (b : Addr) (v : Value) : RoomAt (w.setCell b v) a n := by
  intro i hi
  obtain ⟨⟨u, hu⟩, hf⟩ := h i hi
  refine ⟨?_, by rw [World.frozen?_setCell]; exact hf⟩
  by_cases e : b = a.add i
  · subst e; exact ⟨v, World.cell?_setCell_same w _ v hu⟩
  · exact ⟨u, by rw [World.cell?_setCell_other w _ _ _ e]; exact hu⟩
theorem run_storeCells_stoL {a : Addr} {n : Nat} : ∀ (l : List Value) (i : Nat) (w : World), i + l.length ≤ n → (∀ c ∈ l, one c = true) → RoomAt w a n → (storeCells a l i).run P w = .ok () (stoL a l i w)
  | [], _, _, _, _, _ => rfl
  | v :: r, i, w, hn, hl, hr => by
    have ho : v.oneCell' = true := by
      have := hl v (by simp)
      cases v <;> first | rfl | cases this
    obtain ⟨⟨u, hu⟩, hf⟩ := hr i (by simp at hn; omega)
    simp only [storeCells, Sem.run_bind, run_store P w _ v _ ho, hu, hf, Bool.false_eq_true, if_false, Result.andThen_ok, stoL]
    exact run_storeCells_stoL r (i + 1) _ (by simp at hn ⊢; omega) (fun c hc => hl c (by simp [hc])) (Room.keep hr _ _)

theorem one_of {v : Value} (h : v.oneCell' = true) : one v = true := by
  cases v <;> first | rfl | cases h
theorem firstCells_row {size l c : Nat} {b : Option Addr} {olds : List Value} {w : World} (hl : olds.length = l * size) (hr : ∀ a, b = some a → RowAt w a olds.toArray) (h0 : b = none → l = 0) :
    (Builtin.firstCells size l (.slice b l c)).run P w = .ok olds.toArray w := by
  cases b with
  | none =>
    have : olds = [] := List.length_eq_zero_iff.1 (by rw [hl, h0 rfl, Nat.zero_mul])
    subst this
    exact run_firstCells_none w size l l c
  | some a =>
    exact run_firstCells_some w size l a l c olds hl fun j u hu => hr a rfl j u (by rw [List.getElem?_toArray]; exact hu)
theorem apnW_sound {t tx ty : TypeId} {s x : Value} {w : World} {K : Option Addr → Nat → Nat → World → Prop} (h : apnW P t tx s x w K) :
    ∃ b l c w', (Builtin.append_ #[t, tx] ty #[s, x]).run P w = .ok (.slice b l c) w' ∧ K b l c w' := by
  unfold apnW at h
  split at h
  · rename_i e hu
    split at h
    · rename_i i hi
      split at h
      · rename_i z hz
        obtain ⟨b, l, c, n, news, rfl, hs, h⟩ := h
        cases hb : Nat.ble (l + n) c with
        | true =>
          rw [hb] at h
          have hroom : l + n ≤ c := Nat.le_of_ble_eq_true hb
          rcases h with ⟨rfl, rfl, hk⟩ | ⟨a, rfl, hr, hk⟩
          · refine ⟨_, _, _, _, ?_, hk⟩
            rcases hs.kind with ⟨e', hk'⟩ | hk' <;> simp [Builtin.append_, run_underlying hu, run_underlying hk', sizeOf, typeInfo, hi, hs.len, hroom, hs.cells]
          · refine ⟨_, _, _, _, ?_, hk⟩
            have hst := run_storeCells_stoL (P := P) (n := news.length) news 0 w (by simp) (fun u hu => one_of (hs.one u hu)) hr
            rcases hs.kind with ⟨e', hk'⟩ | hk' <;> simp [Builtin.append_, run_underlying hu, run_underlying hk', sizeOf, typeInfo, hi, hs.len, hroom, hs.cells, hst]
        | false =>
          rw [hb] at h
          have hg : c < l + n := by
            apply Classical.byContradiction
            intro hh
            rw [Nat.ble_eq_true_of_le (by omega)] at hb; cases hb
          obtain ⟨olds, hl, hr, h0, h63, hfit, hk⟩ := h
          refine ⟨_, _, _, _, run_append_grow_src w t tx ty e i z hu hi hz b l c olds (firstCells_row (w := w.drew) hl hr h0) x n news hs hg h63 hfit, hk _ (grownCap_ge w (l + n) c e) (grownCap_le_maxLen w (l + n) c e)⟩
      · exact h.elim
    · exact h.elim
  · exact h.elim
theorem apnW_mono {t tx : TypeId} {s x : Value} {w : World} {K K' : Option Addr → Nat → Nat → World → Prop} (hK : ∀ b l c w, K b l c w → K' b l c w) (h : apnW P t tx s x w K) : apnW P t tx s x w K' := by
  unfold apnW at *
  split at h
  · split at h
    · split at h
      · obtain ⟨b, l, c, n, news, hs, hx, h⟩ := h
        refine ⟨b, l, c, n, news, hs, hx, cond_mono ?_ ?_ h⟩
        · rintro (⟨h1, h2, h3⟩ | ⟨a, h1, h2, h3⟩)
          · exact Or.inl ⟨h1, h2, hK _ _ _ _ h3⟩
          · exact Or.inr ⟨a, h1, h2, hK _ _ _ _ h3⟩
        · rintro ⟨olds, h1, h2, h3, h4, h5, h6⟩
          exact ⟨olds, h1, h2, h3, h4, h5, fun nc hn hm => hK _ _ _ _ (h6 nc hn hm)⟩
      · exact h
    · exact h
  · exact h
theorem mksW_sound {t : TypeId} {l c : Value} {w : World} {K : Option Addr → Nat → Nat → World → Prop} (h : mksW P t l c w K) :
    ∃ b n m w', (Instr.makeSlice t l c).run P w = .ok (.slice b n m) w' ∧ K b n m w' := by
  unfold mksW at h
  split at h
  · rename_i e hu
    split at h
    · rename_i kl l kc c
      split at h
      · rename_i i hi
        split at h
        · rename_i z hz
          obtain ⟨⟨h0, h1, h2, h3⟩, h⟩ := h
          refine ⟨_, _, _, _, ?_, h⟩
          have wl : IntKind.i64.wrap l = l := by
            unfold IntKind.wrap; simp only [IntKind.bits, IntKind.signed]; simp; split <;> omega
          have wc : IntKind.i64.wrap c = c := by
            unfold IntKind.wrap; simp only [IntKind.bits, IntKind.signed]; simp; split <;> omega
          have hb : (i.bytes : Int) * l ≤ 281474976710656 := Int.le_trans (Int.mul_le_mul_of_nonneg_left h1 (by omega)) h3
          simp only [Instr.makeSlice, Sem.run_bind, run_underlying hu, Result.andThen_ok, asInt, asIntOf, Sem.run_pure, pure_bind, run_typeInfo (P := P) w hi, wl, wc, sizeOf, zeroValue, hz]
          have hlt : ¬ (l < 0) := by omega
          have hcl : ¬ (l > c) := by omega
          have hc0 : ¬ (c < 0) := by omega
          have hbc : ¬ ((i.bytes : Int) * c > 2 ^ 48) := by simpa using h3
          simp only [decide_eq_false hc0, decide_eq_false hbc, decide_eq_false hlt, decide_eq_false hcl, Bool.or_false, Bool.false_eq_true, if_false, run_askRoom, Result.andThen_ok, Sem.run_bind, run_typeInfo (P := P) w hi, Sem.run_pure]
          by_cases hn : c.toNat * i.size = 0
          · have e0 : Array.range 0 = #[] := rfl
            simp [hn, newRow, e0]
          · rw [if_neg hn]
            simp [hi, hz, newRow, typeInfo]
        · exact h.elim
      · exact h.elim
    · exact h.elim
  · exact h.elim
theorem cpyW_sound {t tx ty : TypeId} {d x : Value} {w : World} {K : Value → World → Prop} (h : cpyW P t d x w K) :
    ∃ v w', (Builtin.copy_ #[t, tx] ty #[d, x]).run P w = .ok v w' ∧ K v w' := by
  unfold cpyW at h
  split at h
  · rename_i e hu
    split at h
    · rename_i i hi
      split at h
      · rename_i b l _
        obtain ⟨n, news, hn, hf, ho, h⟩ := h
        rcases h with ⟨rfl, h⟩ | ⟨a, rfl, hr, h⟩
        · exact ⟨_, _, by simp [Builtin.copy_, run_underlying hu, hn, sizeOf, run_typeInfo (P := P) w hi, hf, goInt], h⟩
        · have hst := run_storeCells_stoL (P := P) (n := news.length) news 0 w (by simp) ho hr
          exact ⟨_, _, by simp [Builtin.copy_, run_underlying hu, hn, sizeOf, run_typeInfo (P := P) w hi, hf, goInt, hst], h⟩
      · exact h.elim
    · exact h.elim
  · exact h.elim
theorem clrW_sound {t ty : TypeId} {x : Value} {w : World} {K : Value → World → Prop} (h : clrW P t x w K) :
    ∃ v w', (Builtin.clear_ #[t] ty #[x]).run P w = .ok v w' ∧ K v w' := by
  unfold clrW at h
  split at h
  · rename_i e hu
    split at h
    · rename_i i hi
      split at h
      · rename_i z hz
        split at h
        · rename_i b n _
          rcases h with ⟨rfl, h⟩ | ⟨rfl, h⟩ | ⟨a, rfl, h0, ho, hr, h⟩
          · exact ⟨_, _, by cases b <;> simp [Builtin.clear_, run_underlying hu], h⟩
          · exact ⟨_, _, by simp [Builtin.clear_, run_underlying hu], h⟩
          · have hone : ∀ u ∈ (Builtin.zeroCells z.cells n).toList, one u = true := fun u hu => by
              simp only [Builtin.zeroCells, Array.toList_map, List.mem_map] at hu
              obtain ⟨j, hj, rfl⟩ := hu
              have hp : 0 < z.cells.size := by
                rcases Nat.eq_zero_or_pos z.cells.size with e | e
                · rw [e] at hj; simp at hj
                · exact e
              rw [getElem!_pos z.cells (j % z.cells.size) (Nat.mod_lt _ hp)]
              exact ho _ (Array.getElem_mem _)
            have hst := run_storeCells_stoL (P := P) (n := n * z.cells.size) (Builtin.zeroCells z.cells n).toList 0 w (by simp [Builtin.zeroCells]) hone hr
            obtain ⟨m, rfl⟩ : ∃ m, n = m + 1 := ⟨n - 1, by omega⟩
            exact ⟨_, _, by simp [Builtin.clear_, run_underlying hu, zeroValue, run_typeInfo (P := P) w hi, hz, hst], h⟩
        · exact h.elim
      · exact h.elim
    · exact h.elim
  · exact h.elim
theorem mksW_mono {t : TypeId} {l c : Value} {w : World} {K K' : Option Addr → Nat → Nat → World → Prop} (hK : ∀ b l c w, K b l c w → K' b l c w) (h : mksW P t l c w K) : mksW P t l c w K' := by
  unfold mksW at *
  split at h
  · split at h
    · split at h
      · split at h
        · exact ⟨h.1, hK _ _ _ _ h.2⟩
        · exact h
      · exact h
    · exact h
  · exact h
theorem cpyW_mono {t : TypeId} {d x : Value} {w : World} {K K' : Value → World → Prop} (hK : ∀ v w, K v w → K' v w) (h : cpyW P t d x w K) : cpyW P t d x w K' := by
  unfold cpyW at *
  split at h
  · split at h
    · split at h
      · obtain ⟨n, news, h1, h2, h3, h⟩ := h
        refine ⟨n, news, h1, h2, h3, ?_⟩
        rcases h with ⟨h4, h⟩ | ⟨a, h4, h5, h⟩
        · exact Or.inl ⟨h4, hK _ _ h⟩
        · exact Or.inr ⟨a, h4, h5, hK _ _ h⟩
      · exact h
    · exact h
  · exact h
theorem clrW_mono {t : TypeId} {x : Value} {w : World} {K K' : Value → World → Prop} (hK : ∀ v w, K v w → K' v w) (h : clrW P t x w K) : clrW P t x w K' := by
  unfold clrW at *
  split at h
  · split at h
    · split at h
      · split at h
        · rcases h with ⟨h1, h⟩ | ⟨h1, h⟩ | ⟨a, h1, h2, h3, h4, h⟩
          · exact Or.inl ⟨h1, hK _ _ h⟩
          · exact Or.inr (Or.inl ⟨h1, hK _ _ h⟩)
          · exact Or.inr (Or.inr ⟨a, h1, h2, h3, h4, hK _ _ h⟩)
        · exact h
      · exact h
    · exact h
  · exact h
theorem wOp_sound {n : Nat} {a : Act} {ρ : Env} (hr : Rep n a ρ) {o : Oper} {w : World} {K : Value → World → Prop} {K' : Act → World → Prop} {Q : Exit → Act → World → Prop}
    (r : Option Nat) (h : wOp P ρ o.op o.type w K) (hk : ∀ v w', K v w' → K' (a.put o.dst v) w') : o.wpIn (Fr r) 0 P a w K' Q := by
  have st : ∀ v w', (∀ c, o.op ≠ .defer c) → (execOp (opd ρ) o).run P w = .ok (.value v) w' → K v w' → o.wpIn (Fr r) 0 P a w K' Q := fun v w' hd he hK => by
    refine ⟨fun _ _ => trivial, ?_⟩
    rw [Oper.semAt_eq _ _ _ hd, hr.eval, he]
    exact hk _ _ hK
  have sk : ∀ w', (∀ c, o.op ≠ .defer c) → (execOp (opd ρ) o).run P w = .ok .skip w' → K undef w' → o.wpIn (Fr r) 0 P a w K' Q := fun w' hd he hK => by
    refine ⟨fun _ _ => trivial, ?_⟩
    rw [Oper.semAt_eq _ _ _ hd, hr.eval, he]
    exact hk _ _ hK
  have rd : rOp P (fun p => p w) ρ o.op o.type (fun v => K v w) → o.wpIn (Fr r) 0 P a w K' Q := fun h => by
    obtain ⟨v, hv, hK⟩ := rOp_sound (P := P) (S := fun w' => w' = w) (fun p hp w' e => by subst e; exact hp) h
    refine st v w (fun c e => ?_) (hv w rfl) hK
    rw [e] at h
    exact h
  obtain ⟨dst, op, type, pos, after, guard⟩ := o
  have nd : ∀ op', (∀ c, op' ≠ .defer c) → ∀ c, (⟨dst, op', type, pos, after, guard⟩ : Oper).op ≠ .defer c := fun _ h => h
  cases op
  case alloc t =>
    simp only [wOp] at h
    cases hz : hasZ P t with
    | false => rw [hz] at h; exact h.elim
    | true =>
      rw [hz] at h
      unfold hasZ at hz
      split at hz
      · rename_i i hi
        cases hzz : i.zero with
        | none => rw [hzz] at hz; cases hz
        | some z =>
          have hzc : zc P t = z.cells := by unfold zc; rw [hi]; simp only [hzz]
          exact st _ _ (fun c e => by cases e) (show _ = Result.ok (Next.value (.pointer (some ⟨w.heap.size, 0, none⟩))) (w.alloc (.cells (zc P t) t)) by
            simp [execOp, Instr.alloc, zeroValue, run_typeInfo (P := P) w hi, hzz, newVar, newRow, hzc]) h
      · cases hz
  case box t x =>
    exact st _ _ (fun c e => by cases e) (show _ = Result.ok (Next.value (.pointer (some ⟨w.heap.size, 0, none⟩))) (w.alloc (.cells (opd ρ x).cells t)) by
      simp [execOp, Instr.box, newVar, newRow]) h
  case store t x v =>
    simp only [wOp, stoW, stA, stC] at h
    split at h
    · rename_i p hb
      obtain ⟨b, rfl, h⟩ := nlW_some h
      split at h
      · rename_i cs hcs
        cases hi : (P.info? t).isSome with
        | false => rw [hi] at h; exact h.elim
        | true =>
        rw [hi] at h
        obtain ⟨hs, ho, hroom, hK⟩ := h
        refine sk (stoL b cs.toList 0 w) (fun c e => by cases e) ?_ hK
        simp only [execOp, Instr.storeAt, Instr.sureAddr, hb, hcs, storeVar, Value.cells, Sem.run_bind, Sem.run_pure, Result.andThen_ok, elem_info w hi]
        rw [if_neg (by simp [hs])]
        rw [run_storeCells_stoL (n := cs.size) cs.toList 0 w (by simp) ho hroom]
        rfl
      · rename_i hna
        cases hc : Nat.beq (P.cellsOf t) 1 && one (opd ρ v) with
        | false => rw [hc] at h; exact h.elim
        | true =>
          rw [hc] at h
          simp only [Bool.and_eq_true] at hc
          obtain ⟨⟨u, hu⟩, hf, hK⟩ := h
          refine sk (w.setCell b (opd ρ v)) (fun c e => by cases e) ?_ hK
          simp only [execOp, Instr.storeAt, Instr.sureAddr, hb, Sem.run_bind, Sem.run_pure, Result.andThen_ok, run_storeVar_one (Nat.eq_of_beq_eq_true hc.1) hc.2 hu hf]
    · exact h.elim
  case buildSlice t len parts =>
    obtain ⟨cs, hb, h⟩ := h
    refine st (.slice (some ⟨w.heap.size, 0, none⟩) len len) (w.alloc (.cells cs (P.elem t))) (fun c e => by cases e) ?_ h
    have e : (parts.map fun (i, x) => (i, opd ρ x)) = (parts.toList.map fun p => (p.1, opd ρ p.2)).toArray := by apply Array.ext'; simp
    simp only [execOp, e, Sem.run_bind, hb w, Result.andThen_ok, Sem.run_pure]
  case makeSlice t l c =>
    simp only [wOp] at h
    obtain ⟨b, n, m, w', he, hK⟩ := mksW_sound h
    exact st _ w' (fun c e => by cases e) (by simp only [execOp, Sem.run_bind, he, Result.andThen_ok, Sem.run_pure]) hK
  case makeMap t r =>
    cases r with
    | none =>
      obtain ⟨v, w', he, hK⟩ := h
      exact st v w' (fun c e => by cases e) (by simp only [execOp, Option.map_none, Sem.run_bind, show (Instr.makeMap t none).run P w = .ok v w' from he, Result.andThen_ok, Sem.run_pure]) hK
    | some r =>
      obtain ⟨v, w', he, hK⟩ := h
      exact st v w' (fun c e => by cases e) (by simp only [execOp, Option.map_some, Sem.run_bind, show (Instr.makeMap t (some (opd ρ r))).run P w = .ok v w' from he, Result.andThen_ok, Sem.run_pure]) hK
  case mapUpdate t m k v =>
    obtain ⟨w', he, hK⟩ := h
    exact sk w' (fun c e => by cases e) (by simp only [execOp, Sem.run_bind, show (Instr.mapUpdate t (opd ρ m) (opd ρ k) (opd ρ v)).run P w = .ok () w' from he, Result.andThen_ok, Sem.run_pure]) hK
  case insert t m k v =>
    obtain ⟨w', he, hK⟩ := h
    exact sk w' (fun c e => by cases e) (by simp only [execOp, Sem.run_bind, show (Instr.mapUpdate t (opd ρ m) (opd ρ k) (opd ρ v)).run P w = .ok () w' from he, Result.andThen_ok, Sem.run_pure]) hK
  case mapEntry t m k =>
    simp only [wOp] at h
    obtain ⟨v, w', he, hK⟩ := exR_ex h
    exact st v w' (fun c e => by cases e) (by simp only [execOp, Sem.run_bind, show (Instr.mapEntry t (opd ρ m) (opd ρ k)).run P w = .ok v w' from he, Result.andThen_ok, Sem.run_pure]) hK
  case entryStore t m s v =>
    obtain ⟨w', he, hK⟩ := h
    exact sk w' (fun c e => by cases e) (by simp only [execOp, Sem.run_bind, show (Instr.entryStore t (opd ρ m) (opd ρ s) (opd ρ v)).run P w = .ok () w' from he, Result.andThen_ok, Sem.run_pure]) hK
  case range t x =>
    obtain ⟨v, w', he, hK⟩ := h
    exact st v w' (fun c e => by cases e) (by simp only [execOp, Sem.run_bind, show (Instr.range t (opd ρ x)).run P w = .ok v w' from he, Result.andThen_ok, Sem.run_pure]) hK
  case next it s =>
    simp only [wOp] at h
    obtain ⟨v, w', he, hK⟩ := exR_ex h
    exact st v w' (fun c e => by cases e) (by simp only [execOp, Sem.run_bind, show (Instr.next (opd ρ it) s type).run P w = .ok v w' from he, Result.andThen_ok, Sem.run_pure]) hK
  case entry it =>
    simp only [wOp] at h
    obtain ⟨v, w', he, hK⟩ := exR_ex h
    exact st v w' (fun c e => by cases e) (by simp only [execOp, Sem.run_bind, show (Instr.entry (opd ρ it)).run P w = .ok v w' from he, Result.andThen_ok, Sem.run_pure]) hK
  case convert s d x =>
    simp only [wOp] at h
    cases hs : isSpreadB P s d with
    | true =>
      rw [hs] at h
      simp only [cond_true] at h
      obtain ⟨v, w', he, hK⟩ := exT_ex h
      exact st v w' (fun c e => by cases e) (by simp only [execOp, Sem.run_bind, show (convert s d (opd ρ x)).run P w = .ok v w' from he, Result.andThen_ok, Sem.run_pure]) hK
    | false =>
      rw [hs] at h
      exact rd h
  case call c =>
    obtain ⟨callee, args, argTypes⟩ := c
    cases callee with
    | builtin b =>
      cases b <;> simp only [wOp] at h <;> (try exact h.elim) <;> (try exact rd h)
      case append =>
        split at h
        · rename_i s x t tx hs ht
          have ea : args = #[s, x] := by apply Array.ext'; exact hs
          have et : argTypes = #[t, tx] := by apply Array.ext'; exact ht
          subst ea et
          obtain ⟨b, l, c, w', hv, hK⟩ := apnW_sound (ty := type) h
          exact st _ w' (fun c e => by cases e) (by simp only [execOp, resolve, pure_bind, invoke, builtin, List.map_toArray, List.map_cons, List.map_nil, Sem.run_bind, hv, Result.andThen_ok, Sem.run_pure]) hK
        · exact h.elim
      case copy =>
        split at h
        · rename_i d x t tx hs ht
          have ea : args = #[d, x] := by apply Array.ext'; exact hs
          have et : argTypes = #[t, tx] := by apply Array.ext'; exact ht
          subst ea et
          obtain ⟨v, w', hv, hK⟩ := cpyW_sound (tx := tx) (ty := type) h
          exact st _ w' (fun c e => by cases e) (by simp only [execOp, resolve, pure_bind, invoke, builtin, List.map_toArray, List.map_cons, List.map_nil, Sem.run_bind, hv, Result.andThen_ok, Sem.run_pure]) hK
        · exact h.elim
      case clear =>
        split at h
        · rename_i x t hs ht
          have ea : args = #[x] := by apply Array.ext'; exact hs
          have et : argTypes = #[t] := by apply Array.ext'; exact ht
          subst ea et
          obtain ⟨v, w', hv, hK⟩ := clrW_sound (ty := type) h
          exact st _ w' (fun c e => by cases e) (by simp only [execOp, resolve, pure_bind, invoke, builtin, List.map_toArray, List.map_cons, List.map_nil, Sem.run_bind, hv, Result.andThen_ok, Sem.run_pure]) hK
        · exact h.elim
      case delete =>
        split at h
        · rename_i m k hs
          have ea : args = #[m, k] := by apply Array.ext'; exact hs
          subst ea
          obtain ⟨v, w', hv, hK⟩ := h
          exact st v w' (fun c e => by cases e) (by simp only [execOp, resolve, pure_bind, invoke, builtin, List.map_toArray, List.map_cons, List.map_nil, Sem.run_bind, show (Builtin.delete_ argTypes type #[opd ρ m, opd ρ k]).run P w = .ok v w' from hv, Result.andThen_ok, Sem.run_pure]) hK
        · exact h.elim
    | invoke r m => simp only [wOp] at h; exact rd h
    | value f =>
      have nd : ∀ c, (⟨dst, .call ⟨.value f, args, argTypes⟩, type, pos, after, guard⟩ : Oper).op ≠ .defer c := fun c e => by cases e
      have key : calV P (opd ρ f) (args.toList.map (opd ρ)) w (fun e w' => exR P type (fun v => e = .returned v ∧ K v w')) → (⟨dst, .call ⟨.value f, args, argTypes⟩, type, pos, after, guard⟩ : Oper).wpIn (Fr r) 0 P a w K' Q := fun h => by
        unfold calV at h
        split at h
        · rename_i g first captured hf
          cases hp : plainFn P g with
          | false =>
            rw [hp] at h
            simp only [cond_false] at h
            cases hb : bareFn P g with
            | false => rw [hb] at h; exact h.elim
            | true =>
              rw [hb] at h
              obtain ⟨v, w', he, hK⟩ := h
              obtain ⟨v', e', hK⟩ := exR_ex hK
              have e' : v = v' := by cases e'; rfl
              subst e'
              refine st v w' nd ?_ hK
              have e1 : first ++ args.map (opd ρ) ++ captured = (first.toList ++ args.toList.map (opd ρ) ++ captured.toList).toArray := by apply Array.ext'; simp
              simp only [execOp, resolve, hf, Deferred.ofValue, pure_bind, invoke, e1]
              exact he
          | true =>
            rw [hp] at h
            unfold plainFn at hp
            split at hp
            · rename_i fn hfn
              simp only [Bool.and_eq_true, Bool.not_eq_true'] at hp
              have hfn' : P.funcs[g]? = some fn := by simpa using hfn
              have e : (execOp (opd ρ) ⟨dst, .call ⟨.value f, args, argTypes⟩, type, pos, after, guard⟩).run P w = .ok (.enter g (first.toList ++ args.toList.map (opd ρ) ++ captured.toList).toArray) w := by
                have e1 : first ++ args.map (opd ρ) ++ captured = (first.toList ++ args.toList.map (opd ρ) ++ captured.toList).toArray := by apply Array.ext'; simp
                have hb : fn.body.isNone = false := by cases hbb : fn.body with | none => rw [hbb] at hp; cases hp.1 | some _ => rfl
                simp only [execOp, resolve, hf, Deferred.ofValue, pure_bind, invoke, callFunc, Sem.run_bind, run_program, Result.andThen_ok, hfn', hp.2, Bool.false_eq_true, if_false, hb, Sem.run_pure, e1]
              refine ⟨fun _ _ => trivial, ?_⟩
              rw [Oper.semAt_eq _ _ _ nd, hr.eval, e]
              refine ⟨fun hh => (by cases hh), CallsIn.mono (fr_calls h) ?_⟩
              intro e w' he
              obtain ⟨v, rfl, hK⟩ := exR_ex he
              exact hk _ _ hK
            · cases hp
        · rename_i l first captured hf
          cases hp : first.isEmpty with
          | false => rw [hp] at h; exact h.elim
          | true =>
            rw [hp] at h
            simp only [cond_true] at h
            have h0 : first = #[] := by simpa using hp
            subst h0
            obtain ⟨g, tmps, assign, body, hy, hR⟩ := h
            have e : (execOp (opd ρ) ⟨dst, .call ⟨.value f, args, argTypes⟩, type, pos, after, guard⟩).run P w = .ok (.round l g tmps assign body) w := by
              have e1 : #[] ++ args.map (opd ρ) = (args.toList.map (opd ρ)).toArray := by apply Array.ext'; simp
              simp only [execOp, resolve, hf, Deferred.ofValue, pure_bind, invoke, e1, hy]
            refine ⟨fun _ _ => trivial, ?_⟩
            rw [Oper.semAt_eq _ _ _ nd, hr.eval, e]
            refine ⟨fun hh => (by cases hh), RoundIn.mono (F := Fr r) hR ?_⟩
            intro e w' he
            obtain ⟨v, rfl, hK⟩ := exR_ex he
            exact hk _ _ hK
        · exact h.elim
      exact key h
  all_goals exact rd h

theorem fitsOps_mem {n : Nat} : ∀ {l : List Oper}, fitsOps n l = true → ∀ o ∈ l, ∀ d, o.dst = some d → d < n
  | [], _, o, ho => by cases ho
  | x :: r, h, o, ho => by
    simp only [fitsOps, Bool.and_eq_true] at h
    intro d hd
    rcases List.mem_cons.1 ho with rfl | ho
    · have := h.1
      rw [hd] at this
      exact Nat.blt_eq.mp this
    · exact fitsOps_mem h.2 o ho d hd

/-- What a post over slots says of a frame. -/
def lift (n : Nat) (Q : Post) : Exit → Act → World → Prop := fun e a w => ∃ ρ, Rep n a ρ ∧ Q e ρ w

theorem upd_same {ρ : Env} {t : Nat} {v : Value} (h : ρ t = v) : upd ρ (some t) v = ρ := by
  obtain ⟨f, d⟩ := ρ
  simp only [upd]
  congr 1
  funext i
  cases hb : Nat.beq i t with
  | true => rw [Nat.eq_of_beq_eq_true hb]; exact h.symm
  | false => rfl
/-- What a guarded operation comes to. -/
theorem grd_sound {n : Nat} {a : Act} {ρ : Env} (hr : Rep n a ρ) {ops : List Oper} {o : Oper} {j : Nat} {want : Bool} (hg : o.guard = some (j, want)) {yes no : Env → Prop} (h : grd ops j want ρ yes no) :
    (Region.wanted o (yielded ops.toArray a.tmps) = true ∧ yes ρ) ∨ (Region.wanted o (yielded ops.toArray a.tmps) = false ∧ no ρ) := by
  rw [sel_wanted hr ops o j want hg]
  unfold grd at h
  unfold slotOf
  split at h
  · split at h
    · rename_i t ht
      split at h
      · rename_i b hb
        rw [hb]
        cases b <;> cases want <;> simp only [cond_true, cond_false, upd_same hb] at h
        · exact .inl ⟨rfl, h⟩
        · exact .inr ⟨rfl, h⟩
        · exact .inr ⟨rfl, h⟩
        · exact .inl ⟨rfl, h⟩
      · rename_i hn
        refine .inr ⟨?_, h⟩
        unfold sel
        split
        · rename_i b hb; exact absurd hb (hn b)
        · rfl
    · exact .inr ⟨rfl, h⟩
  · exact .inr ⟨rfl, h⟩
theorem grd_mono {ops : List Oper} {j : Nat} {want : Bool} {ρ : Env} {yes no yes' no' : Env → Prop} (hy : ∀ b t, yes (upd ρ (some t) (.bool b)) → yes' (upd ρ (some t) (.bool b))) (hn : ∀ b t, no (upd ρ (some t) (.bool b)) → no' (upd ρ (some t) (.bool b)))
    (h0 : no ρ → no' ρ) (h : grd ops j want ρ yes no) : grd ops j want ρ yes' no' := by
  unfold grd at *
  split at h
  · split at h
    · split at h
      · exact cond_mono (cond_mono (hy _ _) (hn _ _)) (cond_mono (hn _ _) (hy _ _)) h
      · exact h0 h
    · exact h0 h
  · exact h0 h

theorem wOpD_sound {n : Nat} {a : Act} {ρ : Env} (hr : Rep n a ρ) {o : Oper} {w : World} {K : Env → World → Prop} {K' : Act → World → Prop} {Q : Exit → Act → World → Prop} {r : Option Nat} {rd : Bool} (hrd : rd = false → r = none)
    (hd : ∀ t, o.dst = some t → t < n) (h : wOpD P rd ρ o w K) (hk : ∀ a ρ w, Rep n a ρ → K ρ w → K' a w) : o.wpIn (Fr r) 0 P a w K' Q := by
  obtain ⟨dst, op, type, pos, after, guard⟩ := o
  by_cases hdf : ∃ c, op = .defer c
  · obtain ⟨⟨callee, args, argTypes⟩, rfl⟩ := hdf
    cases callee with
    | builtin b => exact h.elim
    | invoke x m => exact h.elim
    | value f =>
      simp only [wOpD] at h
      cases rd with
      | true => exact h.elim
      | false =>
        have hn := hrd rfl
        subst hn
        simp only [cond_false, defW] at h
        split at h
        · rename_i g first captured hf
          cases hp : plainFn P g with
          | false => rw [hp] at h; exact h.elim
          | true =>
            rw [hp] at h
            refine ⟨fun _ _ => trivial, ?_⟩
            have e : (execOp a.eval ⟨dst, .defer ⟨.value f, args, argTypes⟩, type, pos, after, guard⟩).run P w = .ok (.defer { target := .fn (.func g) captured, args := (first.toList ++ args.toList.map (opd ρ)).toArray }) w := by
              have e1 : first ++ args.map (opd ρ) = (first.toList ++ args.toList.map (opd ρ)).toArray := by apply Array.ext'; simp
              rw [hr.eval]
              simp only [execOp, resolve, hf, Deferred.ofValue, pure_bind, Sem.run_pure, e1]
            have e2 : (Oper.semAt none a.eval ⟨dst, .defer ⟨.value f, args, argTypes⟩, type, pos, after, guard⟩) = execOp a.eval ⟨dst, .defer ⟨.value f, args, argTypes⟩, type, pos, after, guard⟩ := rfl
            rw [e2, e]
            have hr' : Rep n { a with defers := { target := .fn (.func g) captured, args := (first.toList ++ args.toList.map (opd ρ)).toArray } :: a.defers } ⟨ρ.v, { target := .fn (.func g) captured, args := (first.toList ++ args.toList.map (opd ρ)).toArray } :: ρ.d⟩ := ⟨hr.size, by simp only [hr.defers], hr.get⟩
            exact hk _ _ _ (hr'.put dst undef hd) h
        · exact h.elim
  · have hn : ∀ c, op ≠ .defer c := fun c e => hdf ⟨c, e⟩
    have h' : wOp P ρ op type w (fun v w' => K (upd ρ dst v) w') := by
      cases op <;> first | exact h | exact absurd rfl (hn _)
    exact wOp_sound hr r h' fun v w' hK => hk _ _ _ (hr.put _ _ hd) hK
theorem wOps_sound {n : Nat} {ops : List Oper} {Q : Exit → Act → World → Prop} {K : Env → World → Prop} {r : Option Nat} {rd : Bool} (hrd : rd = false → r = none) (hQ : ∀ a ρ w, Rep n a ρ → K ρ w → Q .normal a w) :
    ∀ (l : List Oper) (k : Nat) (a : Act) (ρ : Env) (w : World), (∀ j, l[j]? = ops[k + j]?) → fitsOps n l = true → Rep n a ρ → wOps P rd ops K l ρ w → wpOpsIn (Fr r) 0 P ops.toArray Q (List.range' k l.length) a w
  | [], k, a, ρ, w, _, _, hr, h => hQ a ρ w hr h
  | o :: rest, k, a, ρ, w, hl, hf, hr, h => by
    have hd := fitsOps_mem hf o (by simp)
    have hf' : fitsOps n rest = true := by simp only [fitsOps, Bool.and_eq_true] at hf; exact hf.2
    have ho : ops.toArray[k]? = some o := by simpa using (hl 0).symm
    have hl' : ∀ j, rest[j]? = ops[k + 1 + j]? := fun j => by have := hl (j + 1); simpa [Nat.add_assoc, Nat.add_comm 1 j] using this
    rw [List.length_cons, List.range'_succ, wpOpsIn_cons]
    unfold wpOpIn
    simp only [ho]
    simp only [wOps] at h
    have go : ∀ ρ, Rep n a ρ → Region.wanted o (yielded ops.toArray a.tmps) = true → wOpD P rd ρ o w (fun ρ' w' => wOps P rd ops K rest ρ' w') → o.wpIn (Fr r) 0 P a w (wpOpsIn (Fr r) 0 P ops.toArray Q (List.range' (k + 1) rest.length)) Q := fun ρ hr _ h =>
      wOpD_sound hr hrd hd h fun a ρ w hr hK => wOps_sound hrd hQ rest (k + 1) a ρ w hl' hf' hr hK
    split at h
    · rename_i hg
      have hw : Region.wanted o (yielded ops.toArray a.tmps) = true := by simp [Region.wanted, hg]
      rw [if_pos hw]
      exact go ρ hr hw h
    · rename_i j want hg
      rcases grd_sound hr hg h with ⟨hw, h⟩ | ⟨hw, h⟩
      · rw [if_pos hw]
        exact go ρ hr hw h
      · rw [if_neg (by rw [hw]; simp)]
        exact ⟨fun _ _ => trivial, wOps_sound hrd hQ rest (k + 1) _ _ _ hl' hf' (hr.put _ _ hd) h⟩
theorem wOp_read {op : Op} (hi : isRead P op = true) {ρ : Env} {ty : TypeId} {w : World} {K : Value → World → Prop} (h : wOp P ρ op ty w K) : rOp P (fun p => p w) ρ op ty (fun v => K v w) := by
  cases op
  case convert s d x =>
    simp only [wOp] at h
    simp only [isRead, Bool.not_eq_true'] at hi
    rw [hi] at h
    exact h
  case call c =>
    obtain ⟨callee, args, argTypes⟩ := c
    cases callee with
    | builtin b => cases b <;> first | exact h | cases hi
    | value f => cases hi
    | invoke r m => cases hi
  all_goals first | exact h | cases hi
theorem findL_some {f : Nat → Bool} {i : Nat} : ∀ {l : List Nat}, findL f l = some i → i ∈ l ∧ f i = true
  | [], h => by cases h
  | x :: r, h => by
    simp only [findL] at h
    cases hf : f x with
    | true => rw [hf] at h; simp only [cond_true, Option.some.injEq] at h; subst h; exact ⟨by simp, hf⟩
    | false => rw [hf] at h; obtain ⟨h1, h2⟩ := findL_some h; exact ⟨by simp [h1], h2⟩
theorem allL_mem {f : Nat → Prop} : ∀ {l : List Nat}, allL f l → ∀ i ∈ l, f i
  | [], _, i, hi => by cases hi
  | [x], h, i, hi => by
    have : i = x := by simpa using hi
    subst this; exact h
  | x :: y :: r, h, i, hi => by
    rcases List.mem_cons.1 hi with rfl | hi
    · exact h.1
    · exact allL_mem (l := y :: r) h.2 i hi

/-- Lists that hold, with each operation, what must come up ahead of it. -/
structure ClosedL (ops : List Oper) (listed : Array Bool) : Prop where
  size : listed.size = ops.length
  deps : ∀ (j : Nat) (o : Oper), ops[j]? = some o → listed.getD j false = true → ∀ e ∈ o.after, Region.binds .any e = true → listed.getD e.on false = true
theorem ClosedL.op {ops : List Oper} {listed : Array Bool} (h : ClosedL ops listed) {j : Nat} (hj : listed.getD j false = true) : ∃ o, ops[j]? = some o := by
  have hlt : j < listed.size := by
    apply Classical.byContradiction
    intro hh
    rw [Array.getD_eq_getD_getElem?, Array.getElem?_eq_none (by omega)] at hj
    cases hj
  exact ⟨ops[j]'(by rw [← h.size]; exact hlt), List.getElem?_eq_getElem _⟩
theorem ClosedL.start (ops : List Oper) : ClosedL ops (Array.replicate ops.length false) :=
  ⟨by simp, fun j o _ hj => by
    exfalso
    rw [Array.getD_eq_getD_getElem?, Array.getElem?_replicate] at hj
    split at hj <;> cases hj⟩
theorem ClosedL.step {ops : List Oper} {listed : Array Bool} (h : ClosedL ops listed) {i : Nat} (hi : i ∈ Region.ready .any ops.toArray listed) : ClosedL ops (listed.setIfInBounds i true) :=
  ⟨by simp [h.size], fun j o ho hj e he hb => by
    obtain ⟨_, oi, hoi, hall⟩ := mem_ready.1 hi
    by_cases hij : i = j
    · subst hij
      have : o = oi := by
        rw [List.getElem?_toArray, ho] at hoi
        exact Option.some.inj hoi
      subst this
      exact getD_set_true (hall e he hb)
    · rw [getD_set_ne false hij] at hj
      exact getD_set_true (h.deps j o ho hj e he hb)⟩
theorem hasN_mem {i : Nat} : ∀ {l : List Nat}, hasN i l = true ↔ i ∈ l
  | [] => by simp [hasN]
  | j :: r => by
    rw [hasN, List.mem_cons]
    cases hb : Nat.beq i j with
    | true => simp [Nat.eq_of_beq_eq_true hb]
    | false =>
      have : i ≠ j := fun e => by rw [e] at hb; simp at hb
      simp [this, hasN_mem]
theorem insN_mem {i j : Nat} {l : List Nat} (h : i ∈ insN j l) : i = j ∨ i ∈ l := by
  unfold insN at h
  cases hb : hasN j l <;> rw [hb] at h
  · exact List.mem_cons.1 h
  · exact Or.inr h
theorem uniN_mem {i : Nat} : ∀ {k l : List Nat}, i ∈ uniN k l → i ∈ k ∨ i ∈ l
  | [], _, h => Or.inr h
  | x :: r, l, h => by
    rcases uniN_mem (k := r) h with h | h
    · exact Or.inl (List.mem_cons_of_mem _ h)
    · rcases insN_mem h with h | h
      · exact Or.inl (h ▸ List.mem_cons_self ..)
      · exact Or.inr h
theorem dropN_mem {A : List Nat} {i : Nat} : ∀ {l : List Nat}, i ∈ l → i ∉ A → i ∈ dropN A l
  | x :: r, h, hn => by
    rw [dropN]
    rcases List.mem_cons.1 h with rfl | h
    · have : hasN i A = false := by
        cases hb : hasN i A
        · rfl
        · exact absurd (hasN_mem.1 hb) hn
      rw [this]; exact List.mem_cons_self ..
    · cases hasN x A
      · exact List.mem_cons_of_mem _ (dropN_mem h hn)
      · exact dropN_mem h hn
theorem getN_get : ∀ (T : List (List Nat)) (j : Nat), getN T j = T.getD j []
  | [], j => by simp [getN]
  | _ :: _, 0 => rfl
  | _ :: r, n + 1 => by rw [getN, getN_get r n]; simp
/-- What the table of ancestors says. -/
def GoodT (ops : List Oper) (T : List (List Nat)) : Prop :=
  ∀ (j : Nat) (o : Oper), ops[j]? = some o → ∀ i ∈ getN T j, ∀ listed : Array Bool, ClosedL ops listed → (∀ e ∈ o.after, Region.binds .any e = true → listed.getD e.on false = true) → listed.getD i false = true
theorem ancE_good {ops : List Oper} {T : List (List Nat)} (hT : GoodT ops T) {listed : Array Bool} (hc : ClosedL ops listed) :
    ∀ (es : List Edge), (∀ e ∈ es, Region.binds .any e = true → listed.getD e.on false = true) → ∀ i ∈ ancE T es, listed.getD i false = true
  | [], _, i, hi => by cases hi
  | e :: r, hd, i, hi => by
    rw [ancE] at hi
    cases hb : Region.binds .any e with
    | false => rw [hb] at hi; exact ancE_good hT hc r (fun e' he' => hd e' (List.mem_cons_of_mem _ he')) i hi
    | true =>
      rw [hb] at hi
      have he := hd e (List.mem_cons_self ..) hb
      rcases insN_mem hi with rfl | hi
      · exact he
      · rcases uniN_mem hi with hi | hi
        · obtain ⟨o, ho⟩ := hc.op he
          exact hT e.on o ho i hi listed hc (hc.deps e.on o ho he)
        · exact ancE_good hT hc r (fun e' he' => hd e' (List.mem_cons_of_mem _ he')) i hi
theorem getN_app {x : List Nat} : ∀ (T : List (List Nat)) (j : Nat), getN (T ++ [x]) j = if j < T.length then getN T j else if j = T.length then x else []
  | [], 0 => by simp [getN]
  | [], n + 1 => by simp [getN]
  | y :: r, 0 => by simp [getN]
  | y :: r, n + 1 => by
    rw [List.cons_append, getN, getN_app r n, getN]
    simp
theorem ancT_good {ops : List Oper} : ∀ (r done : List Oper) (T : List (List Nat)), ops = done ++ r → T.length = done.length → GoodT ops T → GoodT ops (ancT r T)
  | [], _, _, _, _, h => h
  | o :: r, done, T, hd, hl, h => by
    rw [ancT]
    refine ancT_good r (done ++ [o]) _ (by rw [hd]; simp) (by simp [hl]) ?_
    intro j oj hj i hi listed hc hall
    rw [getN_app] at hi
    split at hi
    · exact h j oj hj i hi listed hc hall
    · split at hi
      · rename_i e
        have : oj = o := by
          rw [hd, e, hl, List.getElem?_append_right (Nat.le_refl _)] at hj
          simpa using hj.symm
        subst this
        exact ancE_good h hc oj.after.toList (fun e he hb => hall e (by simpa using he) hb) i hi
      · cases hi
theorem ancT_ok (ops : List Oper) : GoodT ops (ancT ops []) :=
  ancT_good ops [] [] rfl rfl fun j o _ i hi => by rw [getN] at hi; cases hi

/-! ### Taking an operation first, in a fence -/
theorem semAt_put (ro : Option Nat) (o : Oper) (ho : ∀ cs b, o.op ≠ .select cs b) (ops : Array Oper) (a : Act) (dst : Option Tmp) (v : Value) (h : ∀ d, dst = some d → d ∉ o.looksAt ops) :
    o.semAt ro (a.put dst v).eval = o.semAt ro a.eval := by
  by_cases hd : ∃ c, o.op = .defer c
  · obtain ⟨c, hc⟩ := hd
    cases ro with
    | none => exact execOp_put o ho a dst v h
    | some l =>
      have e : resolve (a.put dst v).eval c o.type = resolve a.eval c o.type := resolve_congr c o.type fun x hx => Act.eval_put fun d hd hxd => h d hd (by
        subst hxd
        exact List.mem_append_left _ (List.mem_filterMap.2 ⟨.tmp d, by rw [hc]; simpa [Op.operands] using hx, rfl⟩))
      unfold Oper.semAt
      simp only [hc, e]
  · rw [Oper.semAt_eq _ _ _ (fun c e => hd ⟨c, e⟩), Oper.semAt_eq _ _ _ (fun c e => hd ⟨c, e⟩)]
    exact execOp_put o ho a dst v h
section
variable {ops : Array Oper} {Q : Exit → Act → World → Prop} {S : World → Prop} {r : Option Nat}
/-- In this state, in every world that meets S, the operation leaves v in its slot and does nothing else; it is no defer statement. -/
def Yif (P : Program) (ops : Array Oper) (S : World → Prop) (o : Oper) (v : Value) (a : Act) : Prop := YieldsIf P ops S o v a ∧ (Region.wanted o (yielded ops a.tmps) = true → ∀ c, o.op ≠ .defer c)
theorem Yif.wpOp {i : Nat} {o : Oper} {v : Value} {a : Act} (hi : ops[i]? = some o) (hy : Yif P ops S o v a) {K : Act → World → Prop} {w : World} (hS : S w) (h : K (a.put o.dst v) w) : wpOpIn (Fr r) 0 P ops Q i K a w := by
  unfold wpOpIn
  simp only [hi]
  rcases hy.1 with ⟨hw, hv⟩ | ⟨hw, rfl⟩
  · simp only [hw, if_true]
    refine ⟨fun _ _ => trivial, ?_⟩
    rw [Oper.semAt_eq _ _ _ (hy.2 hw), hv w hS]
    exact h
  · simp only [hw, Bool.false_eq_true, if_false]
    exact ⟨fun _ _ => trivial, h⟩
theorem Yif.of_same {o : Oper} {v : Value} {a a' : Act} (hy : Yif P ops S o v a) (he : execOp a'.eval o = execOp a.eval o)
    (hw : Region.wanted o (yielded ops a'.tmps) = Region.wanted o (yielded ops a.tmps)) : Yif P ops S o v a' := ⟨hy.1.of_same he hw, fun h => hy.2 (by rw [← hw]; exact h)⟩
theorem wpOp_putF {j : Nat} {oi oj : Oper} {v : Value} (hj : ops[j]? = some oj) (hap : oi.apart ops oj = true)
    (hsi : ∀ cs b, oi.op ≠ .select cs b) (hsj : ∀ cs b, oj.op ≠ .select cs b)
    (hQ : ∀ c a w, Q (.panic c) (a.put oi.dst v) w → Q (.panic c) a w) {K : Act → World → Prop} {a : Act} {w : World}
    (hy : Yif P ops S oi v a) (h : wpOpIn (Fr r) 0 P ops Q j K (a.put oi.dst v) w) :
    wpOpIn (Fr r) 0 P ops Q j (fun a' w' => Yif P ops S oi v a' ∧ K (a'.put oi.dst v) w') a w := by
  obtain ⟨h1, h2, h3⟩ := Oper.apart_spec hap
  have keep : ∀ (a : Act), Yif P ops S oi v a → ∀ u, Yif P ops S oi v (a.put oj.dst u) := fun a hy u =>
    hy.of_same (execOp_put oi hsi a oj.dst u h3) (wanted_put oi a oj.dst u h3)
  have keepD : ∀ d, Yif P ops S oi v { a with defers := d :: a.defers } := fun d => hy.of_same rfl rfl
  unfold wpOpIn at *
  simp only [hj] at *
  rw [wanted_put oj a oi.dst v h1] at h
  split
  · rename_i hw
    simp only [hw, if_true] at h
    unfold Oper.wpIn at *
    refine ⟨fun _ _ => trivial, ?_⟩
    have h := h.2
    rw [semAt_put _ oj hsj ops a oi.dst v h1] at h
    generalize (oj.semAt (Fr r).round a.eval).run P w = rs at *
    cases rs with
    | ok n w' =>
      cases n <;> simp only [Oper.uponIn] at h ⊢
      case value u => exact ⟨keep a hy u, by rw [← Act.put_comm a v u h2]; exact h⟩
      case skip => exact ⟨keep a hy _, by rw [← Act.put_comm a v undef h2]; exact h⟩
      case defer d =>
        refine ⟨keep _ (keepD d) _, ?_⟩
        rw [← Act.put_comm _ v undef h2, ← Act.put_defers]
        exact h
      case enter f args =>
        refine ⟨h.1, CallsIn.mono h.2 fun e w'' he => ?_⟩
        cases e with
        | returned u => exact ⟨keep a hy u, by rw [← Act.put_comm a v u h2]; exact he⟩
        | panicked c => exact hQ _ _ _ he
        | outgrown => exact he
      case row row args => exact ⟨h.1, RowsIn.mono h.2 fun u w'' he => ⟨keep a hy u, by rw [← Act.put_comm a v u h2]; exact he⟩⟩
      case round l f tmps assign body =>
        refine ⟨h.1, RoundIn.mono h.2 fun e w'' he => ?_⟩
        cases e with
        | returned u => exact ⟨keep a hy u, by rw [← Act.put_comm a v u h2]; exact he⟩
        | panicked c => exact hQ _ _ _ he
        | outgrown => exact he
    | halt x w' =>
      cases x <;> simp only [Oper.uponIn] at h ⊢
      case panic u => exact hQ _ _ _ h
  · rename_i hw
    simp only [hw] at h
    exact ⟨fun _ _ => trivial, keep a hy _, by rw [← Act.put_comm a v undef h2]; exact h.2⟩
end
/-- Whatever order is picked from here on; of the operations Ps that were taken first each has the worlds in which it yields what it was told to: behind every operation that may come up ahead of it such a world is to be shown. -/
def wpG (P : Program) (r : Option Nat) (ops : List Oper) (T : List (List Nat)) (Q : Exit → Act → World → Prop) : Nat → List (Nat × (World → Prop)) → Array Bool → Act → World → Prop
  | 0, _, listed, a, w => Region.ready .any ops.toArray listed = [] ∧ Q .normal a w
  | f + 1, Ps, listed, a, w =>
    (Region.ready .any ops.toArray listed = [] → Q .normal a w) ∧
    ∀ j ∈ Region.ready .any ops.toArray listed, wpOpIn (Fr r) 0 P ops.toArray Q j (fun a' w' => (∀ q ∈ Ps, hasN q.1 (getN T j) = false → q.2 w') ∧ wpG P r ops T Q f (Ps.filter fun q => !hasN q.1 (getN T j)) (listed.setIfInBounds j true) a' w') a w
theorem wpG_any {r : Option Nat} {ops : List Oper} {T : List (List Nat)} {Q : Exit → Act → World → Prop} : ∀ (f : Nat) (Ps : List (Nat × (World → Prop))) (listed : Array Bool) (a : Act) (w : World), wpG P r ops T Q f Ps listed a w → wpAnyIn (Fr r) 0 P .any ops.toArray Q f listed a w
  | 0, _, _, _, _, h => h
  | f + 1, _, _, _, _, h => ⟨h.1, fun i hi => wpOpIn_mono (fun a' w' h' => wpG_any f _ _ a' w' h'.2) (h.2 i hi)⟩
theorem wpG_sub {r : Option Nat} {ops : List Oper} {T : List (List Nat)} {Q : Exit → Act → World → Prop} : ∀ (f : Nat) (Ps Ps' : List (Nat × (World → Prop))) (listed : Array Bool) (a : Act) (w : World), (∀ q ∈ Ps', q ∈ Ps) → wpG P r ops T Q f Ps listed a w → wpG P r ops T Q f Ps' listed a w
  | 0, _, _, _, _, _, _, h => h
  | f + 1, Ps, Ps', _, _, _, hs, h => ⟨h.1, fun j hj => wpOpIn_mono (fun a' w' h' => ⟨fun q hq hn => h'.1 q (hs q hq) hn, wpG_sub f _ _ _ a' w' (fun q hq => by
      rw [List.mem_filter] at hq ⊢
      exact ⟨hs q hq.1, hq.2⟩) h'.2⟩) (h.2 j hj)⟩
theorem wpG_first {r : Option Nat} {ops : List Oper} {T : List (List Nat)} (hT : GoodT ops T) {Q : Exit → Act → World → Prop} {i : Nat} {oi : Oper} {v : Value} {V : World → Prop} (hi : ops.toArray[i]? = some oi)
    (hsel : ∀ (j : Nat) (o : Oper) cs b, ops.toArray[j]? = some o → o.op ≠ .select cs b)
    (hQ : ∀ c a w, Q (.panic c) (a.put oi.dst v) w → Q (.panic c) a w) :
    ∀ (f : Nat) (Ps : List (Nat × (World → Prop))) (listed : Array Bool) (a : Act) (w : World), ClosedL ops listed →
      (∀ j oj, ops.toArray[j]? = some oj → j ≠ i → listed.getD j true = false → (∀ e ∈ oj.after, Region.binds .any e = true → e.on ≠ i) → oi.apart ops.toArray oj = true) →
      i ∈ Region.ready .any ops.toArray listed → Yif P ops.toArray V oi v a → V w → (∀ q ∈ Ps, q.2 w) →
      wpG P r ops T Q f ((i, V) :: Ps) (listed.setIfInBounds i true) (a.put oi.dst v) w → wpG P r ops T Q (f + 1) Ps listed a w := by
  intro f
  induction f with
  | zero =>
    intro Ps listed a w hc _ hr hy hS hP H
    refine ⟨fun h => (by rw [h] at hr; cases hr), fun j hj => ?_⟩
    by_cases hji : j = i
    · subst hji; exact hy.wpOp hi hS ⟨fun q hq _ => hP q hq, H⟩
    · have := ready_mono hj hji
      rw [H.1] at this
      cases this
  | succ f ih =>
    intro Ps listed a w hc hfree hr hy hS hP H
    refine ⟨fun h => (by rw [h] at hr; cases hr), fun j hj => ?_⟩
    by_cases hji : j = i
    · subst hji
      refine hy.wpOp hi hS ⟨fun q hq _ => hP q hq, wpG_sub _ _ _ _ _ _ (fun q hq => List.mem_cons_of_mem _ (List.mem_filter.1 hq).1) H⟩
    · have h1 := H.2 j (ready_mono hj hji)
      obtain ⟨hjun, oj, hoj, hall⟩ := mem_ready.1 hj
      have hiun := (mem_ready.1 hr).1
      have hun : listed.getD i false = false := by
        rw [Array.getD_eq_getD_getElem?] at hiun ⊢
        cases he : listed[i]? with
        | none => rfl
        | some b => rw [he] at hiun; exact hiun
      have hnot : ∀ e ∈ oj.after, Region.binds .any e = true → e.on ≠ i := fun e he hb heq => by
        have h1 := hall e he hb
        rw [heq, hun] at h1; cases h1
      have hanc : hasN i (getN T j) = false := by
        cases hh : hasN i (getN T j)
        · rfl
        · have := hT j oj (by simpa using hoj) i (hasN_mem.1 hh) listed hc hall
          rw [hun] at this; cases this
      have h2 := wpOp_putF hoj (hfree j oj hoj hji hjun hnot) (fun cs b => hsel i oi cs b hi) (fun cs b => hsel j oj cs b hoj) hQ hy h1
      have hfree' : ∀ k ok, ops.toArray[k]? = some ok → k ≠ i → (listed.setIfInBounds j true).getD k true = false →
          (∀ e ∈ ok.after, Region.binds .any e = true → e.on ≠ i) → oi.apart ops.toArray ok = true := fun k ok hk hki hun hno => by
        refine hfree k ok hk hki ?_ hno
        by_cases hjk : j = k
        · subst hjk; exact hjun
        · rw [getD_set_ne true hjk] at hun; exact hun
      refine wpOpIn_mono (fun a' w' h3 => ⟨fun q hq hn => h3.2.1 q (List.mem_cons_of_mem _ hq) hn, ih _ (listed.setIfInBounds j true) a' w' (hc.step hj) hfree' (ready_mono hr (Ne.symm hji)) h3.1 (h3.2.1 (i, V) (List.mem_cons_self ..) hanc)
        (fun q hq => by rw [List.mem_filter] at hq; exact h3.2.1 q (List.mem_cons_of_mem _ hq.1) (by simpa using hq.2)) ?_⟩) h2
      have h4 := h3.2.2
      rw [List.filter_cons, if_pos (by simp [hanc])] at h4
      rw [Array.setIfInBounds_comm _ _ hji]
      exact h4
/-- Of those that were taken first: they yield in all worlds, or they are loads of which the condition speaks. -/
def InvP (Ps : List (Nat × (World → Prop))) (S : Option (World → Prop)) (pend : List Nat) : Prop := ∀ q ∈ Ps, (∀ w, q.2 w) ∨ (q.1 ∈ pend ∧ ∃ S', S = some S' ∧ ∀ w, S' w → q.2 w)
/-- The condition, if there is one, holds; without one nothing is pending. -/
def InvS (S : Option (World → Prop)) (pend : List Nat) (w : World) : Prop := match S with
  | none => pend = []
  | some S => S w
theorem InvP.now {Ps : List (Nat × (World → Prop))} {S : Option (World → Prop)} {pend : List Nat} {w : World} (hI : InvP Ps S pend) (hS : InvS S pend w) : ∀ q ∈ Ps, q.2 w := fun q hq => by
  rcases hI q hq with h1 | ⟨_, S', rfl, h2⟩
  · exact h1 w
  · exact h2 w hS
theorem behR_sound {S : Option (World → Prop)} {pend A : List Nat} {w : World} {K : Option (World → Prop) → List Nat → Prop} (h : behR S (dropN A pend) w K) {Ps : List (Nat × (World → Prop))} (hI : InvP Ps S pend) :
    ∃ S' pend', InvS S' pend' w ∧ K S' pend' ∧ InvP (Ps.filter fun q => !hasN q.1 A) S' pend' ∧ (∀ q ∈ Ps, hasN q.1 A = false → q.2 w) := by
  have hin : ∀ q ∈ Ps, hasN q.1 A = false → (∀ w, q.2 w) ∨ (q.1 ∈ dropN A pend ∧ ∃ S', S = some S' ∧ ∀ w, S' w → q.2 w) := fun q hq hn => by
    rcases hI q hq with h1 | ⟨h1, h2⟩
    · exact Or.inl h1
    · exact Or.inr ⟨dropN_mem h1 (fun hm => by rw [hasN_mem.2 hm] at hn; cases hn), h2⟩
  unfold behR at h
  split at h
  · rename_i he
    refine ⟨none, [], rfl, h, fun q hq => ?_, fun q hq hn => ?_⟩
    · rw [List.mem_filter] at hq
      rcases hin q hq.1 (by simpa using hq.2) with h1 | ⟨h1, _⟩
      · exact Or.inl h1
      · rw [he] at h1; cases h1
    · rcases hin q hq hn with h1 | ⟨h1, _⟩
      · exact h1 w
      · rw [he] at h1; cases h1
  · split at h
    · rename_i S0
      obtain ⟨S', hs, hS, hK⟩ := h
      refine ⟨some S', _, hS, hK, fun q hq => ?_, fun q hq hn => ?_⟩
      · rw [List.mem_filter] at hq
        rcases hin q hq.1 (by simpa using hq.2) with h1 | ⟨h1, S1, e, h2⟩
        · exact Or.inl h1
        · cases e
          exact Or.inr ⟨h1, S', rfl, fun w hw => h2 w (hs w hw)⟩
      · rcases hin q hq hn with h1 | ⟨_, S1, e, h2⟩
        · exact h1 w
        · cases e
          exact h2 w (hs w hS)
    · exact h.elim
/-- What does not hang on the world yields whatever the world. -/
theorem rOp_free {at1 at2 : (World → Prop) → Prop} {ρ : Env} {o : Op} {ty : TypeId} {K : Value → Prop} (hl : isLd P o = false) (h : rOp P at1 ρ o ty K) : rOp P at2 ρ o ty K := by
  cases o
  case load => cases hl
  case lookup => cases hl
  case convert s d x =>
    simp only [isLd] at hl
    simp only [rOp] at h ⊢
    rw [hl] at h ⊢
    exact h
  case call c =>
    obtain ⟨callee, args, argTypes⟩ := c
    cases callee with
    | builtin b =>
      cases b <;> first | exact h | skip
      simp only [isLd] at hl
      simp only [rOp] at h ⊢
      split at h
      · rename_i x t hx ht
        simp only [ht] at hl
        rw [hl] at h ⊢
        exact h
      · exact h
    | invoke r m => exact h
    | value f => exact h
  all_goals exact h
theorem isNilL_eq {l : List Nat} (h : isNilL l = true) : l = [] := by
  cases l with
  | nil => rfl
  | cons => cases h
theorem read_no_defer {o : Op} (h : isRead P o = true) : ∀ c, o ≠ .defer c := fun c e => by subst e; cases h
theorem wHeldR_sound {n : Nat} {r : Option Nat} {ops : List Oper} {Q : Exit → Act → World → Prop} {K : Env → World → Prop} (hns : Region.noSelect ops.toArray = true)
    (hP : ∀ c a w, ¬ Q (.panic c) a w) (hQ : ∀ a ρ w, Rep n a ρ → K ρ w → Q .normal a w) (hf : fitsOps n ops = true) {T : List (List Nat)} (hT : GoodT ops T) :
    ∀ (f : Nat) (S : Option (World → Prop)) (pend : List Nat) (Ps : List (Nat × (World → Prop))) (listed : Array Bool) (a : Act) (ρ : Env) (w : World), ClosedL ops listed → InvS S pend w → InvP Ps S pend → Rep n a ρ →
      wHeldR P ops T K f S pend listed ρ w → wpG P r ops T Q f Ps listed a w
  | 0, S, pend, Ps, listed, a, ρ, w, _, _, _, hr, h => by
    simp only [wHeldR] at h
    split at h
    · rename_i hrd; exact ⟨hrd, hQ _ _ _ hr h⟩
    · exact h.elim
  | f + 1, S, pend, Ps, listed, a, ρ, w, hc, hS, hI, hr, h => by
    simp only [wHeldR] at h
    split at h
    · rename_i hrd; exact ⟨fun _ => hQ _ _ _ hr h, by rw [hrd]; simp⟩
    · rename_i i0 rs hrd
      have hPw : ∀ q ∈ Ps, q.2 w := hI.now hS
      split at h
      · rename_i i hi
        obtain ⟨hmem, hfi⟩ := findL_some hi
        simp only [Bool.and_eq_true] at hfi
        have hmr : i ∈ Region.ready .any ops.toArray listed := by rw [hrd]; exact hmem
        split at h
        · rename_i o ho
          have hrdo : isRead P o.op = true := by have := hfi.1; rw [ho] at this; exact this
          have hd : ∀ d, o.dst = some d → d < n := fitsOps_mem hf o (List.mem_of_getElem? ho)
          have ho' : ops.toArray[i]? = some o := by simpa using ho
          have take : ∀ (V : World → Prop) (v : Value) (S' : Option (World → Prop)) (pend' : List Nat), V w → Yif P ops.toArray V o v a → InvS S' pend' w → InvP ((i, V) :: Ps) S' pend' → wHeldR P ops T K f S' pend' (listed.setIfInBounds i true) (upd ρ o.dst v) w → wpG P r ops T Q (f + 1) Ps listed a w := fun V v S' pend' hV hy hS' hI' hh =>
            wpG_first hT ho' (Region.noSelect_spec hns) (fun c a' w' hq => (hP _ _ _ hq).elim) f Ps listed a w hc (Region.free_spec ho' hfi.2) hmr hy hV hPw
              (wHeldR_sound hns hP hQ hf hT f S' pend' _ _ _ _ _ (hc.step hmr) hS' hI' (hr.put _ _ hd) hh)
          have one : ∀ (V : World → Prop) N, rOp P (fun p => ∀ w', V w' → p w') ρ o.op o.type N → ∃ v, (∀ w', V w' → (execOp a.eval o).run P w' = .ok (.value v) w') ∧ N v := fun V N hN => by
            obtain ⟨v, hv, hk⟩ := rOp_sound (P := P) (S := V) (fun p hp w' hw => hp w' hw) hN
            exact ⟨v, fun w' hw => by rw [hr.eval]; exact hv w' hw, hk⟩
          have free : ∀ v : Value, InvP Ps S pend → InvP ((i, fun _ => True) :: Ps) S pend := fun v hI q hq => by
            rcases List.mem_cons.1 hq with rfl | hq
            · exact Or.inl fun _ => trivial
            · exact hI q hq
          have go : Region.wanted o (yielded ops.toArray a.tmps) = true → rdR P (isNilL rs) S pend i ρ o w (fun S pend v => wHeldR P ops T K f S pend (listed.setIfInBounds i true) (upd ρ o.dst v) w) → wpG P r ops T Q (f + 1) Ps listed a w := fun hw h => by
            unfold rdR at h
            cases hl : isLd P o.op with
            | true =>
              rw [hl] at h
              simp only [cond_true] at h
              cases hone : isNilL rs && isNilL pend with
              | true =>
                rw [hone] at h
                simp only [cond_true] at h
                simp only [Bool.and_eq_true] at hone
                have hrs : rs = [] := isNilL_eq hone.1
                have hpd : pend = [] := isNilL_eq hone.2
                obtain ⟨v, hv, hk⟩ := rOp_sound (P := P) (S := fun w' => w' = w) (fun p hp w' e => by subst e; exact hp) h
                have hi0 : i = i0 := by rw [hrs] at hmem; simpa using hmem
                refine ⟨fun h0 => (by rw [hrd] at h0; cases h0), fun j hj => ?_⟩
                have hj0 : j = i := by rw [hrd, hrs] at hj; rw [hi0]; simpa using hj
                subst hj0
                have hall : ∀ q ∈ Ps, ∀ w, q.2 w := fun q hq w => by
                  rcases hI q hq with h1 | ⟨h1, _⟩
                  · exact h1 w
                  · rw [hpd] at h1; cases h1
                refine Yif.wpOp (S := fun w' => w' = w) ho' ⟨.inl ⟨hw, fun w' e => by rw [hr.eval]; exact hv w' e⟩, fun _ => read_no_defer hrdo⟩ rfl ⟨fun q hq _ => hall q hq w, ?_⟩
                exact wHeldR_sound hns hP hQ hf hT f none [] _ _ _ _ _ (hc.step hmr) rfl (fun q hq => Or.inl (hall q (List.mem_filter.1 hq).1)) (hr.put _ _ hd) hk
              | false =>
                rw [hone] at h
                simp only [cond_false] at h
                have h' : ∃ S1 : World → Prop, S1 w ∧ (∀ q ∈ Ps, (∀ w, q.2 w) ∨ (q.1 ∈ pend ∧ ∀ w, S1 w → q.2 w)) ∧ rOp P (fun p => ∀ w', S1 w' → p w') ρ o.op o.type (fun v => wHeldR P ops T K f (some S1) (i :: pend) (listed.setIfInBounds i true) (upd ρ o.dst v) w) := by
                  cases S with
                  | some S1 =>
                    exact ⟨S1, hS, fun q hq => by
                      rcases hI q hq with h1 | ⟨h1, S2, e, h2⟩
                      · exact Or.inl h1
                      · cases e; exact Or.inr ⟨h1, h2⟩, h⟩
                  | none =>
                    obtain ⟨S1, hS1, h⟩ := h
                    exact ⟨S1, hS1, fun q hq => by
                      rcases hI q hq with h1 | ⟨h1, S2, e, h2⟩
                      · exact Or.inl h1
                      · exact (by cases e), h⟩
                obtain ⟨S1, hS1, hI1, h⟩ := h'
                obtain ⟨v, hv, hk⟩ := one S1 _ h
                refine take S1 v (some S1) (i :: pend) hS1 ⟨.inl ⟨hw, hv⟩, fun _ => read_no_defer hrdo⟩ hS1 ?_ hk
                intro q hq
                rcases List.mem_cons.1 hq with rfl | hq
                · exact Or.inr ⟨List.mem_cons_self .., S1, rfl, fun _ h => h⟩
                · rcases hI1 q hq with h1 | ⟨h1, h2⟩
                  · exact Or.inl h1
                  · exact Or.inr ⟨List.mem_cons_of_mem _ h1, S1, rfl, h2⟩
            | false =>
              rw [hl] at h
              obtain ⟨v, hv, hk⟩ := one (fun _ => True) _ (rOp_free hl h)
              exact take (fun _ => True) v S pend trivial ⟨.inl ⟨hw, hv⟩, fun _ => read_no_defer hrdo⟩ hS (free v hI) hk
          split at h
          · rename_i hg
            exact go (by simp [Region.wanted, hg]) h
          · rename_i j want hg
            rcases grd_sound hr hg h with ⟨hw, h⟩ | ⟨hw, h⟩
            · exact go hw h
            · exact take (fun _ => True) undef S pend trivial ⟨.inr ⟨hw, rfl⟩, fun _ => read_no_defer hrdo⟩ hS (free undef hI) h
        · exact h.elim
      · refine ⟨fun h0 => (by rw [hrd] at h0; cases h0), fun i hi => ?_⟩
        have hmr := hi
        rw [hrd] at hi
        have h1 := allL_mem h i hi
        split at h1
        · rename_i o ho
          have hd : ∀ d, o.dst = some d → d < n := fitsOps_mem hf o (List.mem_of_getElem? ho)
          have ho' : ops.toArray[i]? = some o := by simpa using ho
          have fin : ∀ (v : Value) (w' : World), behR S (dropN (getN T i) pend) w' (fun S pend => wHeldR P ops T K f S pend (listed.setIfInBounds i true) (upd ρ o.dst v) w') →
              (∀ q ∈ Ps, hasN q.1 (getN T i) = false → q.2 w') ∧ wpG P r ops T Q f (Ps.filter fun q => !hasN q.1 (getN T i)) (listed.setIfInBounds i true) (a.put o.dst v) w' := fun v w' hb => by
            obtain ⟨S', pend', hS', hK', hI', hq'⟩ := behR_sound hb hI
            exact ⟨hq', wHeldR_sound hns hP hQ hf hT f S' pend' _ _ _ _ _ (hc.step hmr) hS' hI' (hr.put _ _ hd) hK'⟩
          unfold wpOpIn
          simp only [ho']
          split at h1
          · rename_i hg
            rw [if_pos (by simp [Region.wanted, hg])]
            exact wOp_sound hr r h1 fun v w' hK => fin v w' hK
          · rename_i j want hg
            rcases grd_sound hr hg h1 with ⟨hw, h1⟩ | ⟨hw, h1⟩
            · rw [if_pos hw]
              exact wOp_sound hr r h1 fun v w' hK => fin v w' hK
            · rw [if_neg (by rw [hw]; simp)]
              exact ⟨fun _ _ => trivial, fin undef w h1⟩
        · exact h1.elim
/-- Reads in their own order, in a world that stays. -/
theorem lex_sound {n : Nat} {r : Option Nat} {ops : List Oper} {Q : Exit → Act → World → Prop} {K : Env → World → Prop} {w : World} (hns : Region.noSelect ops.toArray = true) (hP : ∀ c a w, ¬ Q (.panic c) a w)
    (hQ : ∀ a ρ w, Rep n a ρ → K ρ w → Q .normal a w) (hf : fitsOps n ops = true) {T : List (List Nat)} (hT : GoodT ops T) :
    ∀ (l : List Oper) (k : Nat) (Ps : List (Nat × (World → Prop))) (listed : Array Bool) (a : Act) (ρ : Env), (∀ j, l[j]? = ops[k + j]?) → fitsOps n l = true → allRead P l = true → ClosedL ops listed → (∀ q ∈ Ps, q.2 w) → Rep n a ρ →
      Region.lexFrom .any ops.toArray l.length k listed = true → wOps P true ops K l ρ w → wpG P r ops T Q l.length Ps listed a w
  | [], k, Ps, listed, a, ρ, _, _, _, _, _, hr, hB, h => ⟨by simpa [Region.lexFrom] using hB, hQ _ _ _ hr h⟩
  | o :: rest, k, Ps, listed, a, ρ, hl, hfl, ha, hc, hPs, hr, hB, h => by
    have h0 : ops.toArray[k]? = some o := by simpa using (hl 0).symm
    have hd := fitsOps_mem hfl o (by simp)
    have hf' : fitsOps n rest = true := by simp only [fitsOps, Bool.and_eq_true] at hfl; exact hfl.2
    simp only [allRead, Bool.and_eq_true] at ha
    have hnd := read_no_defer ha.1
    simp only [List.length_cons, Region.lexFrom, Bool.and_eq_true] at hB
    obtain ⟨⟨hrd, hfr⟩, hB'⟩ := hB
    have hmr : k ∈ Region.ready .any ops.toArray listed := by simpa using hrd
    have hl' : ∀ j, rest[j]? = ops[k + 1 + j]? := fun j => by have := hl (j + 1); simpa [Nat.add_assoc, Nat.add_comm 1 j] using this
    have take : ∀ (v : Value) ρ', Yif P ops.toArray (fun w' => w' = w) o v a → Rep n (a.put o.dst v) ρ' → wOps P true ops K rest ρ' w → wpG P r ops T Q (rest.length + 1) Ps listed a w := fun v ρ' hy hr' hh =>
      wpG_first hT h0 (Region.noSelect_spec hns) (fun c a' w' hq => (hP _ _ _ hq).elim) rest.length Ps listed a w hc (Region.free_spec h0 hfr) hmr hy rfl hPs
        (lex_sound hns hP hQ hf hT rest (k + 1) _ _ _ _ hl' hf' ha.2 (hc.step hmr) (fun q hq => by
          rcases List.mem_cons.1 hq with rfl | hq
          · rfl
          · exact hPs q hq) hr' hB' hh)
    have go : ∀ ρ, Rep n a ρ → Region.wanted o (yielded ops.toArray a.tmps) = true → wOpD P true ρ o w (fun ρ' w' => wOps P true ops K rest ρ' w') → wpG P r ops T Q (rest.length + 1) Ps listed a w := fun ρ hr hw h => by
      have h' : wOp P ρ o.op o.type w (fun v w' => wOps P true ops K rest (upd ρ o.dst v) w') := by
        unfold wOpD at h
        split at h
        · rename_i e; exact absurd e (hnd _)
        · rename_i e; exact absurd e (hnd _)
        · exact h
      obtain ⟨v, hv, hk⟩ := rOp_sound (P := P) (S := fun w' => w' = w) (fun p hp w' e => by subst e; exact hp) (wOp_read ha.1 h')
      exact take v _ ⟨.inl ⟨hw, fun w' e => by rw [hr.eval]; exact hv w' e⟩, fun _ => hnd⟩ (hr.put _ _ hd) hk
    simp only [wOps] at h
    split at h
    · rename_i hg
      exact go ρ hr (by simp [Region.wanted, hg]) h
    · rename_i j want hg
      rcases grd_sound hr hg h with ⟨hw, h⟩ | ⟨hw, h⟩
      · exact go ρ hr hw h
      · exact take undef _ ⟨.inr ⟨hw, rfl⟩, fun _ => hnd⟩ (hr.put _ _ hd) h
/-! ### What a code does not write stays -/
def Agree (A : List Nat) (ρ ρ' : Env) : Prop := ρ'.d = ρ.d ∧ ∀ i, elemN i A = false → ρ' i = ρ i
theorem Agree.refl (A : List Nat) (ρ : Env) : Agree A ρ ρ := ⟨rfl, fun _ _ => rfl⟩
theorem Agree.upd {A : List Nat} {ρ ρ' : Env} (h : Agree A ρ ρ') {d : Option Tmp} (hd : ∀ t, d = some t → elemN t A = true) (v : Value) : Agree A ρ (upd ρ' d v) := by
  cases d with
  | none => exact h
  | some t =>
    refine ⟨h.1, fun i hi => ?_⟩
    simp only [Hx.upd]
    cases hb : Nat.beq i t with
    | true =>
      have e := Nat.eq_of_beq_eq_true hb
      subst e
      rw [hd i rfl] at hi
      cases hi
    | false => exact h.2 i hi
theorem Agree.same {A : List Nat} {ρ ρ' : Env} (h : Agree A ρ ρ') {t : Nat} {v : Value} (hv : ρ' t = v) : Agree A ρ (Hx.upd ρ' (some t) v) := by rw [upd_same hv]; exact h
theorem inAOps_mem {A : List Nat} : ∀ {l : List Oper}, inAOps A l = true → ∀ o ∈ l, ∀ d, o.dst = some d → elemN d A = true
  | [], _, o, ho => by cases ho
  | x :: r, h, o, ho => by
    simp only [inAOps, Bool.and_eq_true] at h
    intro d hd
    rcases List.mem_cons.1 ho with rfl | ho
    · have := h.1.1
      rw [hd] at this
      exact this
    · exact inAOps_mem h.2 o ho d hd
theorem inAOps_nd {A : List Nat} : ∀ {l : List Oper}, inAOps A l = true → ∀ o ∈ l, ∀ c, o.op ≠ .defer c
  | [], _, o, ho => by cases ho
  | x :: r, h, o, ho => by
    simp only [inAOps, Bool.and_eq_true] at h
    rcases List.mem_cons.1 ho with rfl | ho
    · intro c e
      have := h.1.2
      rw [e] at this
      cases this
    · exact inAOps_nd h.2 o ho
theorem calV_mono {f : Value} {args : List Value} {w : World} {R R' : Ending → World → Prop} (h : ∀ e w, R e w → R' e w) (hh : calV P f args w R) : calV P f args w R' := by
  unfold calV at *
  split at hh
  · exact cond_mono (fun hc => Calls.mono hc h) (cond_mono (fun ⟨v, w', h1, h2⟩ => ⟨v, w', h1, h _ _ h2⟩) id) hh
  · refine cond_mono (fun hy => ?_) id hh
    obtain ⟨g, tmps, assign, body, h1, h2⟩ := hy
    exact ⟨g, tmps, assign, body, h1, h2.mono h⟩
  · exact hh
theorem wOp_mono {ρ : Env} {o : Op} {ty : TypeId} {w : World} {K K' : Value → World → Prop} (h : ∀ v w, K v w → K' v w) (hh : wOp P ρ o ty w K) : wOp P ρ o ty w K' := by
  have rd : rOp P (fun p => p w) ρ o ty (fun v => K v w) → rOp P (fun p => p w) ρ o ty (fun v => K' v w) := rOp_mono fun v => h v w
  have ex : ∀ {p : Value → World → Prop}, exR P ty (fun v => ∃ w', p v w' ∧ K v w') → exR P ty (fun v => ∃ w', p v w' ∧ K' v w') := fun hx => exR_mono (fun v ⟨w', h1, h2⟩ => ⟨w', h1, h _ _ h2⟩) hx
  cases o
  case alloc t => exact cond_mono (h _ _) id hh
  case box t x => exact h _ _ hh
  case store t x v =>
    simp only [wOp, stoW, stA, stC] at hh ⊢
    split at hh
    · refine nlW_mono (fun a ha => ?_) hh
      split at ha
      · exact cond_mono (fun ⟨h1, h2, h3, h4⟩ => ⟨h1, h2, h3, h _ _ h4⟩) id ha
      · exact cond_mono (fun ⟨h1, h2, h3⟩ => ⟨h1, h2, h _ _ h3⟩) id ha
    · exact hh
  case buildSlice t len parts =>
    obtain ⟨cs, hb, h'⟩ := hh
    exact ⟨cs, hb, h _ _ h'⟩
  case makeSlice t l c =>
    simp only [wOp] at hh ⊢
    exact mksW_mono (fun b l c w => h _ _) hh
  case makeMap t r =>
    cases r with
    | none => obtain ⟨v, w', h1, h2⟩ := hh; exact ⟨v, w', h1, h _ _ h2⟩
    | some r => obtain ⟨v, w', h1, h2⟩ := hh; exact ⟨v, w', h1, h _ _ h2⟩
  case mapUpdate t m k v => obtain ⟨w', h1, h2⟩ := hh; exact ⟨w', h1, h _ _ h2⟩
  case insert t m k v => obtain ⟨w', h1, h2⟩ := hh; exact ⟨w', h1, h _ _ h2⟩
  case mapEntry t m k => exact ex hh
  case entryStore t m s v => obtain ⟨w', h1, h2⟩ := hh; exact ⟨w', h1, h _ _ h2⟩
  case range t x => obtain ⟨v, w', h1, h2⟩ := hh; exact ⟨v, w', h1, h _ _ h2⟩
  case next it s => exact ex hh
  case entry it => exact ex hh
  case convert s d x =>
    simp only [wOp] at hh ⊢
    exact cond_mono (exT_mono fun v ⟨w', h1, h2⟩ => ⟨w', h1, h _ _ h2⟩) rd hh
  case call c =>
    obtain ⟨callee, args, argTypes⟩ := c
    cases callee with
    | builtin b =>
      cases b <;> simp only [wOp] at hh ⊢ <;> (try exact rd hh)
      case append =>
        split at hh
        · exact apnW_mono (fun b l c w => h _ _) hh
        · exact hh
      case copy =>
        split at hh
        · exact cpyW_mono h hh
        · exact hh
      case clear =>
        split at hh
        · exact clrW_mono h hh
        · exact hh
      case delete =>
        split at hh
        · obtain ⟨v, w', h1, h2⟩ := hh; exact ⟨v, w', h1, h _ _ h2⟩
        · exact hh
    | invoke r m => exact rd hh
    | value f =>
      simp only [wOp, calW] at hh ⊢
      have hc : ∀ (e : Ending) w, exR P ty (fun v => e = Ending.returned v ∧ K v w) → exR P ty (fun v => e = Ending.returned v ∧ K' v w) := fun e w => exR_mono fun v hv => ⟨hv.1, h _ _ hv.2⟩
      exact calV_mono hc hh
  all_goals exact rd hh
theorem grd_frame {A : List Nat} {ρ0 : Env} {ops : List Oper} {j : Nat} {want : Bool} {ρ : Env} (hA : Agree A ρ0 ρ) {yes no yes' no' : Env → Prop} (hy : ∀ ρ, Agree A ρ0 ρ → yes ρ → yes' ρ) (hn : ∀ ρ, Agree A ρ0 ρ → no ρ → no' ρ)
    (h : grd ops j want ρ yes no) : grd ops j want ρ yes' no' := by
  unfold grd at *
  split at h
  · split at h
    · split at h
      · rename_i b hb
        cases b
        · exact cond_mono (fun h => h) (cond_mono (hn _ (hA.same hb)) (hy _ (hA.same hb))) h
        · exact cond_mono (cond_mono (hy _ (hA.same hb)) (hn _ (hA.same hb))) (fun h => h) h
      · exact hn _ hA h
    · exact hn _ hA h
  · exact hn _ hA h
theorem wOpD_frame {A : List Nat} {ρ0 : Env} {rd : Bool} {ρ : Env} {o : Oper} {w : World} (hA : Agree A ρ0 ρ) (hd : ∀ t, o.dst = some t → elemN t A = true) (hn : ∀ c, o.op ≠ .defer c) {K K' : Env → World → Prop} (hK : ∀ ρ w, Agree A ρ0 ρ → K ρ w → K' ρ w)
    (h : wOpD P rd ρ o w K) : wOpD P rd ρ o w K' := by
  unfold wOpD at *
  split at h
  · rename_i e; exact absurd e (hn _)
  · rename_i e; exact absurd e (hn _)
  · exact wOp_mono (fun v w' => hK _ _ (hA.upd hd v)) h
theorem wOps_frame {A : List Nat} {ρ0 : Env} {rd : Bool} {ops : List Oper} {K K' : Env → World → Prop} (hK : ∀ ρ w, Agree A ρ0 ρ → K ρ w → K' ρ w) :
    ∀ (l : List Oper) (ρ : Env) (w : World), inAOps A l = true → Agree A ρ0 ρ → wOps P rd ops K l ρ w → wOps P rd ops K' l ρ w
  | [], ρ, w, _, hA, h => hK ρ w hA h
  | o :: rest, ρ, w, hf, hA, h => by
    have hd := inAOps_mem hf o (by simp)
    have hn := inAOps_nd hf o (by simp)
    have hf' : inAOps A rest = true := by simp only [inAOps, Bool.and_eq_true] at hf; exact hf.2
    simp only [wOps] at h ⊢
    split at h
    · rename_i hg
      exact wOpD_frame hA hd hn (fun ρ w hA => wOps_frame hK rest _ _ hf' hA) h
    · rename_i j want hg
      exact grd_frame hA (fun ρ hA => wOpD_frame hA hd hn (fun ρ w hA => wOps_frame hK rest _ _ hf' hA)) (fun ρ hA => wOps_frame hK rest _ _ hf' (hA.upd hd _)) h
theorem allL_mono {f g : Nat → Prop} (h : ∀ i, f i → g i) : ∀ {l : List Nat}, allL f l → allL g l
  | [], _ => trivial
  | [x], hh => h x hh
  | x :: y :: r, hh => ⟨h x hh.1, allL_mono (l := y :: r) h hh.2⟩
theorem behR_mono {S : Option (World → Prop)} {pend : List Nat} {w : World} {K K' : Option (World → Prop) → List Nat → Prop} (hk : ∀ S p, K S p → K' S p) (h : behR S pend w K) : behR S pend w K' := by
  unfold behR at *
  split at h
  · exact hk _ _ h
  · split at h
    · obtain ⟨S', h0, h1, h2⟩ := h; exact ⟨S', h0, h1, hk _ _ h2⟩
    · exact h
theorem rdR_mono {b : Bool} {S : Option (World → Prop)} {pend : List Nat} {i : Nat} {ρ : Env} {o : Oper} {w : World} {K K' : Option (World → Prop) → List Nat → Value → Prop} (hk : ∀ S p v, K S p v → K' S p v) (h : rdR P b S pend i ρ o w K) : rdR P b S pend i ρ o w K' := by
  unfold rdR at *
  refine cond_mono (cond_mono (rOp_mono fun v => hk _ _ v) fun h => ?_) (rOp_mono fun v => hk _ _ v) h
  cases S with
  | some S => exact rOp_mono (fun v => hk _ _ v) h
  | none => obtain ⟨S, h1, h2⟩ := h; exact ⟨S, h1, rOp_mono (fun v => hk _ _ v) h2⟩
theorem wHeldR_frame {A : List Nat} {ρ0 : Env} {ops : List Oper} {T : List (List Nat)} {K K' : Env → World → Prop} (hK : ∀ ρ w, Agree A ρ0 ρ → K ρ w → K' ρ w) (hf : inAOps A ops = true) :
    ∀ (f : Nat) (S : Option (World → Prop)) (pend : List Nat) (listed : Array Bool) (ρ : Env) (w : World), Agree A ρ0 ρ → wHeldR P ops T K f S pend listed ρ w → wHeldR P ops T K' f S pend listed ρ w
  | 0, S, pend, listed, ρ, w, hA, h => by
    simp only [wHeldR] at h ⊢
    split at h
    · exact hK _ _ hA h
    · exact h
  | f + 1, S, pend, listed, ρ, w, hA, h => by
    simp only [wHeldR] at h ⊢
    split at h
    · exact hK _ _ hA h
    · split at h
      · split at h
        · rename_i o ho
          have hd := inAOps_mem hf o (List.mem_of_getElem? ho)
          split at h
          · exact rdR_mono (fun S p v => wHeldR_frame hK hf f _ _ _ _ _ (hA.upd hd v)) h
          · exact grd_frame hA (fun ρ hA => rdR_mono fun S p v => wHeldR_frame hK hf f _ _ _ _ _ (hA.upd hd v)) (fun ρ hA => wHeldR_frame hK hf f _ _ _ _ _ (hA.upd hd _)) h
        · exact h
      · refine allL_mono (fun i hi => ?_) h
        split at hi
        · rename_i o ho
          have hd := inAOps_mem hf o (List.mem_of_getElem? ho)
          split at hi
          · exact wOp_mono (fun v w' hv => behR_mono (fun S p hh => wHeldR_frame hK hf f _ _ _ _ _ (hA.upd hd v) hh) hv) hi
          · exact grd_frame hA (fun ρ hA => wOp_mono fun v w' hv => behR_mono (fun S p hh => wHeldR_frame hK hf f _ _ _ _ _ (hA.upd hd v) hh) hv) (fun ρ hA hv => behR_mono (fun S p hh => wHeldR_frame hK hf f _ _ _ _ _ (hA.upd hd _) hh) hv) hi
        · exact hi
theorem wDraw_frame {A : List Nat} {ρ0 : Env} {ops : List Oper} {K K' : Env → World → Prop} (hK : ∀ ρ w, Agree A ρ0 ρ → K ρ w → K' ρ w) (hf : inAOps A ops = true) (ρ : Env) (w : World) (hA : Agree A ρ0 ρ) (h : wDraw P ops K ρ w) : wDraw P ops K' ρ w := by
  unfold wDraw at *
  exact cond_mono (wOps_frame hK ops _ _ hf hA) (cond_mono (wHeldR_frame hK hf _ _ _ _ _ _ hA) id) h
theorem slots_ovr {ρ ρ' : Env} {A : List Nat} (hA : Agree A ρ ρ') : ∀ (L : List (Nat × Kd)) (t : Tup L), slots L ρ' = tv L t → ovr ρ ρ' A L t = ρ'
  | [], _, _ => by
    obtain ⟨f, d⟩ := ρ'
    simp only [ovr]
    obtain ⟨h1, h2⟩ := hA
    simp only at h1 h2
    congr 1
    · funext i
      cases h : elemN i A with
      | true => rfl
      | false => exact (h2 i h).symm
    · exact h1.symm
  | k :: r, t, h => by
    simp only [slots, tv, List.cons.injEq] at h
    have ih := slots_ovr hA r t.2 h.2
    obtain ⟨f, d⟩ := ρ'
    simp only [ovr, ih]
    congr 1
    · funext i
      cases hb : Nat.beq i k.1 with
      | true => rw [Nat.eq_of_beq_eq_true hb]; exact h.1.symm
      | false => rfl
    · exact hA.1.symm
theorem ovr_d (ρ junk : Env) (A : List Nat) : ∀ (L : List (Nat × Kd)) (t : Tup L), (ovr ρ junk A L t).d = ρ.d
  | [], _ => rfl
  | _ :: _, _ => rfl
theorem ovr_agree {ρ0 ρ junk : Env} {A B : List Nat} (hA : Agree B ρ0 ρ) (hAB : ∀ i, elemN i A = true → elemN i B = true) : ∀ (L : List (Nat × Kd)) (t : Tup L), (∀ k ∈ L, elemN k.1 B = true) → Agree B ρ0 (ovr ρ junk A L t)
  | [], _, _ => ⟨hA.1, fun i hi => by
    simp only [ovr]
    cases h : elemN i A with
    | true => rw [hAB i h] at hi; cases hi
    | false => exact hA.2 i hi⟩
  | k :: r, t, hL => ⟨hA.1, fun i hi => by
    simp only [ovr]
    cases hb : Nat.beq i k.1 with
    | true =>
      have e := Nat.eq_of_beq_eq_true hb
      rw [e, hL k (by simp)] at hi
      cases hi
    | false => exact (ovr_agree hA hAB r t.2 (fun k hk => hL k (by simp [hk]))).2 i hi⟩
theorem subN_mem {B : List Nat} : ∀ {A : List Nat}, subN B A = true → ∀ i, elemN i A = true → elemN i B = true
  | [], _, i, h => by cases h
  | j :: r, hs, i, h => by
    simp only [subN, Bool.and_eq_true] at hs
    simp only [elemN] at h
    cases hb : Nat.beq i j with
    | true => rw [Nat.eq_of_beq_eq_true hb]; exact hs.1
    | false => rw [hb] at h; exact subN_mem hs.2 i h
theorem subL_mem {B : List Nat} : ∀ {L : List (Nat × Kd)}, subL B L = true → ∀ k ∈ L, elemN k.1 B = true
  | [], _, k, h => by cases h
  | j :: r, hs, k, h => by
    simp only [subL, Bool.and_eq_true] at hs
    rcases List.mem_cons.1 h with rfl | h
    · exact hs.1
    · exact subL_mem hs.2 k h
theorem thenE_frame {B : List Nat} {ρ0 : Env} {N N' : Env → World → Prop} {Q Q' : Post} (hN : ∀ ρ w, Agree B ρ0 ρ → N ρ w → N' ρ w) (hQ : ∀ e ρ w, Agree B ρ0 ρ → Q e ρ w → Q' e ρ w) :
    ∀ e ρ w, Agree B ρ0 ρ → thenE N Q e ρ w → thenE N' Q' e ρ w
  | .normal, _, _, hA, h => hN _ _ hA h
  | .exit _, _, _, hA, h => hQ _ _ _ hA h
  | .goto _, _, _, hA, h => hQ _ _ _ hA h
  | .ret, _, _, hA, h => hQ _ _ _ hA h
  | .panic _, _, _, hA, h => hQ _ _ _ hA h
  | .outgrown, _, _, hA, h => hQ _ _ _ hA h
theorem inE_frame {B : List Nat} {ρ0 : Env} {id : Nat} {Q Q' : Post} (hQ : ∀ e ρ w, Agree B ρ0 ρ → Q e ρ w → Q' e ρ w) :
    ∀ e ρ w, Agree B ρ0 ρ → inE id Q e ρ w → inE id Q' e ρ w
  | .normal, _, _, hA, h => hQ _ _ _ hA h
  | .exit id', _, _, hA, h => by
    simp only [inE] at h ⊢
    cases hb : Nat.beq id' id with
    | true => rw [hb] at h; exact hQ _ _ _ hA h
    | false => rw [hb] at h; exact hQ _ _ _ hA h
  | .goto _, _, _, hA, h => hQ _ _ _ hA h
  | .ret, _, _, hA, h => hQ _ _ _ hA h
  | .panic _, _, _, hA, h => hQ _ _ _ hA h
  | .outgrown, _, _, hA, h => hQ _ _ _ hA h
/-- A code keeps the slots that it does not write. -/
theorem wCode_frame {B : List Nat} {ρ0 : Env} {rd : Bool} : ∀ (c : Code) (p : Plan) (Q Q' : Post) (ρ : Env) (w : World), inA B c p = true → (∀ e ρ w, Agree B ρ0 ρ → Q e ρ w → Q' e ρ w) → Agree B ρ0 ρ → wCode P rd c p Q ρ w → wCode P rd c p Q' ρ w
  | .skip, _, Q, Q', ρ, w, _, hQ, hA, h => hQ _ _ _ hA h
  | .label _, _, Q, Q', ρ, w, _, hQ, hA, h => hQ _ _ _ hA h
  | .exit _, _, Q, Q', ρ, w, _, hQ, hA, h => hQ _ _ _ hA h
  | .goto _, _, Q, Q', ρ, w, _, hQ, hA, h => hQ _ _ _ hA h
  | .ret, _, Q, Q', ρ, w, _, hQ, hA, h => hQ _ _ _ hA h
  | .region _ ops draw, _, Q, Q', ρ, w, hf, hQ, hA, h => by
    simp only [wCode] at h ⊢
    exact cond_mono (wDraw_frame (fun ρ w => hQ _ ρ w) hf ρ w hA) (wOps_frame (fun ρ w => hQ _ ρ w) _ _ _ hf hA) h
  | .seq x y, p, Q, Q', ρ, w, hf, hQ, hA, h => by
    simp only [inA, Bool.and_eq_true] at hf
    obtain ⟨hp, hfx, hfy⟩ := hf
    cases p with
    | z => exact wCode_frame x _ _ _ ρ w hfx (thenE_frame (fun ρ w hA => wCode_frame y _ _ _ ρ w hfy hQ hA) hQ) hA h
    | n a b => exact wCode_frame x _ _ _ ρ w hfx (thenE_frame (fun ρ w hA => wCode_frame y _ _ _ ρ w hfy hQ hA) hQ) hA h
    | cut A L a b =>
      simp only [Plan.inB, Bool.and_eq_true] at hp
      simp only [wCode] at h ⊢
      obtain ⟨J, hJ, hx⟩ := h
      exact ⟨J, fun junk t w hj => wCode_frame y b _ _ _ w hfy hQ (ovr_agree hA (subN_mem hp.1) L t (subL_mem hp.2)) (hJ junk t w hj),
        wCode_frame x a _ _ ρ w hfx (thenE_frame (fun _ _ _ h => h) hQ) hA hx⟩
  | .cond c x y, p, Q, Q', ρ, w, hf, hQ, hA, h => by
    simp only [inA, Bool.and_eq_true] at hf
    simp only [wCode, cndW] at h ⊢
    split at h
    · exact cond_mono (wCode_frame x _ _ _ _ _ hf.1 hQ hA) (wCode_frame y _ _ _ _ _ hf.2 hQ hA) h
    · exact h
  | .block id c, p, Q, Q', ρ, w, hf, hQ, hA, h => wCode_frame c p _ _ ρ w hf (inE_frame hQ) hA h
  | .loop c, p, Q, Q', ρ, w, hf, hQ, hA, h => by
    simp only [inA, Bool.and_eq_true] at hf
    obtain ⟨hp, hfc⟩ := hf
    cases p with
    | z => exact h.elim
    | n a b => exact h.elim
    | cut A L a b =>
      simp only [Plan.inB, Bool.and_eq_true] at hp
      simp only [wCode] at h ⊢
      obtain ⟨I, μ, h0, hround⟩ := h
      exact ⟨I, μ, h0, fun junk t w hI => wCode_frame c a _ _ _ w hfc (thenE_frame (fun _ _ _ h => h) hQ) (ovr_agree hA (subN_mem hp.1) L t (subL_mem hp.2)) (hround junk t w hI)⟩
  | .rangeFunc _ _ _ _, _, Q, Q', ρ, w, hf, _, _, h => by cases hf
  | .scope c, p, Q, Q', ρ, w, hf, hQ, hA, h => wCode_frame c p _ _ ρ w hf (fun e ρ w hA h => by cases e <;> first | exact hQ _ _ _ hA h | exact h) hA h
  | .refuse _, _, Q, Q', ρ, w, _, _, _, h => h.elim

theorem wpIn_scope {F : Fence} {n : Nat} {c : Code} {Q : Exit → Act → World → Prop} {a : Act} {w : World} (h : c.wpIn F n P (Exit.noGoto Q) a w) : (Code.scope c).wpIn F n P Q a w := by
  intro b k cs hro hb hr
  have h0 : (lone (b.atR a (.code (.scope c) :: k)) cs w).fenced P F := fenced_calm hb hr rfl
  have s1 : step P (lone (b.atR a (.code (.scope c) :: k)) cs w) = .next (lone (b.atR a (.code c :: .inScope c :: k)) cs w) := step_lone_go (by simp [stepG, stepG.exec, Frame.atR])
  have s2 : ∀ a w, step P (lone (b.atR a (.inScope c :: k)) cs w) = .next (lone (b.atR a k) cs w) := fun a w => step_lone_go (by simp [stepG, stepG.exec, Frame.atR])
  obtain ⟨e, a₁, w₁, hq, harr⟩ := h b (.inScope c :: k) cs hro hb hr
  have hx : ∀ id, exitTo id (.inScope c :: k) = exitTo id k := fun id => by simp [exitTo]
  cases e with
  | normal => exact ⟨.normal, a₁, w₁, hq, .head h0 s1 (StepsIn.trans harr (.one (fenced_calm hb hr rfl) (s2 a₁ w₁)))⟩
  | exit id => exact ⟨.exit id, a₁, w₁, hq, fun k' hk => .head h0 s1 (harr.1 k' (by rw [hx]; exact hk)), fun hr' hk => let ⟨k₁, h1, h2⟩ := harr.2 hr' (by rw [hx]; exact hk); ⟨k₁, h1, .head h0 s1 h2⟩⟩
  | goto l => exact hq.elim
  | ret => exact ⟨_, a₁, w₁, hq, .of_steps (.one h0 s1) harr⟩
  | panic ch => exact ⟨_, a₁, w₁, hq, .of_steps (.one h0 s1) harr⟩
  | outgrown => exact ⟨_, a₁, w₁, hq, .of_steps (.one h0 s1) harr⟩
theorem plainFn_spec {f : FuncId} (h : plainFn P f = true) : ∃ fn, P.funcs[f]? = some fn ∧ (fn.name == "runtime.NumGoroutine") = false ∧ fn.body.isNone = false := by
  unfold plainFn at h
  split at h
  · rename_i fn hfn
    simp only [Bool.and_eq_true, Bool.not_eq_true'] at h
    exact ⟨fn, by simpa using hfn, h.2, by cases hb : fn.body with | none => rw [hb] at h; cases h.1 | some _ => rfl⟩
  · cases h
theorem okPs_len {ps : Array Tmp} : ∀ {L : List (Nat × Kd)}, okPs ps.toList L = true → ps.size = L.length := by
  have key : ∀ (l : List Tmp) (L : List (Nat × Kd)), okPs l L = true → l.length = L.length := by
    intro l
    induction l with
    | nil => intro L h; cases L with
      | nil => rfl
      | cons => cases h
    | cons t r ih => intro L h; cases L with
      | nil => cases h
      | cons k s => simp only [okPs, Bool.and_eq_true] at h; simp [ih s h.2]
  intro L h
  rw [← Array.length_toList]
  exact key _ _ h
theorem tv_len : ∀ (L : List (Nat × Kd)) (t : Tup L), (tv L t).length = L.length
  | [], _ => rfl
  | _ :: r, t => by simp [tv, tv_len r t.2]
theorem endLoop_ok {w : World} {l : Nat} {r : Loop} (h : w.heap[l]? = some (.loop r)) (hs : (r.state == .busy) = false) : (Instr.endLoop l).run P w = .ok r.pending (w.putObj l (.loop { r with state := .exhausted })) := by
  have hs' : ¬ (r.state = .busy) := fun e => by rw [e] at hs; cases hs
  simp [Instr.endLoop, Sem.run_bind, run_getLoop h, run_setObj_loop _ h, Result.andThen, hs']
/-- The slots behind yield's arguments. -/
theorem fold_rep {n : Nat} : ∀ (l : List Tmp) (L : List (Nat × Kd)) (t : Tup L) (tmps : Array Value) (ρ : Nat → Value), okPs l L = true → ltL n L = true → noDup L = true → tmps.size = n → (∀ i, tmps.getD i undef = ρ i) →
    ((l.zip (tv L t)).foldl (fun tmps (x : Tmp × Value) => tmps.setIfInBounds x.1 x.2) tmps).size = n ∧ ∀ i, ((l.zip (tv L t)).foldl (fun tmps (x : Tmp × Value) => tmps.setIfInBounds x.1 x.2) tmps).getD i undef = (ovr ⟨ρ, []⟩ ⟨ρ, []⟩ [] L t).v i
  | [], [], _, tmps, ρ, _, _, _, hs, hg => ⟨hs, hg⟩
  | [], _ :: _, _, _, _, h, _, _, _, _ => by cases h
  | _ :: _, [], _, _, _, h, _, _, _, _ => by cases h
  | x :: r, k :: L, t, tmps, ρ, h, hl, hd, hs, hg => by
    simp only [okPs, Bool.and_eq_true] at h
    simp only [ltL, Bool.and_eq_true] at hl
    simp only [noDup, Bool.and_eq_true, Bool.not_eq_true'] at hd
    have hx : x = k.1 := Nat.eq_of_beq_eq_true h.1
    have hk : k.1 < n := Nat.blt_eq.mp hl.1
    subst hx
    have h1 : ∀ i, (tmps.setIfInBounds k.1 (k.2.V t.1)).getD i undef = (fun i => cond (Nat.beq i k.1) (k.2.V t.1) (ρ i)) i := fun i => by
      simp only [Array.getD_eq_getD_getElem?, Array.getElem?_setIfInBounds]
      by_cases e : k.1 = i
      · subst e
        rw [if_pos rfl, if_pos (by rw [hs]; exact hk)]
        simp
      · rw [if_neg e]
        have : Nat.beq i k.1 = false := by
          cases hb : Nat.beq i k.1 with
          | false => rfl
          | true => exact absurd (Nat.eq_of_beq_eq_true hb).symm e
        rw [this]
        simpa [Array.getD_eq_getD_getElem?] using hg i
    obtain ⟨h2, h3⟩ := fold_rep r L t.2 (tmps.setIfInBounds k.1 (k.2.V t.1)) (fun i => cond (Nat.beq i k.1) (k.2.V t.1) (ρ i)) h.2 hl.2 hd.2 (by simp [hs]) h1
    refine ⟨h2, fun i => ?_⟩
    refine (h3 i).trans ?_
    have swap : ∀ (L : List (Nat × Kd)) (t : Tup L), (L.any fun x => Nat.beq x.1 k.1) = false → ∀ v, (ovr ⟨fun i => cond (Nat.beq i k.1) v (ρ i), []⟩ ⟨fun i => cond (Nat.beq i k.1) v (ρ i), []⟩ [] L t).v i = cond (Nat.beq i k.1) v ((ovr ⟨ρ, []⟩ ⟨ρ, []⟩ [] L t).v i) := by
      intro L
      induction L with
      | nil => intro t _ v; rfl
      | cons y s ih =>
        intro t hy v
        simp only [List.any_cons, Bool.or_eq_false_iff] at hy
        simp only [ovr]
        have := ih t.2 hy.2 v
        rw [this]
        cases hb : Nat.beq i y.1 with
        | false => rfl
        | true =>
          have e1 := Nat.eq_of_beq_eq_true hb
          have : Nat.beq i k.1 = false := by rw [e1]; exact hy.1
          rw [this]; rfl
    exact swap L t.2 hd.1 _
theorem ovr_v (f : Nat → Value) (d d' : List Deferred) : ∀ (L : List (Nat × Kd)) (t : Tup L) (i : Nat), (ovr ⟨f, d⟩ ⟨f, d⟩ [] L t).v i = (ovr ⟨f, d'⟩ ⟨f, d'⟩ [] L t).v i
  | [], _, i => rfl
  | k :: r, t, i => by simp only [ovr]; rw [ovr_v f d d' r t.2 i]
theorem foldl_arr (f : Array Value → Tmp × Value → Array Value) (ps : Array Tmp) (vs : Array Value) (init : Array Value) : (ps.zip vs).foldl f init = (ps.toList.zip vs.toList).foldl f init := by
  rw [← Array.foldl_toList]; simp
theorem wCode_sound {n : Nat} (hm : P.follows .mixedOrders = true) {r : Option Nat} {rd : Bool} (hrd : rd = false → r = none) : ∀ (c : Code) (p : Plan) (Q : Post) (a : Act) (ρ : Env) (w : World), (∀ ch ρ w, ¬ Q (.panic ch) ρ w) → fits n c p = true → Rep n a ρ → wCode P rd c p Q ρ w → c.wpIn (Fr r) 0 P (lift n Q) a w
  | .skip, _, Q, a, ρ, w, _, _, hr, h => wpIn_skip ⟨ρ, hr, h⟩
  | .label l, _, Q, a, ρ, w, _, _, hr, h => wpIn_label ⟨ρ, hr, h⟩
  | .exit id, _, Q, a, ρ, w, _, _, hr, h => wpIn_exit ⟨ρ, hr, h⟩
  | .goto l, _, Q, a, ρ, w, _, _, hr, h => wpIn_goto ⟨ρ, hr, h⟩
  | .ret, _, Q, a, ρ, w, _, _, hr, h => wpIn_ret ⟨ρ, hr, h⟩
  | .region id ops draw, p, Q, a, ρ, w, hP, hf, hr, h => by
    simp only [wCode] at h
    simp only [fits] at hf
    cases draw with
    | false =>
      simp only [cond_false] at h
      refine wpIn_region ?_
      have := wOps_sound (P := P) (n := n) (ops := ops.toList) (Q := lift n Q) hrd (fun a ρ w hr hK => ⟨ρ, hr, hK⟩) ops.toList 0 a ρ w (fun j => by rw [Nat.zero_add]) hf hr h
      simpa [List.range_eq_range'] using this
    | true =>
      simp only [cond_true, wDraw] at h
      refine wpIn_region_any hm ?_
      cases hc : allRead P ops.toList && Region.lexB .any ops.toList.toArray with
      | true =>
        rw [hc] at h
        simp only [Bool.and_eq_true, Region.lexB] at hc
        have key := wpG_any _ _ _ _ _ (lex_sound (P := P) (n := n) (r := r) (Q := lift n Q) (w := w.drew) hc.2.1 (fun c a w ⟨ρ, _, hq⟩ => hP _ _ _ hq) (fun a ρ w hr hK => ⟨ρ, hr, hK⟩) hf (ancT_ok ops.toList) ops.toList 0 [] _ a ρ (fun j => by rw [Nat.zero_add]) hf hc.1 (ClosedL.start _) (fun q hq => by cases hq) hr (by simpa using hc.2.2) h)
        simpa using key
      | false =>
        rw [hc] at h
        simp only [cond_false] at h
        cases hn : Region.noSelect ops.toList.toArray with
        | false => rw [hn] at h; exact h.elim
        | true =>
          rw [hn] at h
          have key := wpG_any _ _ _ _ _ (wHeldR_sound (P := P) (n := n) (r := r) (Q := lift n Q) hn (fun c a w ⟨ρ, _, hq⟩ => hP _ _ _ hq) (fun a ρ w hr hK => ⟨ρ, hr, hK⟩) hf (ancT_ok ops.toList) ops.toList.length none [] [] _ a ρ w.drew (ClosedL.start _) rfl (fun q hq => by cases hq) hr h)
          simpa using key
  | .seq x y, p, Q, a, ρ, w, hP, hf, hr, h => by
    simp only [fits, Bool.and_eq_true] at hf
    obtain ⟨hc, hfx, hfy⟩ := hf
    have plain : wCode P rd x p.l (thenE (wCode P rd y p.r Q) Q) ρ w → (Code.seq x y).wpIn (Fr r) 0 P (lift n Q) a w := fun h => by
      refine wpIn_seq (wpIn_mono (wCode_sound hm hrd x p.l _ a ρ w (by intro ch ρ w; exact hP ch ρ w) hfx hr h) ?_)
      rintro e a w ⟨ρ, hr, hq⟩
      cases e with
      | normal => exact wCode_sound hm hrd y p.r Q a ρ w hP hfy hr hq
      | exit id => exact ⟨ρ, hr, hq⟩
      | goto l => exact ⟨ρ, hr, hq⟩
      | ret => exact ⟨ρ, hr, hq⟩
      | panic c => exact ⟨ρ, hr, hq⟩
      | outgrown => exact ⟨ρ, hr, hq⟩
    cases p with
    | z => exact plain h
    | n a b => exact plain h
    | cut A L a' b =>
      simp only [Bool.and_eq_true] at hc
      simp only [wCode] at h
      obtain ⟨J, hJ, hx⟩ := h
      have hx' := wCode_frame (P := P) (rd := rd) (B := A) (ρ0 := ρ) x a' _ (thenE (fun ρ' w' => ∃ t : Tup L, slots L ρ' = tv L t ∧ J t w' ∧ Agree A ρ ρ') Q) ρ w hc.2
        (thenE_frame (fun ρ' w' hA ⟨t, ht, hj⟩ => ⟨t, ht, hj, hA⟩) (fun _ _ _ _ h => h)) (Agree.refl _ _) hx
      refine wpIn_seq (wpIn_mono (wCode_sound hm hrd x a' _ a ρ w (by intro ch ρ w; exact hP ch ρ w) hfx hr hx') ?_)
      rintro e a w ⟨ρ', hr, hq⟩
      cases e with
      | normal =>
        obtain ⟨t, ht, hj, hA⟩ := hq
        have := hJ ρ' t w hj
        rw [slots_ovr hA L t ht] at this
        exact wCode_sound hm hrd y b Q a ρ' w hP hfy hr this
      | exit id => exact ⟨ρ', hr, hq⟩
      | goto l => exact ⟨ρ', hr, hq⟩
      | ret => exact ⟨ρ', hr, hq⟩
      | panic c => exact ⟨ρ', hr, hq⟩
      | outgrown => exact ⟨ρ', hr, hq⟩
  | .cond c x y, p, Q, a, ρ, w, hP, hf, hr, h => by
    simp only [fits, Bool.and_eq_true] at hf
    simp only [wCode, cndW] at h
    split at h
    · rename_i t ht
      refine wpIn_cond (t := t) (by rw [hr.eval]; exact ht) ?_
      cases t with
      | true => exact wCode_sound hm hrd x p.l Q a ρ w hP hf.1 hr h
      | false => exact wCode_sound hm hrd y p.r Q a ρ w hP hf.2 hr h
    · exact h.elim
  | .block id c, p, Q, a, ρ, w, hP, hf, hr, h => by
    refine wpIn_block (wpIn_mono (wCode_sound hm hrd c p _ a ρ w ?_ hf hr h) ?_)
    · intro ch ρ w; exact hP ch ρ w
    · rintro e a w ⟨ρ, hr, hq⟩
      cases e with
      | exit id' =>
        simp only [inE] at hq
        simp only [Exit.inBlock]
        by_cases e : id' = id
        · subst e
          rw [if_pos rfl]
          simp only [Nat.beq_refl, cond_true] at hq
          exact ⟨ρ, hr, hq⟩
        · rw [if_neg e]
          cases hb : Nat.beq id' id with
          | true => exact absurd (Nat.eq_of_beq_eq_true hb) e
          | false => rw [hb] at hq; exact ⟨ρ, hr, hq⟩
      | normal => exact ⟨ρ, hr, hq⟩
      | goto l => exact ⟨ρ, hr, hq⟩
      | ret => exact ⟨ρ, hr, hq⟩
      | panic c => exact ⟨ρ, hr, hq⟩
      | outgrown => exact ⟨ρ, hr, hq⟩
  | .loop c, p, Q, a, ρ, w, hP, hf, hr, h => by
    simp only [fits, Bool.and_eq_true] at hf
    obtain ⟨hc, hfc⟩ := hf
    cases p with
    | z => exact h.elim
    | n a b => exact h.elim
    | cut A L a' b =>
      simp only [Bool.and_eq_true] at hc
      simp only [wCode] at h
      obtain ⟨I, μ, ⟨t0, ht0, hI0⟩, hround⟩ := h
      refine wpIn_loop_ghost (fun m a w => ∃ ρ' t, Rep n a ρ' ∧ Agree A ρ ρ' ∧ slots L ρ' = tv L t ∧ I t w ∧ μ t w = m) (μ t0 w) ⟨ρ, t0, hr, Agree.refl _ _, ht0, hI0, rfl⟩ ?_
      rintro m a w ⟨ρ1, t, hr1, hA1, ht, hI, rfl⟩
      have h1 := hround ρ1 t w hI
      rw [slots_ovr hA1 L t ht] at h1
      have h2 := wCode_frame (P := P) (rd := rd) (B := A) (ρ0 := ρ) c a' _ (thenE (fun ρ' w' => ∃ t' : Tup L, slots L ρ' = tv L t' ∧ I t' w' ∧ μ t' w' < μ t w ∧ Agree A ρ ρ') Q) ρ1 w hc.2
        (thenE_frame (fun ρ' w' hA ⟨t', h1, h2, h3⟩ => ⟨t', h1, h2, h3, hA⟩) (fun _ _ _ _ h => h)) hA1 h1
      refine wpIn_mono (wCode_sound hm hrd c a' _ a ρ1 w (by intro ch ρ w; exact hP ch ρ w) hfc hr1 h2) ?_
      rintro e a' w' ⟨ρ', hr', hq⟩
      cases e with
      | normal =>
        obtain ⟨t', h3, h4, h5, h6⟩ := hq
        exact ⟨μ t' w', h5, ρ', t', hr', h6, h3, h4, rfl⟩
      | exit id => exact ⟨ρ', hr', hq⟩
      | goto l => exact ⟨ρ', hr', hq⟩
      | ret => exact ⟨ρ', hr', hq⟩
      | panic c => exact ⟨ρ', hr', hq⟩
      | outgrown => exact ⟨ρ', hr', hq⟩
  | .rangeFunc g ps x y, p, Q, a, ρ, w, hP, hf, hr, h => by
    cases p with
    | z => exact h.elim
    | n a b => exact h.elim
    | cut A L pa pb =>
      simp only [fits, Bool.and_eq_true] at hf
      obtain ⟨⟨⟨hps, hlt⟩, hdup⟩, hfx, hfy⟩ := hf
      simp only [wCode] at h
      cases rd with
      | true => exact h.elim
      | false =>
        have hrn := hrd rfl
        subst hrn
        simp only [cond_false, rgW] at h
        split at h
        · rename_i gf first captured hg
          cases hp : plainFn P gf with
          | false => rw [hp] at h; exact h.elim
          | true =>
            rw [hp] at h
            simp only [cond_true] at h
            refine wpIn_rangeFunc fun fn _ => ?_
            obtain ⟨rec, hrec⟩ : ∃ rec : LoopState → Option Code → Loop, rec = fun st pe => { state := st, pending := pe, fn, tmps := a.tmps, params := ps, assign := x, body := y, defers := w.heap.size } := ⟨_, rfl⟩
            obtain ⟨fnn, hfn, hpn, hpb⟩ := plainFn_spec hp
            have eg : ∀ args w, (callFunc gf args).run P w = .ok (.enter gf args) w := fun args w => by
              simp only [callFunc, Sem.run_bind, run_program, Result.andThen_ok, hfn, hpn, Bool.false_eq_true, if_false, hpb, Sem.run_pure]
            refine ⟨w.heap.size + 1, [markD w.heap.size], (w.alloc (.deferred (some []))).alloc (.loop (rec .ready none)), { target := .fn (.func gf) captured, args := first ++ #[.func (.yield (w.heap.size + 1)) #[] #[]] }, (w.alloc (.deferred (some []))).alloc (.loop (rec .ready none)), gf,
              first ++ #[.func (.yield (w.heap.size + 1)) #[] #[]] ++ captured, (w.alloc (.deferred (some []))).alloc (.loop (rec .ready none)), ?_, ?_, fun _ _ => trivial, ?_, fun hh => (by cases hh), ?_⟩
            · rw [hrec]; exact run_enterLoop_outer _ _ _ _ _
            · rw [hr.eval]
              simp only [resolve, rangeCall, hg, Deferred.ofValue, Sem.run_pure]
              simp [opd]
            · simp only [invoke, eg]
            · have hcall := h rec ?_
              · have e1 : first ++ #[Value.func (.yield (w.heap.size + 1)) #[] #[]] ++ captured = (first.toList ++ [Value.func (.yield (w.heap.size + 1)) #[] #[]] ++ captured.toList).toArray := by apply Array.ext'; simp
                rw [e1]
                refine CallsIn.mono (fr_calls hcall) ?_
                rintro e W ⟨v, rfl, hW⟩
                have hr2 : Rep n { a with defers := [markD w.heap.size] ++ a.defers } ⟨ρ.v, markD w.heap.size :: ρ.d⟩ := ⟨hr.size, by simp only [hr.defers]; rfl, hr.get⟩
                rcases hW with ⟨hl, hq⟩ | ⟨hl, hq⟩ | ⟨id, hl, hq⟩
                · refine ⟨none, W.putObj (w.heap.size + 1) (.loop (rec .exhausted none)), ?_, ⟨_, hr2, hq⟩⟩
                  rw [hrec] at hl ⊢; exact endLoop_ok hl rfl
                · refine ⟨some .ret, W.putObj (w.heap.size + 1) (.loop (rec .exhausted (some .ret))), ?_, wpIn_ret ⟨_, hr2, hq⟩⟩
                  rw [hrec] at hl ⊢; exact endLoop_ok hl rfl
                · refine ⟨some (.exit id), W.putObj (w.heap.size + 1) (.loop (rec .exhausted (some (.exit id)))), ?_, wpIn_exit ⟨_, hr2, hq⟩⟩
                  rw [hrec] at hl ⊢; exact endLoop_ok hl rfl
              · intro t W R hl hb
                have hlen : ps.size = L.length := okPs_len hps
                have hy := run_yield (P := P) (args := (tv L t).toArray) hl (by rw [hrec]; simp [tv_len, hlen])
                refine ⟨_, _, _, _, hy, roundIn_of_wpIn (F := Fence.wide) trivial ?_⟩
                have hfold := fold_rep (n := n) ps.toList L t a.tmps ρ.v hps hlt hdup hr.size hr.get
                have hrep : Rep n { tmps := (((rec .ready none).params.zip (tv L t).toArray).foldl (fun tmps (t, a) => tmps.setIfInBounds t a) (rec .ready none).tmps), defers := [] } ⟨(ovr ρ ρ [] L t).v, []⟩ := by
                  rw [hrec]
                  simp only
                  rw [foldl_arr]
                  exact ⟨hfold.1, rfl, fun i => (hfold.2 i).trans (ovr_v ρ.v [] ρ.d L t i)⟩
                have hasg : (rec .ready none).assign = x := by rw [hrec]
                have hbod : (rec .ready none).body = y := by rw [hrec]
                have hrdy : (rec .ready none).state = .ready := by rw [hrec]
                have hbusy : ({ rec .ready none with state := .busy } : Loop) = rec .busy none := by rw [hrec]
                have hend : ∀ jump, ({ rec .busy none with state := if jump.isNone then .ready else .done, pending := jump } : Loop) = rec (if jump.isNone then .ready else .done) jump := fun jump => by rw [hrec]
                rw [hasg, hbod]
                have hx := wCode_sound (r := some (w.heap.size + 1)) (rd := true) hm (fun e => by cases e) x pa _ _ _ W (by intro ch ρ w; exact id) hfx hrep hb
                refine wpIn_mono (F := Fence.wide.inRound (w.heap.size + 1)) hx ?_
                rintro e a' W1 ⟨ρ', hr', hq⟩
                cases e with
                | normal =>
                  obtain ⟨hl1, hq⟩ := hq
                  refine ⟨_, run_beginRound hl1 hrdy, ?_⟩
                  rw [hbusy]
                  have hy := wCode_sound (r := some (w.heap.size + 1)) (rd := true) hm (fun e => by cases e) y pb _ _ _ _ (by intro ch ρ w; exact id) hfy hr' hq
                  refine wpIn_mono (F := Fence.wide.inRound (w.heap.size + 1)) hy ?_
                  rintro e a'' W2 ⟨ρ'', hr'', hq⟩
                  cases e with
                  | normal => exact ⟨_, _, run_endRound none hq.1, by rw [hend]; exact hq.2⟩
                  | ret => exact ⟨_, _, run_endRound (some .ret) hq.1, by rw [hend]; exact hq.2⟩
                  | exit id => exact ⟨_, _, run_endRound (some (.exit id)) hq.1, by rw [hend]; exact hq.2⟩
                  | goto t => exact hq.elim
                  | panic c => exact hq.elim
                  | outgrown => exact hq.elim
                | exit id => exact hq.elim
                | goto t => exact hq.elim
                | ret => exact hq.elim
                | panic c => exact hq.elim
                | outgrown => exact hq.elim
        · exact h.elim
  | .scope c, p, Q, a, ρ, w, hP, hf, hr, h => by
    refine wpIn_scope (wpIn_mono (wCode_sound hm hrd c p _ a ρ w ?_ hf hr h) ?_)
    · intro ch ρ w; exact hP ch ρ w
    · rintro e a w ⟨ρ, hr, hq⟩
      cases e with
      | goto l => exact hq.elim
      | normal => exact ⟨ρ, hr, hq⟩
      | exit id => exact ⟨ρ, hr, hq⟩
      | ret => exact ⟨ρ, hr, hq⟩
      | panic c => exact ⟨ρ, hr, hq⟩
      | outgrown => exact ⟨ρ, hr, hq⟩
  | .refuse _, _, Q, a, ρ, w, _, _, hr, h => h.elim

theorem fitsOps_mono {n m : Nat} (hnm : n ≤ m) : ∀ (l : List Oper), fitsOps n l = true → fitsOps m l = true
  | [], _ => rfl
  | o :: r, h => by
    simp only [fitsOps, Bool.and_eq_true] at h ⊢
    refine ⟨?_, fitsOps_mono hnm r h.2⟩
    have := h.1
    split at this
    · exact Nat.blt_eq.mpr (Nat.lt_of_lt_of_le (Nat.blt_eq.mp this) hnm)
    · rfl
theorem ltL_mono {n m : Nat} (hnm : n ≤ m) : ∀ (L : List (Nat × Kd)), ltL n L = true → ltL m L = true
  | [], _ => rfl
  | k :: r, h => by
    simp only [ltL, Bool.and_eq_true] at h ⊢
    exact ⟨Nat.blt_eq.mpr (Nat.lt_of_lt_of_le (Nat.blt_eq.mp h.1) hnm), ltL_mono hnm r h.2⟩
theorem fits_mono {n m : Nat} (hnm : n ≤ m) : ∀ (c : Code) (p : Plan), fits n c p = true → fits m c p = true
  | .region _ ops _, _, h => fitsOps_mono hnm _ h
  | .seq x y, p, h => by simp only [fits, Bool.and_eq_true] at h ⊢; exact ⟨h.1, fits_mono hnm x _ h.2.1, fits_mono hnm y _ h.2.2⟩
  | .cond _ x y, p, h => by simp only [fits, Bool.and_eq_true] at h ⊢; exact ⟨fits_mono hnm x _ h.1, fits_mono hnm y _ h.2⟩
  | .block _ c, p, h => fits_mono hnm c p h
  | .loop c, p, h => by simp only [fits, Bool.and_eq_true] at h ⊢; exact ⟨h.1, fits_mono hnm c _ h.2⟩
  | .rangeFunc _ ps x y, p, h => by
    simp only [fits, Bool.and_eq_true] at h ⊢
    refine ⟨?_, fits_mono hnm x _ h.2.1, fits_mono hnm y _ h.2.2⟩
    cases p with
    | cut A L a b =>
      simp only [Bool.and_eq_true] at h ⊢
      exact ⟨⟨h.1.1.1, ltL_mono hnm L h.1.1.2⟩, h.1.2⟩
    | z => rfl
    | n a b => rfl
  | .scope c, p, h => fits_mono hnm c p h
  | .skip, _, _ | .label _, _, _ | .exit _, _, _ | .goto _, _, _ | .ret, _, _ | .refuse _, _, _ => rfl

theorem args0_get : ∀ (l : List Value) (i : Nat), args0 l i = (l[i]?).getD undef
  | [], _ => rfl
  | v :: _, 0 => rfl
  | _ :: r, i + 1 => by simp only [args0, List.getElem?_cons_succ]; exact args0_get r i
theorem rep0 (args : Array Value) (k : Nat) : Rep (args ++ Array.replicate k undef).size { tmps := args ++ Array.replicate k undef, defers := [] } ⟨args0 args.toList, []⟩ := by
  refine ⟨rfl, rfl, fun i => ?_⟩
  show _ = args0 args.toList i
  rw [args0_get, Array.getD_eq_getD_getElem?]
  simp only [Array.getElem?_append, Array.getElem?_toList, Array.getElem?_replicate]
  by_cases h : i < args.size
  · rw [if_pos h]
  · rw [if_neg h, Array.getElem?_eq_none (xs := args) (by omega)]
    split <;> rfl

def resS (tmps : Array Value) : ResultVar → Sem Value
  | .tmp t => pure (tmps.getD t undef)
  | .cell p t => do loadVar t (← asAddr (tmps.getD p undef))
theorem resW_sound {n : Nat} {a : Act} {ρ : Env} (hr : Rep n a ρ) (w : World) : ∀ (l : List ResultVar) (K : List Value → Prop), resW P ρ w l K →
    ∃ vs, (l.mapM (resS a.tmps)).run P w = .ok vs w ∧ K vs
  | [], K, h => ⟨[], rfl, h⟩
  | .tmp t :: r, K, h => by
    obtain ⟨vs, hv, hk⟩ := resW_sound hr w r _ h
    refine ⟨_, ?_, hk⟩
    have e : (resS a.tmps (.tmp t)).run P w = .ok (ρ t) w := by simp only [resS, hr.get, Sem.run_pure]
    simp only [List.mapM_cons, Sem.run_bind, e, Sem.run_pure, Result.andThen_ok, hv]
  | .cell p t :: r, K, h => by
    obtain ⟨v, hv, hk⟩ := loadW_sound (P := P) (S := fun w' => w' = w) (fun p hp w' e => by subst e; exact hp) h
    obtain ⟨vs, hvs, hk⟩ := resW_sound hr w r _ hk
    refine ⟨_, ?_, hk⟩
    have hl := hv w rfl
    have hp : ∃ b, ρ p = .pointer (some b) := by
      unfold resW loadW at h
      split at h
      · rename_i hp
        obtain ⟨b, rfl, _⟩ := nlW_some h
        exact ⟨b, hp⟩
      · exact h.elim
    obtain ⟨b, hb⟩ := hp
    simp only [hb, Instr.loadAt, Instr.sureAddr, pure_bind] at hl
    have e : (resS a.tmps (.cell p t)).run P w = .ok v w := by simp only [resS, hr.get, hb, asAddr, pure_bind, hl]
    simp only [List.mapM_cons, Sem.run_bind, e, Sem.run_pure, Result.andThen_ok, hvs]
theorem results_sound {n : Nat} {a : Act} {ρ : Env} (hr : Rep n a ρ) (w : World) (fn : Func) (K : Value → Prop) (h : resW P ρ w fn.results.toList (fun vs => K (resK vs))) :
    ∃ v, (results fn a.tmps).run P w = .ok v w ∧ K v := by
  obtain ⟨vs, hv, hk⟩ := resW_sound hr w _ _ h
  refine ⟨_, ?_, hk⟩
  have e : results fn a.tmps = (do let vs ← fn.results.mapM (resS a.tmps); pure (if h : vs.size = 1 then vs[0] else .tuple vs) : Sem Value) :=
    congrArg (fun f : ResultVar → Sem Value => (do let vs ← fn.results.mapM f; pure (if h : vs.size = 1 then vs[0] else .tuple vs) : Sem Value)) (funext fun x => by cases x <;> rfl)
  rw [e, Array.mapM_eq_mapM_toList]
  simp only [Sem.run_bind, Sem.run_map, hv, Result.andThen_ok, Sem.run_pure]
  match vs with
  | [] => rfl
  | [v] => rfl
  | _ :: _ :: _ => rfl

theorem takeD_ok {w : World} {D : Nat} (h : w.heap[D]? = some (.deferred (some []))) : (Instr.takeDeferred D).run P w = .ok [] (w.putObj D (.deferred none)) := by
  simp [Instr.takeDeferred, getObj, setObj, Sem.run, h, World.putObj]
theorem leavesW_sound {n : Nat} {a : Act} {ρ : Env} (hr : Rep n a ρ) {fn : Func} {Q : Value → World → Prop} : ∀ (ds : List Deferred) (w : World), leavesW P fn Q ρ ds w → LeavesInM Fence.wide 0 P fn a.tmps (fun e w' => ∃ v, e = .returned v ∧ Q v w') ds .returning w
  | [], w, h => by
    obtain ⟨v, hv, hk⟩ := results_sound hr w fn (fun v => Q v w) h
    exact ⟨v, hv, v, rfl, hk⟩
  | d :: ds, w, h => by
    obtain ⟨target, dargs⟩ := d
    simp only [leavesW] at h
    refine ⟨by simp, ?_⟩
    split at h
    · rename_i D
      exact .inl ⟨D, _, rfl, takeD_ok h.1, leavesW_sound hr ds _ h.2⟩
    · rename_i f cap
      cases hp : plainFn P f with
      | false => rw [hp] at h; exact h.elim
      | true =>
        rw [hp] at h
        simp only [cond_true] at h
        obtain ⟨fn', hfn, hpn, hpb⟩ := plainFn_spec hp
        have e1 : dargs ++ cap = (dargs.toList ++ cap.toList).toArray := by apply Array.ext'; simp
        refine .inr ⟨fun hh => (by cases hh), .func f, cap, f, _, rfl, ?_, fun _ _ => trivial, CallsDIn.mono h ?_⟩
        · simp only [invoke, callFunc, Sem.run_bind, run_program, Result.andThen_ok, hfn, hpn, Bool.false_eq_true, if_false, hpb, Sem.run_pure, e1]
        · rintro e u w' ⟨⟨v, rfl⟩, rfl, hR⟩
          exact leavesW_sound hr ds w' hR
    · exact h.elim
theorem wFn_sound (hm : P.follows .mixedOrders = true) {fn : Func} {c : Code} (hc : fn.body = some c) {args : Array Value} {w : World} {Q : Value → World → Prop} (p : Plan)
    (hfit : fitsFn fn p = true) (h : wFn P fn p args.toList w Q) : c.wpIn Fence.wide 0 P (bodyPostM Fence.wide 0 P fn (fun e w' => ∃ v, e = .returned v ∧ Q v w')) { tmps := args ++ Array.replicate (fn.ntmps - args.size) undef, defers := [] } w := by
  unfold wFn at h
  unfold fitsFn at hfit
  rw [hc] at h hfit
  simp only at h hfit
  refine wpIn_mono (F := Fence.wide) (wCode_sound (r := none) (rd := false) hm (fun _ => rfl) c p (endE P fn Q) _ _ w (fun _ _ _ hq => hq) (fits_mono ?_ c p hfit) (rep0 args _) h) ?_
  · simp; omega
  · rintro e a w' ⟨ρ, hr, hq⟩
    cases e with
    | normal => show LeavesInM _ _ _ _ _ _ a.defers _ _; rw [hr.defers]; exact leavesW_sound hr _ _ hq
    | ret => show LeavesInM _ _ _ _ _ _ a.defers _ _; rw [hr.defers]; exact leavesW_sound hr _ _ hq
    | exit id => exact hq.elim
    | goto l => exact hq.elim
    | panic c => exact hq.elim
    | outgrown => exact hq.elim
/-- **A contract, by the walk's function.** -/
theorem calls_of_wFn (hm : P.follows .mixedOrders = true) {f : FuncId} {fn : Func} {args : Array Value} {w : World} {Q : Value → World → Prop} (p : Plan)
    (hf : P.funcs[f]? = some fn) (hfit : fitsFn fn p = true) (h : wFn P fn p args.toList w Q) : Calls P f args w (fun e w' => ∃ v, e = .returned v ∧ Q v w') := by
  cases hc : fn.body with
  | none => unfold wFn at h; rw [hc] at h; exact h.elim
  | some c => exact (callsIn_wide (n := 0)).1 (callsIn_of_wp_marks hf hc trivial (wFn_sound hm hc p hfit h))
/-- .. as a deferred call. -/
theorem callsR_of_wFnD (hm : P.follows .mixedOrders = true) {f : FuncId} {fn : Func} {args : Array Value} {w : World} {Q : Value → World → Prop} (p : Plan)
    (hf : P.funcs[f]? = some fn) (hfit : fitsFn fn p = true) (h : wFnD P fn p args.toList w Q) : CallsR P f args w (fun w' => ∃ v, Q v w') := by
  cases hc : fn.body with
  | none => unfold wFnD at h; rw [hc] at h; exact h.elim
  | some c =>
    unfold wFnD at h
    unfold fitsFn at hfit
    rw [hc] at h hfit
    simp only at h hfit
    have hret : ∀ (a : Act) (ρ : Env) (n : Nat) (w' : World), Rep n a ρ → (match ρ.d with | [] => resW P ρ w' fn.results.toList (fun vs => Q (resK vs) w') | _ => False) → a.defers = [] ∧ ∃ v, (results fn a.tmps).run P w' = .ok v w' ∧ ∃ v', (Ending.returned v = Ending.returned v') ∧ Q v' w' := fun a ρ n w' hr hq => by
      split at hq
      · rename_i hd
        obtain ⟨v, hv, hk⟩ := results_sound hr w' fn (fun v => Q v w') hq
        exact ⟨by rw [hr.defers, hd], v, hv, v, rfl, hk⟩
      · exact hq.elim
    have key := wpIn_mono (F := Fence.wide) (Q' := bodyPost P fn (fun e w' => ∃ v, e = .returned v ∧ Q v w')) (wCode_sound (r := none) (rd := false) hm (fun _ => rfl) c p (endD P fn Q) _ _ w (fun _ _ _ hq => hq) (fits_mono (m := (args ++ Array.replicate (fn.ntmps - args.size) undef).size) (by simp; omega) c p hfit) (rep0 args _) h) (by
      rintro e a w' ⟨ρ, hr, hq⟩
      cases e with
      | normal => exact hret a ρ _ w' hr hq
      | ret => exact hret a ρ _ w' hr hq
      | exit id => exact hq.elim
      | goto l => exact hq.elim
      | panic c => exact hq.elim
      | outgrown => exact hq.elim)
    refine CallsDIn.mono (callsDIn_of_wp hf hc trivial key) ?_
    rintro e u w' ⟨rfl, v, rfl, hk⟩
    exact ⟨⟨v, rfl⟩, rfl, v, hk⟩
end
end Go.Hx
