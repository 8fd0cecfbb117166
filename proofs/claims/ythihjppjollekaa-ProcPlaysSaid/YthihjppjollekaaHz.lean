/- The walk library is sound: where 'wFn' holds of a function, its call comes back and what it hands back and the world meet the post. No condition. -/
import Derived.Test.YthihjppjollekaaHy
set_option linter.unusedVariables false
namespace Go.Hx
open Go.RowKit
section
variable {P : Program}

theorem run_sizeOf_pos {t : TypeId} {n : Nat} (h : P.cellsOf t = n) (h0 : n ≠ 0) (w : World) : (sizeOf t).run P w = .ok n w := by
  rw [cells_info (by rw [h]; exact h0), h]
theorem run_storeVar_one {t : TypeId} {w : World} {a : Addr} {u v : Value} (hs : P.cellsOf t = 1) (hv : one v = true) (hc : w.cell? a = some u) (hf : w.frozen? a = false) :
    (storeVar t a v).run P w = .ok () (w.setCell a v) := by
  have hcs : v.cells = #[v] := by cases v <;> first | rfl | cases hv
  have ho : v.oneCell' = true := by cases v <;> first | rfl | cases hv
  unfold storeVar
  simp only [Sem.run_bind, hcs, run_sizeOf_pos hs (by omega), Result.andThen_ok]
  rw [if_neg (by simp)]
  simp only [storeCells, Addr.add_zero', Sem.run_bind, run_store P w a v _ ho, hc, hf, Bool.false_eq_true, if_false, Result.andThen_ok, Sem.run_pure]
theorem Room.keep {w : World} {a : Addr} {n : Nat} (h : RoomAt w a n) (b : Addr) (v : Value) : RoomAt (w.setCell b v) a n := by
  intro i hi
  obtain ⟨⟨u, hu⟩, hf⟩ := h i hi
  refine ⟨?_, by rw [World.frozen?_setCell]; exact hf⟩
  by_cases e : b = a.add i
  · subst e; exact ⟨v, World.cell?_setCell_same w _ v hu⟩
  · exact ⟨u, by rw [World.cell?_setCell_other w _ _ _ e]; exact hu⟩
theorem run_storeCells_stoL {a : Addr} {n : Nat} : ∀ (l : List Value) (i : Nat) (w : World), i + l.length ≤ n → (∀ c ∈ l, one c = true) → RoomAt w a n → (storeCells a l i).run P w = .ok () (stoL a l i w)
  | [], _, _, _, _, _ => rfl
  | v :: r, i, w, hn, hl, hr => by
    have ho : v.oneCell' = true := by
      have := hl v (by simp)
      cases v <;> first | rfl | cases this
    obtain ⟨⟨u, hu⟩, hf⟩ := hr i (by simp at hn; omega)
    simp only [storeCells, Sem.run_bind, run_store P w _ v _ ho, hu, hf, Bool.false_eq_true, if_false, Result.andThen_ok, stoL]
    exact run_storeCells_stoL r (i + 1) _ (by simp at hn ⊢; omega) (fun c hc => hl c (by simp [hc])) (Room.keep hr _ _)

theorem one_of {v : Value} (h : v.oneCell' = true) : one v = true := by
  cases v <;> first | rfl | cases h
theorem firstCells_row {size l c : Nat} {b : Option Addr} {olds : List Value} {w : World} (hl : olds.length = l * size) (hr : ∀ a, b = some a → RowAt w a olds.toArray) (h0 : b = none → l = 0) :
    (Builtin.firstCells size l (.slice b l c)).run P w = .ok olds.toArray w := by
  cases b with
  | none =>
    have : olds = [] := List.length_eq_zero_iff.1 (by rw [hl, h0 rfl, Nat.zero_mul])
    subst this
    exact run_firstCells_none w size l l c
  | some a =>
    exact run_firstCells_some w size l a l c olds hl fun j u hu => hr a rfl j u (by rw [List.getElem?_toArray]; exact hu)
theorem apnW_sound {t tx ty : TypeId} {s x : Value} {w : World} {K : Option Addr → Nat → Nat → World → Prop} (h : apnW P t tx s x w K) :
    ∃ b l c w', (Builtin.append_ #[t, tx] ty #[s, x]).run P w = .ok (.slice b l c) w' ∧ K b l c w' := by
  unfold apnW at h
  split at h
  · rename_i e hu
    split at h
    · rename_i i hi
      split at h
      · rename_i z hz
        obtain ⟨b, l, c, n, news, rfl, hs, h⟩ := h
        cases hb : Nat.ble (l + n) c with
        | true =>
          rw [hb] at h
          have hroom : l + n ≤ c := Nat.le_of_ble_eq_true hb
          rcases h with ⟨rfl, rfl, hk⟩ | ⟨a, rfl, hr, hk⟩
          · refine ⟨_, _, _, _, ?_, hk⟩
            rcases hs.kind with ⟨e', hk'⟩ | hk' <;> simp [Builtin.append_, run_underlying hu, run_underlying hk', sizeOf, typeInfo, hi, hs.len, hroom, hs.cells]
          · refine ⟨_, _, _, _, ?_, hk⟩
            have hst := run_storeCells_stoL (P := P) (n := news.length) news 0 w (by simp) (fun u hu => one_of (hs.one u hu)) hr
            rcases hs.kind with ⟨e', hk'⟩ | hk' <;> simp [Builtin.append_, run_underlying hu, run_underlying hk', sizeOf, typeInfo, hi, hs.len, hroom, hs.cells, hst]
        | false =>
          rw [hb] at h
          have hg : c < l + n := by
            apply Classical.byContradiction
            intro hh
            rw [Nat.ble_eq_true_of_le (by omega)] at hb; cases hb
          obtain ⟨olds, hl, hr, h0, h63, hfit, hk⟩ := h
          refine ⟨_, _, _, _, run_append_grow_src w t tx ty e i z hu hi hz b l c olds (firstCells_row (w := w.drew) hl hr h0) x n news hs hg h63 hfit, hk _ (grownCap_ge w (l + n) c e) (grownCap_le_maxLen w (l + n) c e)⟩
      · exact h.elim
    · exact h.elim
  · exact h.elim
theorem apnW_mono {t tx : TypeId} {s x : Value} {w : World} {K K' : Option Addr → Nat → Nat → World → Prop} (hK : ∀ b l c w, K b l c w → K' b l c w) (h : apnW P t tx s x w K) : apnW P t tx s x w K' := by
  unfold apnW at *
  split at h
  · split at h
    · split at h
      · obtain ⟨b, l, c, n, news, hs, hx, h⟩ := h
        refine ⟨b, l, c, n, news, hs, hx, cond_mono ?_ ?_ h⟩
        · rintro (⟨h1, h2, h3⟩ | ⟨a, h1, h2, h3⟩)
          · exact Or.inl ⟨h1, h2, hK _ _ _ _ h3⟩
          · exact Or.inr ⟨a, h1, h2, hK _ _ _ _ h3⟩
        · rintro ⟨olds, h1, h2, h3, h4, h5, h6⟩
          exact ⟨olds, h1, h2, h3, h4, h5, fun nc hn hm => hK _ _ _ _ (h6 nc hn hm)⟩
      · exact h
    · exact h
  · exact h
theorem wOp_sound {n : Nat} {a : Act} {ρ : Env} (hr : Rep n a ρ) {o : Oper} {w : World} {K : Value → World → Prop} {K' : Act → World → Prop} {Q : Exit → Act → World → Prop}
    (h : wOp P ρ o.op o.type w K) (hk : ∀ v w', K v w' → K' (a.put o.dst v) w') : o.wp P a w K' Q := by
  have rd : rOp P (fun p => p w) ρ o.op (fun v => K v w) → o.wp P a w K' Q := fun h => by
    obtain ⟨v, hv, hK⟩ := rOp_sound (P := P) (S := fun w' => w' = w) (fun p hp w' e => by subst e; exact hp) h
    unfold Oper.wp
    rw [hr.eval, hv w rfl]
    exact hk _ _ hK
  obtain ⟨dst, op, type, pos, after, guard⟩ := o
  cases op
  case alloc t =>
    simp only [wOp] at h
    cases hz : hasZ P t with
    | false => rw [hz] at h; exact h.elim
    | true =>
      rw [hz] at h
      unfold hasZ at hz
      split at hz
      · rename_i i hi
        cases hzz : i.zero with
        | none => rw [hzz] at hz; cases hz
        | some z =>
          have hzc : zc P t = z.cells := by unfold zc; rw [hi]; simp only [hzz]
          unfold Oper.wp
          have e : (execOp a.eval ⟨dst, .alloc t, type, pos, after, guard⟩).run P w = .ok (.value (.pointer (some ⟨w.heap.size, 0, none⟩))) (w.alloc (.cells (zc P t) t)) := by
            simp [execOp, Instr.alloc, zeroValue, run_typeInfo (P := P) w hi, hzz, newVar, newRow, hzc]
          rw [e]
          exact hk _ _ h
      · cases hz
  case box t x =>
    simp only [wOp] at h
    unfold Oper.wp
    have e : (execOp a.eval ⟨dst, .box t x, type, pos, after, guard⟩).run P w = .ok (.value (.pointer (some ⟨w.heap.size, 0, none⟩))) (w.alloc (.cells (opd ρ x).cells t)) := by
      rw [hr.eval]
      simp [execOp, Instr.box, newVar, newRow]
    rw [e]
    exact hk _ _ h
  case store t x v =>
    simp only [wOp, stoW, stA, stC] at h
    unfold Oper.wp
    rw [hr.eval]
    split at h
    · rename_i p hb
      obtain ⟨b, rfl, h⟩ := nlW_some h
      split at h
      · rename_i cs hcs
        cases hi : (P.info? t).isSome with
        | false => rw [hi] at h; exact h.elim
        | true =>
        rw [hi] at h
        obtain ⟨hs, ho, hroom, hK⟩ := h
        have e : (execOp (opd ρ) ⟨dst, .store t x v, type, pos, after, guard⟩).run P w = .ok .skip (stoL b cs.toList 0 w) := by
          simp only [execOp, Instr.storeAt, Instr.sureAddr, hb, hcs, storeVar, Value.cells, Sem.run_bind, Sem.run_pure, Result.andThen_ok, elem_info w hi]
          rw [if_neg (by simp [hs])]
          rw [run_storeCells_stoL (n := cs.size) cs.toList 0 w (by simp) ho hroom]
          rfl
        rw [e]
        exact hk _ _ hK
      · rename_i hna
        cases hc : Nat.beq (P.cellsOf t) 1 && one (opd ρ v) with
        | false => rw [hc] at h; exact h.elim
        | true =>
          rw [hc] at h
          simp only [Bool.and_eq_true] at hc
          obtain ⟨⟨u, hu⟩, hf, hK⟩ := h
          have e : (execOp (opd ρ) ⟨dst, .store t x v, type, pos, after, guard⟩).run P w = .ok .skip (w.setCell b (opd ρ v)) := by
            simp only [execOp, Instr.storeAt, Instr.sureAddr, hb, Sem.run_bind, Sem.run_pure, Result.andThen_ok, run_storeVar_one (Nat.eq_of_beq_eq_true hc.1) hc.2 hu hf]
          rw [e]
          exact hk _ _ hK
    · exact h.elim
  case buildSlice t len parts =>
    obtain ⟨cs, hb, h⟩ := h
    unfold Oper.wp
    have e : (execOp a.eval ⟨dst, .buildSlice t len parts, type, pos, after, guard⟩).run P w = .ok (.value (.slice (some ⟨w.heap.size, 0, none⟩) len len)) (w.alloc (.cells cs (P.elem t))) := by
      rw [hr.eval]
      have e : (parts.map fun (i, x) => (i, opd ρ x)) = (parts.toList.map fun p => (p.1, opd ρ p.2)).toArray := by apply Array.ext'; simp
      simp only [execOp, e, Sem.run_bind, hb w, Result.andThen_ok, Sem.run_pure]
    rw [e]
    exact hk _ _ h
  case call c =>
    obtain ⟨callee, args, argTypes⟩ := c
    cases callee with
    | builtin b =>
      cases b <;> simp only [wOp] at h <;> (try exact h.elim)
      case len => exact rd h
      case append =>
        split at h
        · rename_i s x t tx hs ht
          have ea : args = #[s, x] := by apply Array.ext'; exact hs
          have et : argTypes = #[t, tx] := by apply Array.ext'; exact ht
          subst ea et
          obtain ⟨b, l, c, w', hv, hK⟩ := apnW_sound (ty := type) h
          unfold Oper.wp
          have e : (execOp a.eval ⟨dst, .call ⟨.builtin .append, #[s, x], #[t, tx]⟩, type, pos, after, guard⟩).run P w = .ok (.value (.slice b l c)) w' := by
            rw [hr.eval]
            simp only [execOp, resolve, pure_bind, invoke, builtin, List.map_toArray, List.map_cons, List.map_nil, Sem.run_bind, hv, Result.andThen_ok, Sem.run_pure]
          rw [e]
          exact hk _ _ hK
        · exact h.elim
    | invoke r m => simp only [wOp] at h
    | value f =>
      simp only [wOp, calW, calV] at h
      split at h
      · rename_i g first captured hf
        cases hp : plainFn P g with
        | false => rw [hp] at h; exact h.elim
        | true =>
          rw [hp] at h
          unfold plainFn at hp
          split at hp
          · rename_i fn hfn
            simp only [Bool.and_eq_true, Bool.not_eq_true'] at hp
            have hfn' : P.funcs[g]? = some fn := by simpa using hfn
            unfold Oper.wp
            have e : (execOp a.eval ⟨dst, .call ⟨.value f, args, argTypes⟩, type, pos, after, guard⟩).run P w = .ok (.enter g (first.toList ++ args.toList.map (opd ρ) ++ captured.toList).toArray) w := by
              rw [hr.eval]
              have e1 : first ++ args.map (opd ρ) ++ captured = (first.toList ++ args.toList.map (opd ρ) ++ captured.toList).toArray := by apply Array.ext'; simp
              have hb : fn.body.isNone = false := by cases hbb : fn.body with | none => rw [hbb] at hp; cases hp.1 | some _ => rfl
              simp only [execOp, resolve, hf, Deferred.ofValue, pure_bind, invoke, callFunc, Sem.run_bind, run_program, Result.andThen_ok, hfn', hp.2, Bool.false_eq_true, if_false, hb, Sem.run_pure, e1]
            rw [e]
            refine Calls.mono h ?_
            intro e w' he
            obtain ⟨v, rfl, hK⟩ := exR_ex he
            exact hk _ _ hK
          · cases hp
      · exact h.elim
  all_goals exact rd h

theorem fitsOps_mem {n : Nat} : ∀ {l : List Oper}, fitsOps n l = true → ∀ o ∈ l, ∀ d, o.dst = some d → d < n
  | [], _, o, ho => by cases ho
  | x :: r, h, o, ho => by
    simp only [fitsOps, Bool.and_eq_true] at h
    intro d hd
    rcases List.mem_cons.1 ho with rfl | ho
    · have := h.1
      rw [hd] at this
      exact Nat.blt_eq.mp this
    · exact fitsOps_mem h.2 o ho d hd

/-- What a post over slots says of a frame. -/
def lift (n : Nat) (Q : Post) : Exit → Act → World → Prop := fun e a w => ∃ ρ, Rep n a ρ ∧ Q e ρ w

theorem upd_same {ρ : Env} {t : Nat} {v : Value} (h : ρ t = v) : upd ρ (some t) v = ρ := by
  funext i
  simp only [upd]
  cases hb : Nat.beq i t with
  | true => rw [Nat.eq_of_beq_eq_true hb, h]; rfl
  | false => rfl
/-- What a guarded operation comes to. -/
theorem grd_sound {n : Nat} {a : Act} {ρ : Env} (hr : Rep n a ρ) {ops : List Oper} {o : Oper} {j : Nat} {want : Bool} (hg : o.guard = some (j, want)) {yes no : Env → Prop} (h : grd ops j want ρ yes no) :
    (Region.wanted o (yielded ops.toArray a.tmps) = true ∧ yes ρ) ∨ (Region.wanted o (yielded ops.toArray a.tmps) = false ∧ no ρ) := by
  rw [sel_wanted hr ops o j want hg]
  unfold grd at h
  unfold slotOf
  split at h
  · split at h
    · rename_i t ht
      split at h
      · rename_i b hb
        rw [hb]
        cases b <;> cases want <;> simp only [cond_true, cond_false, upd_same hb] at h
        · exact .inl ⟨rfl, h⟩
        · exact .inr ⟨rfl, h⟩
        · exact .inr ⟨rfl, h⟩
        · exact .inl ⟨rfl, h⟩
      · rename_i hn
        refine .inr ⟨?_, h⟩
        unfold sel
        split
        · rename_i b hb; exact absurd hb (hn b)
        · rfl
    · exact .inr ⟨rfl, h⟩
  · exact .inr ⟨rfl, h⟩
theorem grd_mono {ops : List Oper} {j : Nat} {want : Bool} {ρ : Env} {yes no yes' no' : Env → Prop} (hy : ∀ b t, yes (upd ρ (some t) (.bool b)) → yes' (upd ρ (some t) (.bool b))) (hn : ∀ b t, no (upd ρ (some t) (.bool b)) → no' (upd ρ (some t) (.bool b)))
    (h0 : no ρ → no' ρ) (h : grd ops j want ρ yes no) : grd ops j want ρ yes' no' := by
  unfold grd at *
  split at h
  · split at h
    · split at h
      · exact cond_mono (cond_mono (hy _ _) (hn _ _)) (cond_mono (hn _ _) (hy _ _)) h
      · exact h0 h
    · exact h0 h
  · exact h0 h

theorem wOps_sound {n : Nat} {ops : List Oper} {Q : Exit → Act → World → Prop} {K : Env → World → Prop} (hQ : ∀ a ρ w, Rep n a ρ → K ρ w → Q .normal a w) :
    ∀ (l : List Oper) (a : Act) (ρ : Env) (w : World), fitsOps n l = true → Rep n a ρ → wOps P ops K l ρ w → wpList P ops.toArray Q l a w
  | [], a, ρ, w, _, hr, h => hQ a ρ w hr h
  | o :: rest, a, ρ, w, hf, hr, h => by
    have hd := fitsOps_mem hf o (by simp)
    have hf' : fitsOps n rest = true := by simp only [fitsOps, Bool.and_eq_true] at hf; exact hf.2
    simp only [wOps] at h
    unfold wpList
    split at h
    · rename_i hg
      rw [if_pos (by simp [Region.wanted, hg])]
      exact .inl (wOp_sound hr h fun v w' hK => wOps_sound hQ rest _ _ _ hf' (hr.put _ _ hd) hK)
    · rename_i j want hg
      rcases grd_sound hr hg h with ⟨hw, h⟩ | ⟨hw, h⟩
      · rw [if_pos hw]
        exact .inl (wOp_sound hr h fun v w' hK => wOps_sound hQ rest _ _ _ hf' (hr.put _ _ hd) hK)
      · rw [if_neg (by rw [hw]; simp)]
        exact wOps_sound hQ rest _ _ _ hf' (hr.put _ _ hd) h

theorem wOp_read {op : Op} (hi : isRead op = true) {ρ : Env} {ty : TypeId} {w : World} {K : Value → World → Prop} (h : wOp P ρ op ty w K) : rOp P (fun p => p w) ρ op (fun v => K v w) := by
  cases op
  case call c =>
    obtain ⟨callee, args, argTypes⟩ := c
    cases callee with
    | builtin b => cases b <;> first | exact h | cases hi
    | value f => cases hi
    | invoke r m => cases hi
  all_goals first | exact h | cases hi
/-- Reading operations in a world that stays. -/
theorem wOps_still {n : Nat} {ops : List Oper} {K : Env → World → Prop} {w : World} {Q : Act → Prop} (hQ : ∀ a ρ, Rep n a ρ → K ρ w → Q a) :
    ∀ (l : List Oper) (a : Act) (ρ : Env), fitsOps n l = true → allRead l = true → Rep n a ρ → wOps P ops K l ρ w → wpStill P ops.toArray w Q l a
  | [], a, ρ, _, _, hr, h => hQ a ρ hr h
  | o :: rest, a, ρ, hf, ha, hr, h => by
    have hd := fitsOps_mem hf o (by simp)
    have hf' : fitsOps n rest = true := by simp only [fitsOps, Bool.and_eq_true] at hf; exact hf.2
    simp only [allRead, Bool.and_eq_true] at ha
    have step : ∀ K' : Value → World → Prop, wOp P ρ o.op o.type w K' → ∀ N : Act → Prop, (∀ v, K' v w → N (a.put o.dst v)) → o.still P a w N := fun K' h N hN => by
      obtain ⟨v, hv, hK⟩ := rOp_sound (P := P) (S := fun w' => w' = w) (fun p hp w' e => by subst e; exact hp) (wOp_read ha.1 h)
      unfold Oper.still
      rw [hr.eval, hv w rfl]
      exact ⟨rfl, hN _ hK⟩
    simp only [wOps] at h
    unfold wpStill
    split at h
    · rename_i hg
      rw [if_pos (by simp [Region.wanted, hg])]
      exact step _ h _ fun v hK => wOps_still hQ rest _ _ hf' ha.2 (hr.put _ _ hd) hK
    · rename_i j want hg
      rcases grd_sound hr hg h with ⟨hw, h⟩ | ⟨hw, h⟩
      · rw [if_pos hw]
        exact step _ h _ fun v hK => wOps_still hQ rest _ _ hf' ha.2 (hr.put _ _ hd) hK
      · rw [if_neg (by rw [hw]; simp)]
        exact wOps_still hQ rest _ _ hf' ha.2 (hr.put _ _ hd) h

theorem findL_some {f : Nat → Bool} {i : Nat} : ∀ {l : List Nat}, findL f l = some i → i ∈ l ∧ f i = true
  | [], h => by cases h
  | x :: r, h => by
    simp only [findL] at h
    cases hf : f x with
    | true => rw [hf] at h; simp only [cond_true, Option.some.injEq] at h; subst h; exact ⟨by simp, hf⟩
    | false => rw [hf] at h; obtain ⟨h1, h2⟩ := findL_some h; exact ⟨by simp [h1], h2⟩
theorem allL_mem {f : Nat → Prop} : ∀ {l : List Nat}, allL f l → ∀ i ∈ l, f i
  | [], _, i, hi => by cases hi
  | [x], h, i, hi => by
    have : i = x := by simpa using hi
    subst this; exact h
  | x :: y :: r, h, i, hi => by
    rcases List.mem_cons.1 hi with rfl | hi
    · exact h.1
    · exact allL_mem (l := y :: r) h.2 i hi

/-- Lists that hold, with each operation, what must come up ahead of it. -/
structure ClosedL (ops : List Oper) (listed : Array Bool) : Prop where
  size : listed.size = ops.length
  deps : ∀ (j : Nat) (o : Oper), ops[j]? = some o → listed.getD j false = true → ∀ e ∈ o.after, Region.binds .any e = true → listed.getD e.on false = true
theorem ClosedL.op {ops : List Oper} {listed : Array Bool} (h : ClosedL ops listed) {j : Nat} (hj : listed.getD j false = true) : ∃ o, ops[j]? = some o := by
  have hlt : j < listed.size := by
    apply Classical.byContradiction
    intro hh
    rw [Array.getD_eq_getD_getElem?, Array.getElem?_eq_none (by omega)] at hj
    cases hj
  exact ⟨ops[j]'(by rw [← h.size]; exact hlt), List.getElem?_eq_getElem _⟩
theorem ClosedL.start (ops : List Oper) : ClosedL ops (Array.replicate ops.length false) :=
  ⟨by simp, fun j o _ hj => by
    exfalso
    rw [Array.getD_eq_getD_getElem?, Array.getElem?_replicate] at hj
    split at hj <;> cases hj⟩
theorem ClosedL.step {ops : List Oper} {listed : Array Bool} (h : ClosedL ops listed) {i : Nat} (hi : i ∈ Region.ready .any ops.toArray listed) : ClosedL ops (listed.setIfInBounds i true) :=
  ⟨by simp [h.size], fun j o ho hj e he hb => by
    obtain ⟨_, oi, hoi, hall⟩ := mem_ready.1 hi
    by_cases hij : i = j
    · subst hij
      have : o = oi := by
        rw [List.getElem?_toArray, ho] at hoi
        exact Option.some.inj hoi
      subst this
      exact getD_set_true (hall e he hb)
    · rw [getD_set_ne false hij] at hj
      exact getD_set_true (h.deps j o ho hj e he hb)⟩
theorem hasN_mem {i : Nat} : ∀ {l : List Nat}, hasN i l = true ↔ i ∈ l
  | [] => by simp [hasN]
  | j :: r => by
    rw [hasN, List.mem_cons]
    cases hb : Nat.beq i j with
    | true => simp [Nat.eq_of_beq_eq_true hb]
    | false =>
      have : i ≠ j := fun e => by rw [e] at hb; simp at hb
      simp [this, hasN_mem]
theorem insN_mem {i j : Nat} {l : List Nat} (h : i ∈ insN j l) : i = j ∨ i ∈ l := by
  unfold insN at h
  cases hb : hasN j l <;> rw [hb] at h
  · exact List.mem_cons.1 h
  · exact Or.inr h
theorem uniN_mem {i : Nat} : ∀ {k l : List Nat}, i ∈ uniN k l → i ∈ k ∨ i ∈ l
  | [], _, h => Or.inr h
  | x :: r, l, h => by
    rcases uniN_mem (k := r) h with h | h
    · exact Or.inl (List.mem_cons_of_mem _ h)
    · rcases insN_mem h with h | h
      · exact Or.inl (h ▸ List.mem_cons_self ..)
      · exact Or.inr h
theorem dropN_mem {A : List Nat} {i : Nat} : ∀ {l : List Nat}, i ∈ l → i ∉ A → i ∈ dropN A l
  | x :: r, h, hn => by
    rw [dropN]
    rcases List.mem_cons.1 h with rfl | h
    · have : hasN i A = false := by
        cases hb : hasN i A
        · rfl
        · exact absurd (hasN_mem.1 hb) hn
      rw [this]; exact List.mem_cons_self ..
    · cases hasN x A
      · exact List.mem_cons_of_mem _ (dropN_mem h hn)
      · exact dropN_mem h hn
theorem getN_get : ∀ (T : List (List Nat)) (j : Nat), getN T j = T.getD j []
  | [], j => by simp [getN]
  | _ :: _, 0 => rfl
  | _ :: r, n + 1 => by rw [getN, getN_get r n]; simp
/-- What the table of ancestors says. -/
def GoodT (ops : List Oper) (T : List (List Nat)) : Prop :=
  ∀ (j : Nat) (o : Oper), ops[j]? = some o → ∀ i ∈ getN T j, ∀ listed : Array Bool, ClosedL ops listed → (∀ e ∈ o.after, Region.binds .any e = true → listed.getD e.on false = true) → listed.getD i false = true
theorem ancE_good {ops : List Oper} {T : List (List Nat)} (hT : GoodT ops T) {listed : Array Bool} (hc : ClosedL ops listed) :
    ∀ (es : List Edge), (∀ e ∈ es, Region.binds .any e = true → listed.getD e.on false = true) → ∀ i ∈ ancE T es, listed.getD i false = true
  | [], _, i, hi => by cases hi
  | e :: r, hd, i, hi => by
    rw [ancE] at hi
    cases hb : Region.binds .any e with
    | false => rw [hb] at hi; exact ancE_good hT hc r (fun e' he' => hd e' (List.mem_cons_of_mem _ he')) i hi
    | true =>
      rw [hb] at hi
      have he := hd e (List.mem_cons_self ..) hb
      rcases insN_mem hi with rfl | hi
      · exact he
      · rcases uniN_mem hi with hi | hi
        · obtain ⟨o, ho⟩ := hc.op he
          exact hT e.on o ho i hi listed hc (hc.deps e.on o ho he)
        · exact ancE_good hT hc r (fun e' he' => hd e' (List.mem_cons_of_mem _ he')) i hi
theorem getN_app {x : List Nat} : ∀ (T : List (List Nat)) (j : Nat), getN (T ++ [x]) j = if j < T.length then getN T j else if j = T.length then x else []
  | [], 0 => by simp [getN]
  | [], n + 1 => by simp [getN]
  | y :: r, 0 => by simp [getN]
  | y :: r, n + 1 => by
    rw [List.cons_append, getN, getN_app r n, getN]
    simp
theorem ancT_good {ops : List Oper} : ∀ (r done : List Oper) (T : List (List Nat)), ops = done ++ r → T.length = done.length → GoodT ops T → GoodT ops (ancT r T)
  | [], _, _, _, _, h => h
  | o :: r, done, T, hd, hl, h => by
    rw [ancT]
    refine ancT_good r (done ++ [o]) _ (by rw [hd]; simp) (by simp [hl]) ?_
    intro j oj hj i hi listed hc hall
    rw [getN_app] at hi
    split at hi
    · exact h j oj hj i hi listed hc hall
    · split at hi
      · rename_i e
        have : oj = o := by
          rw [hd, e, hl, List.getElem?_append_right (Nat.le_refl _)] at hj
          simpa using hj.symm
        subst this
        exact ancE_good h hc oj.after.toList (fun e he hb => hall e (by simpa using he) hb) i hi
      · cases hi
theorem ancT_ok (ops : List Oper) : GoodT ops (ancT ops []) :=
  ancT_good ops [] [] rfl rfl fun j o _ i hi => by rw [getN] at hi; cases hi
/-- Whatever order is picked from here on; of the operations Ps that were taken first each has the worlds in which it yields what it was told to: behind every operation that may come up ahead of it such a world is to be shown. -/
def wpG (P : Program) (ops : List Oper) (T : List (List Nat)) (Q : Exit → Act → World → Prop) : Nat → List (Nat × (World → Prop)) → Array Bool → Act → World → Prop
  | 0, _, listed, a, w => Region.ready .any ops.toArray listed = [] ∧ Q .normal a w
  | f + 1, Ps, listed, a, w =>
    (Region.ready .any ops.toArray listed = [] → Q .normal a w) ∧
    ∀ j ∈ Region.ready .any ops.toArray listed, wpOp P ops.toArray Q j (fun a' w' => (∀ q ∈ Ps, hasN q.1 (getN T j) = false → q.2 w') ∧ wpG P ops T Q f (Ps.filter fun q => !hasN q.1 (getN T j)) (listed.setIfInBounds j true) a' w') a w
theorem wpG_any {ops : List Oper} {T : List (List Nat)} {Q : Exit → Act → World → Prop} : ∀ (f : Nat) (Ps : List (Nat × (World → Prop))) (listed : Array Bool) (a : Act) (w : World), wpG P ops T Q f Ps listed a w → wpAny P .any ops.toArray Q f listed a w
  | 0, _, _, _, _, h => h
  | f + 1, _, _, _, _, h => ⟨h.1, fun i hi => wpOp_mono (fun a' w' h' => wpG_any f _ _ a' w' h'.2) (h.2 i hi)⟩
theorem wpG_sub {ops : List Oper} {T : List (List Nat)} {Q : Exit → Act → World → Prop} : ∀ (f : Nat) (Ps Ps' : List (Nat × (World → Prop))) (listed : Array Bool) (a : Act) (w : World), (∀ q ∈ Ps', q ∈ Ps) → wpG P ops T Q f Ps listed a w → wpG P ops T Q f Ps' listed a w
  | 0, _, _, _, _, _, _, h => h
  | f + 1, Ps, Ps', _, _, _, hs, h => ⟨h.1, fun j hj => wpOp_mono (fun a' w' h' => ⟨fun q hq hn => h'.1 q (hs q hq) hn, wpG_sub f _ _ _ a' w' (fun q hq => by
      rw [List.mem_filter] at hq ⊢
      exact ⟨hs q hq.1, hq.2⟩) h'.2⟩) (h.2 j hj)⟩
theorem wpG_first {ops : List Oper} {T : List (List Nat)} (hT : GoodT ops T) {Q : Exit → Act → World → Prop} {i : Nat} {oi : Oper} {v : Value} {V : World → Prop} (hi : ops.toArray[i]? = some oi)
    (hsel : ∀ (j : Nat) (o : Oper) cs b, ops.toArray[j]? = some o → o.op ≠ .select cs b)
    (hQ : ∀ c a w, Q (.panic c) (a.put oi.dst v) w → Q (.panic c) a w) :
    ∀ (f : Nat) (Ps : List (Nat × (World → Prop))) (listed : Array Bool) (a : Act) (w : World), ClosedL ops listed →
      (∀ j oj, ops.toArray[j]? = some oj → j ≠ i → listed.getD j true = false → (∀ e ∈ oj.after, Region.binds .any e = true → e.on ≠ i) → oi.apart ops.toArray oj = true) →
      i ∈ Region.ready .any ops.toArray listed → YieldsIf P ops.toArray V oi v a → V w → (∀ q ∈ Ps, q.2 w) →
      wpG P ops T Q f ((i, V) :: Ps) (listed.setIfInBounds i true) (a.put oi.dst v) w → wpG P ops T Q (f + 1) Ps listed a w := by
  intro f
  induction f with
  | zero =>
    intro Ps listed a w hc _ hr hy hS hP H
    refine ⟨fun h => (by rw [h] at hr; cases hr), fun j hj => ?_⟩
    by_cases hji : j = i
    · subst hji; exact hy.wpOp hi hS ⟨fun q hq _ => hP q hq, H⟩
    · have := ready_mono hj hji
      rw [H.1] at this
      cases this
  | succ f ih =>
    intro Ps listed a w hc hfree hr hy hS hP H
    refine ⟨fun h => (by rw [h] at hr; cases hr), fun j hj => ?_⟩
    by_cases hji : j = i
    · subst hji
      refine hy.wpOp hi hS ⟨fun q hq _ => hP q hq, wpG_sub _ _ _ _ _ _ (fun q hq => List.mem_cons_of_mem _ (List.mem_filter.1 hq).1) H⟩
    · have h1 := H.2 j (ready_mono hj hji)
      obtain ⟨hjun, oj, hoj, hall⟩ := mem_ready.1 hj
      have hiun := (mem_ready.1 hr).1
      have hun : listed.getD i false = false := by
        rw [Array.getD_eq_getD_getElem?] at hiun ⊢
        cases he : listed[i]? with
        | none => rfl
        | some b => rw [he] at hiun; exact hiun
      have hnot : ∀ e ∈ oj.after, Region.binds .any e = true → e.on ≠ i := fun e he hb heq => by
        have h1 := hall e he hb
        rw [heq, hun] at h1; cases h1
      have hanc : hasN i (getN T j) = false := by
        cases hh : hasN i (getN T j)
        · rfl
        · have := hT j oj (by simpa using hoj) i (hasN_mem.1 hh) listed hc hall
          rw [hun] at this; cases this
      have h2 := wpOp_putIf hoj (hfree j oj hoj hji hjun hnot) (fun cs b => hsel i oi cs b hi) (fun cs b => hsel j oj cs b hoj) hQ hy h1
      have hfree' : ∀ k ok, ops.toArray[k]? = some ok → k ≠ i → (listed.setIfInBounds j true).getD k true = false →
          (∀ e ∈ ok.after, Region.binds .any e = true → e.on ≠ i) → oi.apart ops.toArray ok = true := fun k ok hk hki hun hno => by
        refine hfree k ok hk hki ?_ hno
        by_cases hjk : j = k
        · subst hjk; exact hjun
        · rw [getD_set_ne true hjk] at hun; exact hun
      refine wpOp_mono (fun a' w' h3 => ⟨fun q hq hn => h3.2.1 q (List.mem_cons_of_mem _ hq) hn, ih _ (listed.setIfInBounds j true) a' w' (hc.step hj) hfree' (ready_mono hr (Ne.symm hji)) h3.1 (h3.2.1 (i, V) (List.mem_cons_self ..) hanc)
        (fun q hq => by rw [List.mem_filter] at hq; exact h3.2.1 q (List.mem_cons_of_mem _ hq.1) (by simpa using hq.2)) ?_⟩) h2
      have h4 := h3.2.2
      rw [List.filter_cons, if_pos (by simp [hanc])] at h4
      rw [Array.setIfInBounds_comm _ _ hji]
      exact h4
/-- Of those that were taken first: they yield in all worlds, or they are loads of which the condition speaks. -/
def InvP (Ps : List (Nat × (World → Prop))) (S : World → Prop) (pend : List Nat) : Prop := ∀ q ∈ Ps, (∀ w, q.2 w) ∨ (q.1 ∈ pend ∧ ∀ w, S w → q.2 w)
theorem behR_sound {S : World → Prop} {pend A : List Nat} {w : World} {K : (World → Prop) → List Nat → Prop} (h : behR S (dropN A pend) w K) {Ps : List (Nat × (World → Prop))} (hI : InvP Ps S pend) :
    ∃ S' pend', S' w ∧ K S' pend' ∧ InvP (Ps.filter fun q => !hasN q.1 A) S' pend' ∧ (∀ q ∈ Ps, hasN q.1 A = false → q.2 w) := by
  have hin : ∀ q ∈ Ps, hasN q.1 A = false → (∀ w, q.2 w) ∨ (q.1 ∈ dropN A pend ∧ ∀ w, S w → q.2 w) := fun q hq hn => by
    rcases hI q hq with h1 | ⟨h1, h2⟩
    · exact Or.inl h1
    · exact Or.inr ⟨dropN_mem h1 (fun hm => by rw [hasN_mem.2 hm] at hn; cases hn), h2⟩
  unfold behR at h
  split at h
  · rename_i he
    obtain ⟨S', hS, hK⟩ := h
    refine ⟨S', [], hS, hK, fun q hq => ?_, fun q hq hn => ?_⟩
    · rw [List.mem_filter] at hq
      rcases hin q hq.1 (by simpa using hq.2) with h1 | ⟨h1, _⟩
      · exact Or.inl h1
      · rw [he] at h1; cases h1
    · rcases hin q hq hn with h1 | ⟨h1, _⟩
      · exact h1 w
      · rw [he] at h1; cases h1
  · obtain ⟨S', hs, hS, hK⟩ := h
    refine ⟨S', _, hS, hK, fun q hq => ?_, fun q hq hn => ?_⟩
    · rw [List.mem_filter] at hq
      rcases hin q hq.1 (by simpa using hq.2) with h1 | ⟨h1, h2⟩
      · exact Or.inl h1
      · exact Or.inr ⟨h1, fun w hw => h2 w (hs w hw)⟩
    · rcases hin q hq hn with h1 | ⟨_, h2⟩
      · exact h1 w
      · exact h2 w (hs w hS)
/-- What is no load yields whatever the world. -/
theorem rOp_free {at1 at2 : (World → Prop) → Prop} {ρ : Env} {o : Op} {K : Value → Prop} (hl : isLd o = false) (h : rOp P at1 ρ o K) : rOp P at2 ρ o K := by
  cases o
  case load => cases hl
  case call c =>
    obtain ⟨callee, args, argTypes⟩ := c
    cases callee with
    | builtin b => cases b <;> exact h
    | invoke r m => exact h
    | value f => exact h
  all_goals exact h
theorem wHeldR_sound {n : Nat} {ops : List Oper} {Q : Exit → Act → World → Prop} {K : Env → World → Prop} (hns : Region.noSelect ops.toArray = true)
    (hP : ∀ c a w, ¬ Q (.panic c) a w) (hQ : ∀ a ρ w, Rep n a ρ → K ρ w → Q .normal a w) (hf : fitsOps n ops = true) {T : List (List Nat)} (hT : GoodT ops T) :
    ∀ (f : Nat) (S : World → Prop) (pend : List Nat) (Ps : List (Nat × (World → Prop))) (listed : Array Bool) (a : Act) (ρ : Env) (w : World), ClosedL ops listed → S w → InvP Ps S pend → Rep n a ρ →
      wHeldR P ops T K f S pend listed ρ w → wpG P ops T Q f Ps listed a w
  | 0, S, pend, Ps, listed, a, ρ, w, _, _, _, hr, h => by
    simp only [wHeldR] at h
    split at h
    · rename_i hrd; exact ⟨hrd, hQ _ _ _ hr h⟩
    · exact h.elim
  | f + 1, S, pend, Ps, listed, a, ρ, w, hc, hS, hI, hr, h => by
    simp only [wHeldR] at h
    split at h
    · rename_i hrd; exact ⟨fun _ => hQ _ _ _ hr h, by rw [hrd]; simp⟩
    · rename_i i0 rs hrd
      have hPw : ∀ q ∈ Ps, q.2 w := fun q hq => by
        rcases hI q hq with h1 | ⟨_, h2⟩
        · exact h1 w
        · exact h2 w hS
      split at h
      · rename_i i hi
        obtain ⟨hmem, hfi⟩ := findL_some hi
        simp only [Bool.and_eq_true] at hfi
        have hmr : i ∈ Region.ready .any ops.toArray listed := by rw [hrd]; exact hmem
        split at h
        · rename_i o ho
          have hd : ∀ d, o.dst = some d → d < n := fitsOps_mem hf o (List.mem_of_getElem? ho)
          have ho' : ops.toArray[i]? = some o := by simpa using ho
          have take : ∀ (V : World → Prop) (v : Value) (pend' : List Nat), V w → YieldsIf P ops.toArray V o v a → InvP ((i, V) :: Ps) S pend' → wHeldR P ops T K f S pend' (listed.setIfInBounds i true) (upd ρ o.dst v) w → wpG P ops T Q (f + 1) Ps listed a w := fun V v pend' hV hy hI' hh =>
            wpG_first hT ho' (Region.noSelect_spec hns) (fun c a' w' hq => (hP _ _ _ hq).elim) f Ps listed a w hc (Region.free_spec ho' hfi.2) hmr hy hV hPw
              (wHeldR_sound hns hP hQ hf hT f S pend' _ _ _ _ _ (hc.step hmr) hS hI' (hr.put _ _ hd) hh)
          have one : ∀ (V : World → Prop) N, rOp P (fun p => ∀ w', V w' → p w') ρ o.op N → ∃ v, (∀ w', V w' → (execOp a.eval o).run P w' = .ok (.value v) w') ∧ N v := fun V N hN => by
            obtain ⟨v, hv, hk⟩ := rOp_sound (P := P) (S := V) (fun p hp w' hw => hp w' hw) hN
            exact ⟨v, fun w' hw => by rw [hr.eval]; exact hv w' hw, hk⟩
          have go : Region.wanted o (yielded ops.toArray a.tmps) = true → rOp P (fun p => ∀ w', S w' → p w') ρ o.op (fun v => wHeldR P ops T K f S (cond (isLd o.op) (i :: pend) pend) (listed.setIfInBounds i true) (upd ρ o.dst v) w) → wpG P ops T Q (f + 1) Ps listed a w := fun hw h => by
            cases hl : isLd o.op with
            | true =>
              rw [hl] at h
              obtain ⟨v, hv, hk⟩ := one S _ h
              refine take S v (i :: pend) hS (.inl ⟨hw, hv⟩) ?_ hk
              intro q hq
              rcases List.mem_cons.1 hq with rfl | hq
              · exact Or.inr ⟨List.mem_cons_self .., fun _ h => h⟩
              · rcases hI q hq with h1 | ⟨h1, h2⟩
                · exact Or.inl h1
                · exact Or.inr ⟨List.mem_cons_of_mem _ h1, h2⟩
            | false =>
              rw [hl] at h
              obtain ⟨v, hv, hk⟩ := one (fun _ => True) _ (rOp_free hl h)
              refine take (fun _ => True) v pend trivial (.inl ⟨hw, hv⟩) ?_ hk
              intro q hq
              rcases List.mem_cons.1 hq with rfl | hq
              · exact Or.inl fun _ => trivial
              · exact hI q hq
          split at h
          · rename_i hg
            exact go (by simp [Region.wanted, hg]) h
          · rename_i j want hg
            rcases grd_sound hr hg h with ⟨hw, h⟩ | ⟨hw, h⟩
            · exact go hw h
            · refine take (fun _ => True) undef pend trivial (.inr ⟨hw, rfl⟩) ?_ h
              intro q hq
              rcases List.mem_cons.1 hq with rfl | hq
              · exact Or.inl fun _ => trivial
              · exact hI q hq
        · exact h.elim
      · refine ⟨fun h0 => (by rw [hrd] at h0; cases h0), fun i hi => ?_⟩
        have hmr := hi
        rw [hrd] at hi
        have h1 := allL_mem h i hi
        split at h1
        · rename_i o ho
          have hd : ∀ d, o.dst = some d → d < n := fitsOps_mem hf o (List.mem_of_getElem? ho)
          have ho' : ops.toArray[i]? = some o := by simpa using ho
          have fin : ∀ (v : Value) (w' : World), behR S (dropN (getN T i) pend) w' (fun S pend => wHeldR P ops T K f S pend (listed.setIfInBounds i true) (upd ρ o.dst v) w') →
              (∀ q ∈ Ps, hasN q.1 (getN T i) = false → q.2 w') ∧ wpG P ops T Q f (Ps.filter fun q => !hasN q.1 (getN T i)) (listed.setIfInBounds i true) (a.put o.dst v) w' := fun v w' hb => by
            obtain ⟨S', pend', hS', hK', hI', hq'⟩ := behR_sound hb hI
            exact ⟨hq', wHeldR_sound hns hP hQ hf hT f S' pend' _ _ _ _ _ (hc.step hmr) hS' hI' (hr.put _ _ hd) hK'⟩
          unfold wpOp
          simp only [ho']
          split at h1
          · rename_i hg
            rw [if_pos (by simp [Region.wanted, hg])]
            exact .inl (wOp_sound hr h1 fun v w' hK => fin v w' hK)
          · rename_i j want hg
            rcases grd_sound hr hg h1 with ⟨hw, h1⟩ | ⟨hw, h1⟩
            · rw [if_pos hw]
              exact .inl (wOp_sound hr h1 fun v w' hK => fin v w' hK)
            · rw [if_neg (by rw [hw]; simp)]
              exact fin undef w h1
        · exact h1.elim
theorem wHeld_sound {n : Nat} {ops : List Oper} {S : World → Prop} {Q : Exit → Act → World → Prop} {K : Env → World → Prop} (hns : Region.noSelect ops.toArray = true)
    (hP : ∀ c a w, ¬ Q (.panic c) a w) (hQ : ∀ a ρ w, Rep n a ρ → K ρ w → Q .normal a w) (hf : fitsOps n ops = true) :
    ∀ (f : Nat) (listed : Array Bool) (a : Act) (ρ : Env) (w : World), S w → Rep n a ρ → wHeld P ops S K f listed ρ w → wpAnyH P .any ops.toArray Q S f listed a w
  | 0, listed, a, ρ, w, _, hr, h => by
    simp only [wHeld] at h
    split at h
    · rename_i hrd; exact ⟨hrd, hQ _ _ _ hr h⟩
    · exact h.elim
  | f + 1, listed, a, ρ, w, hS, hr, h => by
    simp only [wHeld] at h
    split at h
    · rename_i hrd; exact wpAnyH_done hrd (hQ _ _ _ hr h) _
    · rename_i i0 rs hrd
      split at h
      · rename_i i hi
        obtain ⟨hmem, hfi⟩ := findL_some hi
        simp only [Bool.and_eq_true] at hfi
        split at h
        · rename_i o ho
          have hd : ∀ d, o.dst = some d → d < n := fitsOps_mem hf o (List.mem_of_getElem? ho)
          have ho' : ops.toArray[i]? = some o := by simpa using ho
          have take : ∀ (v : Value), YieldsIf P ops.toArray S o v a → wHeld P ops S K f (listed.setIfInBounds i true) (upd ρ o.dst v) w → wpAnyH P .any ops.toArray Q S (f + 1) listed a w := fun v hy hh =>
            wpAnyH_take ho' hns hfi.2 (by rw [hrd]; simpa using hmem) (fun c a' w' hq => (hP _ _ _ hq).elim) hy hS (wHeld_sound hns hP hQ hf f _ _ _ _ hS (hr.put _ _ hd) hh)
          have rd : ∀ N, rOp P (fun p => ∀ w', S w' → p w') ρ o.op N → ∃ v, (∀ w', S w' → (execOp a.eval o).run P w' = .ok (.value v) w') ∧ N v := fun N hN => by
            obtain ⟨v, hv, hk⟩ := rOp_sound (P := P) (S := S) (fun p hp w' hw => hp w' hw) hN
            exact ⟨v, fun w' hw => by rw [hr.eval]; exact hv w' hw, hk⟩
          split at h
          · rename_i hg
            obtain ⟨v, hv, hk⟩ := rd _ h
            exact take v (.inl ⟨by simp [Region.wanted, hg], hv⟩) hk
          · rename_i j want hg
            rcases grd_sound hr hg h with ⟨hw, h⟩ | ⟨hw, h⟩
            · obtain ⟨v, hv, hk⟩ := rd _ h
              exact take v (.inl ⟨hw, hv⟩) hk
            · exact take undef (.inr ⟨hw, rfl⟩) h
        · exact h.elim
      · refine wpAnyH_all (rs := i0 :: rs) hrd (by simp) fun i hi => ?_
        have h1 := allL_mem h i hi
        split at h1
        · rename_i o ho
          have hd : ∀ d, o.dst = some d → d < n := fitsOps_mem hf o (List.mem_of_getElem? ho)
          have ho' : ops.toArray[i]? = some o := by simpa using ho
          unfold wpOp
          simp only [ho']
          split at h1
          · rename_i hg
            rw [if_pos (by simp [Region.wanted, hg])]
            exact .inl (wOp_sound hr h1 fun v w' hK => ⟨hK.1, wHeld_sound hns hP hQ hf f _ _ _ _ hK.1 (hr.put _ _ hd) hK.2⟩)
          · rename_i j want hg
            rcases grd_sound hr hg h1 with ⟨hw, h1⟩ | ⟨hw, h1⟩
            · rw [if_pos hw]
              exact .inl (wOp_sound hr h1 fun v w' hK => ⟨hK.1, wHeld_sound hns hP hQ hf f _ _ _ _ hK.1 (hr.put _ _ hd) hK.2⟩)
            · rw [if_neg (by rw [hw]; simp)]
              exact ⟨h1.1, wHeld_sound hns hP hQ hf f _ _ _ _ h1.1 (hr.put _ _ hd) h1.2⟩
        · exact h1.elim

theorem envOf_rep {n : Nat} {a : Act} {ρ : Env} (h : Rep n a ρ) : (fun i => a.tmps.getD i undef) = ρ := funext h.get

/-! ### What a code does not write stays -/
def Agree (A : List Nat) (ρ ρ' : Env) : Prop := ∀ i, elemN i A = false → ρ' i = ρ i
theorem Agree.refl (A : List Nat) (ρ : Env) : Agree A ρ ρ := fun _ _ => rfl
theorem Agree.upd {A : List Nat} {ρ ρ' : Env} (h : Agree A ρ ρ') {d : Option Tmp} (hd : ∀ t, d = some t → elemN t A = true) (v : Value) : Agree A ρ (upd ρ' d v) := by
  cases d with
  | none => exact h
  | some t =>
    intro i hi
    simp only [Hx.upd]
    cases hb : Nat.beq i t with
    | true =>
      have e := Nat.eq_of_beq_eq_true hb
      subst e
      rw [hd i rfl] at hi
      cases hi
    | false => exact h i hi
theorem Agree.same {A : List Nat} {ρ ρ' : Env} (h : Agree A ρ ρ') {t : Nat} {v : Value} (hv : ρ' t = v) : Agree A ρ (Hx.upd ρ' (some t) v) := by rw [upd_same hv]; exact h
theorem inAOps_mem {A : List Nat} : ∀ {l : List Oper}, inAOps A l = true → ∀ o ∈ l, ∀ d, o.dst = some d → elemN d A = true
  | [], _, o, ho => by cases ho
  | x :: r, h, o, ho => by
    simp only [inAOps, Bool.and_eq_true] at h
    intro d hd
    rcases List.mem_cons.1 ho with rfl | ho
    · have := h.1
      rw [hd] at this
      exact this
    · exact inAOps_mem h.2 o ho d hd
theorem wOp_mono {ρ : Env} {o : Op} {ty : TypeId} {w : World} {K K' : Value → World → Prop} (h : ∀ v w, K v w → K' v w) (hh : wOp P ρ o ty w K) : wOp P ρ o ty w K' := by
  have rd : rOp P (fun p => p w) ρ o (fun v => K v w) → rOp P (fun p => p w) ρ o (fun v => K' v w) := rOp_mono fun v => h v w
  cases o
  case alloc t => exact cond_mono (h _ _) id hh
  case box t x => exact h _ _ hh
  case store t x v =>
    simp only [wOp, stoW, stA, stC] at hh ⊢
    split at hh
    · refine nlW_mono (fun a ha => ?_) hh
      split at ha
      · exact cond_mono (fun ⟨h1, h2, h3, h4⟩ => ⟨h1, h2, h3, h _ _ h4⟩) id ha
      · exact cond_mono (fun ⟨h1, h2, h3⟩ => ⟨h1, h2, h _ _ h3⟩) id ha
    · exact hh
  case buildSlice t len parts =>
    obtain ⟨cs, hb, h'⟩ := hh
    exact ⟨cs, hb, h _ _ h'⟩
  case call c =>
    obtain ⟨callee, args, argTypes⟩ := c
    cases callee with
    | builtin b =>
      cases b <;> simp only [wOp] at hh ⊢ <;> (try exact rd hh)
      split at hh
      · exact apnW_mono (fun b l c w => h _ _) hh
      · exact hh
    | invoke r m => exact hh
    | value f =>
      simp only [wOp, calW, calV] at hh ⊢
      split at hh
      · exact cond_mono (fun hc => Calls.mono hc fun e w' he => exR_mono (fun v hv => ⟨hv.1, h _ _ hv.2⟩) he) id hh
      · exact hh
  all_goals exact rd hh
theorem grd_frame {A : List Nat} {ρ0 : Env} {ops : List Oper} {j : Nat} {want : Bool} {ρ : Env} (hA : Agree A ρ0 ρ) {yes no yes' no' : Env → Prop} (hy : ∀ ρ, Agree A ρ0 ρ → yes ρ → yes' ρ) (hn : ∀ ρ, Agree A ρ0 ρ → no ρ → no' ρ)
    (h : grd ops j want ρ yes no) : grd ops j want ρ yes' no' := by
  unfold grd at *
  split at h
  · split at h
    · split at h
      · rename_i b hb
        cases b
        · exact cond_mono (fun h => h) (cond_mono (hn _ (hA.same hb)) (hy _ (hA.same hb))) h
        · exact cond_mono (cond_mono (hy _ (hA.same hb)) (hn _ (hA.same hb))) (fun h => h) h
      · exact hn _ hA h
    · exact hn _ hA h
  · exact hn _ hA h
theorem wOps_frame {A : List Nat} {ρ0 : Env} {ops : List Oper} {K K' : Env → World → Prop} (hK : ∀ ρ w, Agree A ρ0 ρ → K ρ w → K' ρ w) :
    ∀ (l : List Oper) (ρ : Env) (w : World), inAOps A l = true → Agree A ρ0 ρ → wOps P ops K l ρ w → wOps P ops K' l ρ w
  | [], ρ, w, _, hA, h => hK ρ w hA h
  | o :: rest, ρ, w, hf, hA, h => by
    have hd := inAOps_mem hf o (by simp)
    have hf' : inAOps A rest = true := by simp only [inAOps, Bool.and_eq_true] at hf; exact hf.2
    simp only [wOps] at h ⊢
    split at h
    · rename_i hg
      exact wOp_mono (fun v w' => wOps_frame hK rest _ _ hf' (hA.upd hd v)) h
    · rename_i j want hg
      exact grd_frame hA (fun ρ hA => wOp_mono (fun v w' => wOps_frame hK rest _ _ hf' (hA.upd hd v))) (fun ρ hA => wOps_frame hK rest _ _ hf' (hA.upd hd _)) h
theorem allL_mono {f g : Nat → Prop} (h : ∀ i, f i → g i) : ∀ {l : List Nat}, allL f l → allL g l
  | [], _ => trivial
  | [x], hh => h x hh
  | x :: y :: r, hh => ⟨h x hh.1, allL_mono (l := y :: r) h hh.2⟩
theorem wHeld_frame {A : List Nat} {ρ0 : Env} {ops : List Oper} {S : World → Prop} {K K' : Env → World → Prop} (hK : ∀ ρ w, Agree A ρ0 ρ → K ρ w → K' ρ w) (hf : inAOps A ops = true) :
    ∀ (f : Nat) (listed : Array Bool) (ρ : Env) (w : World), Agree A ρ0 ρ → wHeld P ops S K f listed ρ w → wHeld P ops S K' f listed ρ w
  | 0, listed, ρ, w, hA, h => by
    simp only [wHeld] at h ⊢
    split at h
    · exact hK _ _ hA h
    · exact h
  | f + 1, listed, ρ, w, hA, h => by
    simp only [wHeld] at h ⊢
    split at h
    · exact hK _ _ hA h
    · split at h
      · split at h
        · rename_i o ho
          have hd := inAOps_mem hf o (List.mem_of_getElem? ho)
          split at h
          · exact rOp_mono (fun v => wHeld_frame hK hf f _ _ _ (hA.upd hd v)) h
          · exact grd_frame hA (fun ρ hA => rOp_mono fun v => wHeld_frame hK hf f _ _ _ (hA.upd hd v)) (fun ρ hA => wHeld_frame hK hf f _ _ _ (hA.upd hd _)) h
        · exact h
      · refine allL_mono (fun i hi => ?_) h
        split at hi
        · rename_i o ho
          have hd := inAOps_mem hf o (List.mem_of_getElem? ho)
          split at hi
          · exact wOp_mono (fun v w' hv => ⟨hv.1, wHeld_frame hK hf f _ _ _ (hA.upd hd v) hv.2⟩) hi
          · exact grd_frame hA (fun ρ hA => wOp_mono fun v w' hv => ⟨hv.1, wHeld_frame hK hf f _ _ _ (hA.upd hd v) hv.2⟩) (fun ρ hA hv => ⟨hv.1, wHeld_frame hK hf f _ _ _ (hA.upd hd _) hv.2⟩) hi
        · exact hi
theorem behR_mono {S : World → Prop} {pend : List Nat} {w : World} {K K' : (World → Prop) → List Nat → Prop} (hk : ∀ S p, K S p → K' S p) (h : behR S pend w K) : behR S pend w K' := by
  unfold behR at *
  split at h
  · obtain ⟨S', h1, h2⟩ := h; exact ⟨S', h1, hk _ _ h2⟩
  · obtain ⟨S', h0, h1, h2⟩ := h; exact ⟨S', h0, h1, hk _ _ h2⟩
theorem wHeldR_frame {A : List Nat} {ρ0 : Env} {ops : List Oper} {T : List (List Nat)} {K K' : Env → World → Prop} (hK : ∀ ρ w, Agree A ρ0 ρ → K ρ w → K' ρ w) (hf : inAOps A ops = true) :
    ∀ (f : Nat) (S : World → Prop) (pend : List Nat) (listed : Array Bool) (ρ : Env) (w : World), Agree A ρ0 ρ → wHeldR P ops T K f S pend listed ρ w → wHeldR P ops T K' f S pend listed ρ w
  | 0, S, pend, listed, ρ, w, hA, h => by
    simp only [wHeldR] at h ⊢
    split at h
    · exact hK _ _ hA h
    · exact h
  | f + 1, S, pend, listed, ρ, w, hA, h => by
    simp only [wHeldR] at h ⊢
    split at h
    · exact hK _ _ hA h
    · split at h
      · split at h
        · rename_i o ho
          have hd := inAOps_mem hf o (List.mem_of_getElem? ho)
          split at h
          · exact rOp_mono (fun v => wHeldR_frame hK hf f _ _ _ _ _ (hA.upd hd v)) h
          · exact grd_frame hA (fun ρ hA => rOp_mono fun v => wHeldR_frame hK hf f _ _ _ _ _ (hA.upd hd v)) (fun ρ hA => wHeldR_frame hK hf f _ _ _ _ _ (hA.upd hd _)) h
        · exact h
      · refine allL_mono (fun i hi => ?_) h
        split at hi
        · rename_i o ho
          have hd := inAOps_mem hf o (List.mem_of_getElem? ho)
          split at hi
          · exact wOp_mono (fun v w' hv => behR_mono (fun S p hh => wHeldR_frame hK hf f _ _ _ _ _ (hA.upd hd v) hh) hv) hi
          · exact grd_frame hA (fun ρ hA => wOp_mono fun v w' hv => behR_mono (fun S p hh => wHeldR_frame hK hf f _ _ _ _ _ (hA.upd hd v) hh) hv) (fun ρ hA hv => behR_mono (fun S p hh => wHeldR_frame hK hf f _ _ _ _ _ (hA.upd hd _) hh) hv) hi
        · exact hi
theorem wDraw_frame {A : List Nat} {ρ0 : Env} {R : Bool} {ops : List Oper} {K K' : Env → World → Prop} (hK : ∀ ρ w, Agree A ρ0 ρ → K ρ w → K' ρ w) (hf : inAOps A ops = true) (ρ : Env) (w : World) (hA : Agree A ρ0 ρ) (h : wDraw P R ops K ρ w) : wDraw P R ops K' ρ w := by
  unfold wDraw at *
  exact cond_mono (wOps_frame hK ops _ _ hf hA) (cond_mono (cond_mono (fun ⟨S, hS, h⟩ => ⟨S, hS, wHeldR_frame hK hf _ _ _ _ _ _ hA h⟩) (fun ⟨S, hS, h⟩ => ⟨S, hS, wHeld_frame hK hf _ _ _ _ hA h⟩)) id) h
theorem slots_ovr {ρ ρ' : Env} {A : List Nat} (hA : Agree A ρ ρ') : ∀ (L : List (Nat × Kd)) (t : Tup L), slots L ρ' = tv L t → ovr ρ ρ' A L t = ρ'
  | [], _, _ => by
    funext i
    simp only [ovr]
    cases h : elemN i A with
    | true => rfl
    | false => exact (hA i h).symm
  | k :: r, t, h => by
    simp only [slots, tv, List.cons.injEq] at h
    funext i
    simp only [ovr]
    cases hb : Nat.beq i k.1 with
    | true => rw [Nat.eq_of_beq_eq_true hb, h.1]; rfl
    | false => rw [slots_ovr hA r t.2 h.2]; rfl
theorem ovr_agree {ρ0 ρ junk : Env} {A B : List Nat} (hA : Agree B ρ0 ρ) (hAB : ∀ i, elemN i A = true → elemN i B = true) : ∀ (L : List (Nat × Kd)) (t : Tup L), (∀ k ∈ L, elemN k.1 B = true) → Agree B ρ0 (ovr ρ junk A L t)
  | [], _, _ => fun i hi => by
    simp only [ovr]
    cases h : elemN i A with
    | true => rw [hAB i h] at hi; cases hi
    | false => exact hA i hi
  | k :: r, t, hL => fun i hi => by
    simp only [ovr]
    cases hb : Nat.beq i k.1 with
    | true =>
      have e := Nat.eq_of_beq_eq_true hb
      rw [e, hL k (by simp)] at hi
      cases hi
    | false => exact ovr_agree hA hAB r t.2 (fun k hk => hL k (by simp [hk])) i hi
theorem subN_mem {B : List Nat} : ∀ {A : List Nat}, subN B A = true → ∀ i, elemN i A = true → elemN i B = true
  | [], _, i, h => by cases h
  | j :: r, hs, i, h => by
    simp only [subN, Bool.and_eq_true] at hs
    simp only [elemN] at h
    cases hb : Nat.beq i j with
    | true => rw [Nat.eq_of_beq_eq_true hb]; exact hs.1
    | false => rw [hb] at h; exact subN_mem hs.2 i h
theorem subL_mem {B : List Nat} : ∀ {L : List (Nat × Kd)}, subL B L = true → ∀ k ∈ L, elemN k.1 B = true
  | [], _, k, h => by cases h
  | j :: r, hs, k, h => by
    simp only [subL, Bool.and_eq_true] at hs
    rcases List.mem_cons.1 h with rfl | h
    · exact hs.1
    · exact subL_mem hs.2 k h
theorem thenE_frame {B : List Nat} {ρ0 : Env} {N N' : Env → World → Prop} {Q Q' : Post} (hN : ∀ ρ w, Agree B ρ0 ρ → N ρ w → N' ρ w) (hQ : ∀ e ρ w, Agree B ρ0 ρ → Q e ρ w → Q' e ρ w) :
    ∀ e ρ w, Agree B ρ0 ρ → thenE N Q e ρ w → thenE N' Q' e ρ w
  | .normal, _, _, hA, h => hN _ _ hA h
  | .exit _, _, _, hA, h => hQ _ _ _ hA h
  | .goto _, _, _, hA, h => hQ _ _ _ hA h
  | .ret, _, _, hA, h => hQ _ _ _ hA h
  | .panic _, _, _, hA, h => hQ _ _ _ hA h
  | .outgrown, _, _, hA, h => hQ _ _ _ hA h
theorem inE_frame {B : List Nat} {ρ0 : Env} {id : Nat} {Q Q' : Post} (hQ : ∀ e ρ w, Agree B ρ0 ρ → Q e ρ w → Q' e ρ w) :
    ∀ e ρ w, Agree B ρ0 ρ → inE id Q e ρ w → inE id Q' e ρ w
  | .normal, _, _, hA, h => hQ _ _ _ hA h
  | .exit id', _, _, hA, h => by
    simp only [inE] at h ⊢
    cases hb : Nat.beq id' id with
    | true => rw [hb] at h; exact hQ _ _ _ hA h
    | false => rw [hb] at h; exact hQ _ _ _ hA h
  | .goto _, _, _, hA, h => hQ _ _ _ hA h
  | .ret, _, _, hA, h => hQ _ _ _ hA h
  | .panic _, _, _, hA, h => hQ _ _ _ hA h
  | .outgrown, _, _, hA, h => hQ _ _ _ hA h
/-- A code keeps the slots that it does not write. -/
theorem wCode_frame {B : List Nat} {ρ0 : Env} : ∀ (c : Code) (p : Plan) (Q Q' : Post) (ρ : Env) (w : World), inA B c p = true → (∀ e ρ w, Agree B ρ0 ρ → Q e ρ w → Q' e ρ w) → Agree B ρ0 ρ → wCode P c p Q ρ w → wCode P c p Q' ρ w
  | .skip, _, Q, Q', ρ, w, _, hQ, hA, h => hQ _ _ _ hA h
  | .label _, _, Q, Q', ρ, w, _, hQ, hA, h => hQ _ _ _ hA h
  | .exit _, _, Q, Q', ρ, w, _, hQ, hA, h => hQ _ _ _ hA h
  | .goto _, _, Q, Q', ρ, w, _, hQ, hA, h => hQ _ _ _ hA h
  | .ret, _, Q, Q', ρ, w, _, hQ, hA, h => hQ _ _ _ hA h
  | .region _ ops draw, _, Q, Q', ρ, w, hf, hQ, hA, h => by
    simp only [wCode] at h ⊢
    exact cond_mono (wDraw_frame (fun ρ w => hQ _ ρ w) hf ρ w hA) (wOps_frame (fun ρ w => hQ _ ρ w) _ _ _ hf hA) h
  | .seq x y, p, Q, Q', ρ, w, hf, hQ, hA, h => by
    simp only [inA, Bool.and_eq_true] at hf
    obtain ⟨hp, hfx, hfy⟩ := hf
    cases p with
    | z => exact wCode_frame x _ _ _ ρ w hfx (thenE_frame (fun ρ w hA => wCode_frame y _ _ _ ρ w hfy hQ hA) hQ) hA h
    | n a b => exact wCode_frame x _ _ _ ρ w hfx (thenE_frame (fun ρ w hA => wCode_frame y _ _ _ ρ w hfy hQ hA) hQ) hA h
    | cut A L a b =>
      simp only [Plan.inB, Bool.and_eq_true] at hp
      simp only [wCode] at h ⊢
      obtain ⟨J, hJ, hx⟩ := h
      exact ⟨J, fun junk t w hj => wCode_frame y b _ _ _ w hfy hQ (ovr_agree hA (subN_mem hp.1) L t (subL_mem hp.2)) (hJ junk t w hj),
        wCode_frame x a _ _ ρ w hfx (thenE_frame (fun _ _ _ h => h) hQ) hA hx⟩
  | .cond c x y, p, Q, Q', ρ, w, hf, hQ, hA, h => by
    simp only [inA, Bool.and_eq_true] at hf
    simp only [wCode, cndW] at h ⊢
    split at h
    · exact cond_mono (wCode_frame x _ _ _ _ _ hf.1 hQ hA) (wCode_frame y _ _ _ _ _ hf.2 hQ hA) h
    · exact h
  | .block id c, p, Q, Q', ρ, w, hf, hQ, hA, h => wCode_frame c p _ _ ρ w hf (inE_frame hQ) hA h
  | .loop c, p, Q, Q', ρ, w, hf, hQ, hA, h => by
    simp only [inA, Bool.and_eq_true] at hf
    obtain ⟨hp, hfc⟩ := hf
    cases p with
    | z => exact h.elim
    | n a b => exact h.elim
    | cut A L a b =>
      simp only [Plan.inB, Bool.and_eq_true] at hp
      simp only [wCode] at h ⊢
      obtain ⟨I, μ, h0, hround⟩ := h
      exact ⟨I, μ, h0, fun junk t w hI => wCode_frame c a _ _ _ w hfc (thenE_frame (fun _ _ _ h => h) hQ) (ovr_agree hA (subN_mem hp.1) L t (subL_mem hp.2)) (hround junk t w hI)⟩
  | .rangeFunc _ _ _ _, _, Q, Q', ρ, w, _, _, _, h => h.elim
  | .scope _, _, Q, Q', ρ, w, _, _, _, h => h.elim
  | .refuse _, _, Q, Q', ρ, w, _, _, _, h => h.elim

theorem wCode_sound {n : Nat} (hm : P.follows .mixedOrders = true) : ∀ (c : Code) (p : Plan) (Q : Post) (a : Act) (ρ : Env) (w : World), (∀ ch ρ w, ¬ Q (.panic ch) ρ w) → fits n c p = true → Rep n a ρ → wCode P c p Q ρ w → c.wp P (lift n Q) a w
  | .skip, _, Q, a, ρ, w, _, _, hr, h => wp_skip ⟨ρ, hr, h⟩
  | .label l, _, Q, a, ρ, w, _, _, hr, h => wp_label ⟨ρ, hr, h⟩
  | .exit id, _, Q, a, ρ, w, _, _, hr, h => wp_exit ⟨ρ, hr, h⟩
  | .goto l, _, Q, a, ρ, w, _, _, hr, h => wp_goto ⟨ρ, hr, h⟩
  | .ret, _, Q, a, ρ, w, _, _, hr, h => wp_ret ⟨ρ, hr, h⟩
  | .region id ops draw, p, Q, a, ρ, w, hP, hf, hr, h => by
    simp only [wCode] at h
    simp only [fits] at hf
    cases draw with
    | false =>
      simp only [cond_false] at h
      refine wp_region_list ?_
      have := wOps_sound (P := P) (n := n) (Q := lift n Q) (fun a ρ w hr hK => ⟨ρ, hr, hK⟩) ops.toList a ρ w hf hr h
      simpa using this
    | true =>
      simp only [cond_true, wDraw] at h
      cases hc : allRead ops.toList && Region.lexB .any ops.toList.toArray with
      | true =>
        rw [hc] at h
        simp only [Bool.and_eq_true, Array.toArray_toList] at hc
        refine wp_region_still hm hc.2 ?_
        have := wOps_still (P := P) (n := n) (w := w.drew) (Q := fun a' => lift n Q .normal a' w.drew) (fun a ρ hr hK => ⟨ρ, hr, hK⟩) ops.toList a ρ hf hc.1 hr h
        simpa using this
      | false =>
        rw [hc] at h
        simp only [cond_false] at h
        cases hn : Region.noSelect ops.toList.toArray with
        | false => rw [hn] at h; exact h.elim
        | true =>
          rw [hn] at h
          cases hR : p.isN with
          | true =>
            rw [hR] at h
            obtain ⟨S, hS, h⟩ := h
            have key := wpG_any _ _ _ _ _ (wHeldR_sound (P := P) (n := n) (Q := lift n Q) hn (fun c a w ⟨ρ, _, hq⟩ => hP _ _ _ hq) (fun a ρ w hr hK => ⟨ρ, hr, hK⟩) hf (ancT_ok ops.toList) ops.toList.length S [] [] _ a ρ w.drew (ClosedL.start _) hS (fun q hq => by cases hq) hr h)
            refine wp_region_any hm ?_
            simpa using key
          | false =>
            rw [hR] at h
            obtain ⟨S, hS, h⟩ := h
            refine wp_region_held (S := S) hm ?_
            have := wHeld_sound (P := P) (n := n) (Q := lift n Q) hn (fun c a w ⟨ρ, _, hq⟩ => hP _ _ _ hq) (fun a ρ w hr hK => ⟨ρ, hr, hK⟩) hf ops.toList.length _ a ρ w.drew hS hr h
            simpa using this
  | .seq x y, p, Q, a, ρ, w, hP, hf, hr, h => by
    simp only [fits, Bool.and_eq_true] at hf
    obtain ⟨hc, hfx, hfy⟩ := hf
    have plain : wCode P x p.l (thenE (wCode P y p.r Q) Q) ρ w → (Code.seq x y).wp P (lift n Q) a w := fun h => by
      refine wp_seq (wp_mono (wCode_sound hm x p.l _ a ρ w (by intro ch ρ w; exact hP ch ρ w) hfx hr h) ?_)
      rintro e a w ⟨ρ, hr, hq⟩
      cases e with
      | normal => exact wCode_sound hm y p.r Q a ρ w hP hfy hr hq
      | exit id => exact ⟨ρ, hr, hq⟩
      | goto l => exact ⟨ρ, hr, hq⟩
      | ret => exact ⟨ρ, hr, hq⟩
      | panic c => exact ⟨ρ, hr, hq⟩
      | outgrown => exact ⟨ρ, hr, hq⟩
    cases p with
    | z => exact plain h
    | n a b => exact plain h
    | cut A L a' b =>
      simp only [Bool.and_eq_true] at hc
      simp only [wCode] at h
      obtain ⟨J, hJ, hx⟩ := h
      have hx' := wCode_frame (P := P) (B := A) (ρ0 := ρ) x a' _ (thenE (fun ρ' w' => ∃ t : Tup L, slots L ρ' = tv L t ∧ J t w' ∧ Agree A ρ ρ') Q) ρ w hc.2
        (thenE_frame (fun ρ' w' hA ⟨t, ht, hj⟩ => ⟨t, ht, hj, hA⟩) (fun _ _ _ _ h => h)) (Agree.refl _ _) hx
      refine wp_seq (wp_mono (wCode_sound hm x a' _ a ρ w (by intro ch ρ w; exact hP ch ρ w) hfx hr hx') ?_)
      rintro e a w ⟨ρ', hr, hq⟩
      cases e with
      | normal =>
        obtain ⟨t, ht, hj, hA⟩ := hq
        have := hJ ρ' t w hj
        rw [slots_ovr hA L t ht] at this
        exact wCode_sound hm y b Q a ρ' w hP hfy hr this
      | exit id => exact ⟨ρ', hr, hq⟩
      | goto l => exact ⟨ρ', hr, hq⟩
      | ret => exact ⟨ρ', hr, hq⟩
      | panic c => exact ⟨ρ', hr, hq⟩
      | outgrown => exact ⟨ρ', hr, hq⟩
  | .cond c x y, p, Q, a, ρ, w, hP, hf, hr, h => by
    simp only [fits, Bool.and_eq_true] at hf
    simp only [wCode, cndW] at h
    split at h
    · rename_i t ht
      refine wp_cond (t := t) (by rw [hr.eval]; exact ht) ?_
      cases t with
      | true => exact wCode_sound hm x p.l Q a ρ w hP hf.1 hr h
      | false => exact wCode_sound hm y p.r Q a ρ w hP hf.2 hr h
    · exact h.elim
  | .block id c, p, Q, a, ρ, w, hP, hf, hr, h => by
    refine wp_block (wp_mono (wCode_sound hm c p _ a ρ w ?_ hf hr h) ?_)
    · intro ch ρ w; exact hP ch ρ w
    · rintro e a w ⟨ρ, hr, hq⟩
      cases e with
      | exit id' =>
        simp only [inE] at hq
        simp only [Exit.inBlock]
        by_cases e : id' = id
        · subst e
          rw [if_pos rfl]
          simp only [Nat.beq_refl, cond_true] at hq
          exact ⟨ρ, hr, hq⟩
        · rw [if_neg e]
          cases hb : Nat.beq id' id with
          | true => exact absurd (Nat.eq_of_beq_eq_true hb) e
          | false => rw [hb] at hq; exact ⟨ρ, hr, hq⟩
      | normal => exact ⟨ρ, hr, hq⟩
      | goto l => exact ⟨ρ, hr, hq⟩
      | ret => exact ⟨ρ, hr, hq⟩
      | panic c => exact ⟨ρ, hr, hq⟩
      | outgrown => exact ⟨ρ, hr, hq⟩
  | .loop c, p, Q, a, ρ, w, hP, hf, hr, h => by
    simp only [fits, Bool.and_eq_true] at hf
    obtain ⟨hc, hfc⟩ := hf
    cases p with
    | z => exact h.elim
    | n a b => exact h.elim
    | cut A L a' b =>
      simp only [Bool.and_eq_true] at hc
      simp only [wCode] at h
      obtain ⟨I, μ, ⟨t0, ht0, hI0⟩, hround⟩ := h
      refine wp_loop_ghost (fun m a w => ∃ ρ' t, Rep n a ρ' ∧ Agree A ρ ρ' ∧ slots L ρ' = tv L t ∧ I t w ∧ μ t w = m) (μ t0 w) ⟨ρ, t0, hr, Agree.refl _ _, ht0, hI0, rfl⟩ ?_
      rintro m a w ⟨ρ1, t, hr1, hA1, ht, hI, rfl⟩
      have h1 := hround ρ1 t w hI
      rw [slots_ovr hA1 L t ht] at h1
      have h2 := wCode_frame (P := P) (B := A) (ρ0 := ρ) c a' _ (thenE (fun ρ' w' => ∃ t' : Tup L, slots L ρ' = tv L t' ∧ I t' w' ∧ μ t' w' < μ t w ∧ Agree A ρ ρ') Q) ρ1 w hc.2
        (thenE_frame (fun ρ' w' hA ⟨t', h1, h2, h3⟩ => ⟨t', h1, h2, h3, hA⟩) (fun _ _ _ _ h => h)) hA1 h1
      refine wp_mono (wCode_sound hm c a' _ a ρ1 w (by intro ch ρ w; exact hP ch ρ w) hfc hr1 h2) ?_
      rintro e a' w' ⟨ρ', hr', hq⟩
      cases e with
      | normal =>
        obtain ⟨t', h3, h4, h5, h6⟩ := hq
        exact ⟨μ t' w', h5, ρ', t', hr', h6, h3, h4, rfl⟩
      | exit id => exact ⟨ρ', hr', hq⟩
      | goto l => exact ⟨ρ', hr', hq⟩
      | ret => exact ⟨ρ', hr', hq⟩
      | panic c => exact ⟨ρ', hr', hq⟩
      | outgrown => exact ⟨ρ', hr', hq⟩
  | .rangeFunc _ _ _ _, _, Q, a, ρ, w, _, _, hr, h => h.elim
  | .scope _, _, Q, a, ρ, w, _, _, hr, h => h.elim
  | .refuse _, _, Q, a, ρ, w, _, _, hr, h => h.elim

theorem fitsOps_mono {n m : Nat} (hnm : n ≤ m) : ∀ (l : List Oper), fitsOps n l = true → fitsOps m l = true
  | [], _ => rfl
  | o :: r, h => by
    simp only [fitsOps, Bool.and_eq_true] at h ⊢
    refine ⟨?_, fitsOps_mono hnm r h.2⟩
    have := h.1
    split at this
    · exact Nat.blt_eq.mpr (Nat.lt_of_lt_of_le (Nat.blt_eq.mp this) hnm)
    · rfl
theorem fits_mono {n m : Nat} (hnm : n ≤ m) : ∀ (c : Code) (p : Plan), fits n c p = true → fits m c p = true
  | .region _ ops _, _, h => fitsOps_mono hnm _ h
  | .seq x y, p, h => by simp only [fits, Bool.and_eq_true] at h ⊢; exact ⟨h.1, fits_mono hnm x _ h.2.1, fits_mono hnm y _ h.2.2⟩
  | .cond _ x y, p, h => by simp only [fits, Bool.and_eq_true] at h ⊢; exact ⟨fits_mono hnm x _ h.1, fits_mono hnm y _ h.2⟩
  | .block _ c, p, h => fits_mono hnm c p h
  | .loop c, p, h => by simp only [fits, Bool.and_eq_true] at h ⊢; exact ⟨h.1, fits_mono hnm c _ h.2⟩
  | .skip, _, _ | .label _, _, _ | .exit _, _, _ | .goto _, _, _ | .ret, _, _ | .rangeFunc _ _ _ _, _, _ | .scope _, _, _ | .refuse _, _, _ => rfl

theorem args0_get : ∀ (l : List Value) (i : Nat), args0 l i = (l[i]?).getD undef
  | [], _ => rfl
  | v :: _, 0 => rfl
  | _ :: r, i + 1 => by simp only [args0, List.getElem?_cons_succ]; exact args0_get r i
theorem rep0 (args : Array Value) (k : Nat) : Rep (args ++ Array.replicate k undef).size { tmps := args ++ Array.replicate k undef, defers := [] } (args0 args.toList) := by
  refine ⟨rfl, rfl, fun i => ?_⟩
  rw [args0_get, Array.getD_eq_getD_getElem?]
  simp only [Array.getElem?_append, Array.getElem?_toList, Array.getElem?_replicate]
  by_cases h : i < args.size
  · rw [if_pos h]
  · rw [if_neg h, Array.getElem?_eq_none (xs := args) (by omega)]
    split <;> rfl

def resS (tmps : Array Value) : ResultVar → Sem Value
  | .tmp t => pure (tmps.getD t undef)
  | .cell p t => do loadVar t (← asAddr (tmps.getD p undef))
theorem resW_sound {n : Nat} {a : Act} {ρ : Env} (hr : Rep n a ρ) (w : World) : ∀ (l : List ResultVar) (K : List Value → Prop), resW P ρ w l K →
    ∃ vs, (l.mapM (resS a.tmps)).run P w = .ok vs w ∧ K vs
  | [], K, h => ⟨[], rfl, h⟩
  | .tmp t :: r, K, h => by
    obtain ⟨vs, hv, hk⟩ := resW_sound hr w r _ h
    refine ⟨_, ?_, hk⟩
    have e : (resS a.tmps (.tmp t)).run P w = .ok (ρ t) w := by simp only [resS, hr.get, Sem.run_pure]
    simp only [List.mapM_cons, Sem.run_bind, e, Sem.run_pure, Result.andThen_ok, hv]
  | .cell p t :: r, K, h => by
    obtain ⟨v, hv, hk⟩ := loadW_sound (P := P) (S := fun w' => w' = w) (fun p hp w' e => by subst e; exact hp) h
    obtain ⟨vs, hvs, hk⟩ := resW_sound hr w r _ hk
    refine ⟨_, ?_, hk⟩
    have hl := hv w rfl
    have hp : ∃ b, ρ p = .pointer (some b) := by
      unfold resW loadW at h
      split at h
      · rename_i hp
        obtain ⟨b, rfl, _⟩ := nlW_some h
        exact ⟨b, hp⟩
      · exact h.elim
    obtain ⟨b, hb⟩ := hp
    simp only [hb, Instr.loadAt, Instr.sureAddr, pure_bind] at hl
    have e : (resS a.tmps (.cell p t)).run P w = .ok v w := by simp only [resS, hr.get, hb, asAddr, pure_bind, hl]
    simp only [List.mapM_cons, Sem.run_bind, e, Sem.run_pure, Result.andThen_ok, hvs]
theorem results_sound {n : Nat} {a : Act} {ρ : Env} (hr : Rep n a ρ) (w : World) (fn : Func) (K : Value → Prop) (h : resW P ρ w fn.results.toList (fun vs => K (resK vs))) :
    ∃ v, (results fn a.tmps).run P w = .ok v w ∧ K v := by
  obtain ⟨vs, hv, hk⟩ := resW_sound hr w _ _ h
  refine ⟨_, ?_, hk⟩
  have e : results fn a.tmps = (do let vs ← fn.results.mapM (resS a.tmps); pure (if h : vs.size = 1 then vs[0] else .tuple vs) : Sem Value) :=
    congrArg (fun f : ResultVar → Sem Value => (do let vs ← fn.results.mapM f; pure (if h : vs.size = 1 then vs[0] else .tuple vs) : Sem Value)) (funext fun x => by cases x <;> rfl)
  rw [e, Array.mapM_eq_mapM_toList]
  simp only [Sem.run_bind, Sem.run_map, hv, Result.andThen_ok, Sem.run_pure]
  match vs with
  | [] => rfl
  | [v] => rfl
  | _ :: _ :: _ => rfl

/-- **A contract, by the walk's function.** -/
theorem calls_of_wFn (hm : P.follows .mixedOrders = true) {f : FuncId} {fn : Func} {args : Array Value} {w : World} {Q : Value → World → Prop} (p : Plan)
    (hf : P.funcs[f]? = some fn) (hfit : fitsFn fn p = true) (h : wFn P fn p args.toList w Q) : Calls P f args w (fun e w' => ∃ v, e = .returned v ∧ Q v w') := by
  unfold wFn at h
  unfold fitsFn at hfit
  split at h
  · rename_i c hc
    rw [hc] at hfit
    refine calls_of_wp hf hc (wp_mono (wCode_sound hm c p (endE P fn Q) _ _ w (fun _ _ _ hq => hq) (fits_mono ?_ c p hfit) (rep0 args _) h) ?_)
    · simp; omega
    · rintro e a w' ⟨ρ, hr, hq⟩
      cases e with
      | normal =>
        obtain ⟨v, hv, hk⟩ := results_sound hr w' fn (fun v => Q v w') hq
        exact ⟨hr.defers, v, hv, v, rfl, hk⟩
      | ret =>
        obtain ⟨v, hv, hk⟩ := results_sound hr w' fn (fun v => Q v w') hq
        exact ⟨hr.defers, v, hv, v, rfl, hk⟩
      | exit id => exact hq.elim
      | goto l => exact hq.elim
      | panic c => exact hq.elim
      | outgrown => exact hq.elim
  · exact h.elim
end
end Go.Hx
