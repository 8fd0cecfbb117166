/- From a walked law to its row: what an argument of flat cells, or a slice of such, is in memory; and the law's answer 'true', the arguments as they were. No condition. -/
import Derived.Test.YthkcdkldpbndnaaDoorHv
import Derived.Carry
import Derived.OpenShut
import Derived.ChangeOld
import Derived.Deep.Slices
import Derived.SizedLaws
set_option linter.unusedVariables false
namespace Go.Hx
open Go.RowKit Go.ChangeShapes Go.WideShapes
section
variable {H : Type} {enc : TypeId × Value → H} {P : Program} {w : World} {base : Nat} {spare : Nat → Bool} {held : Bool}

/-- A cell of that kind, as an argument may hold it. -/
def celW (k : Kd) (x : Value) : Prop := match k with
  | .int k => ∃ n, x = .int k n ∧ (Lit.int k n).wf = true
  | .bool => ∃ b, x = .bool b
  | .str => ∃ s : ByteArray, x = .string s ∧ s.size ≤ maxLen
  | _ => False
def confW : List Kd → List Value → Prop
  | [], [] => True
  | k :: ks, x :: xs => celW k x ∧ confW ks xs
  | _, _ => False
theorem confW_length : ∀ {ks : List Kd} {xs : List Value}, confW ks xs → xs.length = ks.length
  | [], [], _ => rfl
  | _ :: ks, _ :: xs, h => by simp [confW_length h.2]
  | [], _ :: _, h => h.elim
  | _ :: _, [], h => h.elim
theorem confW_app : ∀ {ks ls : List Kd} {xs ys : List Value}, confW ks xs → confW ls ys → confW (ks ++ ls) (xs ++ ys)
  | [], _, [], _, _, h => h
  | _ :: _, _, _ :: _, _, h, h2 => ⟨h.1, confW_app h.2 h2⟩
  | [], _, _ :: _, _, h, _ => h.elim
  | _ :: _, _, [], _, h, _ => h.elim
theorem confW_get : ∀ {ks : List Kd} {xs : List Value}, confW ks xs → ∀ {i : Nat} {k : Kd}, ks[i]? = some k → ∃ x, xs[i]? = some x ∧ celW k x
  | _ :: _, x :: _, h, 0, k, hk => ⟨x, rfl, by simp at hk; rw [← hk]; exact h.1⟩
  | _ :: ks, _ :: xs, h, i + 1, k, hk => by simpa using confW_get h.2 (i := i) (by simpa using hk)
  | [], [], _, _, _, hk => by simp at hk
  | [], _ :: _, h, _, _, _ => h.elim
  | _ :: _, [], h, _, _, _ => h.elim
theorem take_eq_of_length {α : Type} {l : List α} {n m : Nat} (h : (l.take n).length = m) : l.take n = l.take m := by
  subst h
  rw [List.length_take]
  by_cases hn : n ≤ l.length
  · rw [Nat.min_eq_left hn]
  · rw [Nat.min_eq_right (by omega), List.take_of_length_le (by omega), List.take_of_length_le (Nat.le_refl _)]
theorem scal_one {t : TypeId} {k : Kd} {ks : List Kd} (h : scal P t k = some ks) : ks = [k] := by
  unfold scal at h
  cases hb : Nat.beq (P.cellsOf t) 1 <;> rw [hb] at h
  · cases h
  · exact (Option.some.inj h).symm
theorem flatFs_conf {g : TypeId → Option (List Kd)} {cs : List Value} : ∀ (fs : List Field) (off : Nat) (ks : List Kd), flatFs g fs off = some ks →
      (∀ f ∈ fs, ∀ k, g f.type = some k → confW k ((cs.drop f.offset).take (P.cellsOf f.type))) → confW ks ((cs.drop off).take ks.length)
  | [], off, ks, h, _ => by
    simp only [flatFs, Option.some.injEq] at h
    subst h
    simp [confW]
  | f :: fs, off, ks, h, hf => by
    simp only [flatFs] at h
    cases hc : (f.name != "_" && Nat.beq f.offset off) with
    | false => rw [hc] at h; cases h
    | true =>
      rw [hc] at h
      simp only [Bool.and_eq_true] at hc
      have ho := beqN hc.2
      simp only [cond_true] at h
      split at h
      · rename_i k1 hk1
        split at h
        · rename_i k2 hk2
          simp only [Option.some.injEq] at h
          subst h
          have h1 := hf f (List.mem_cons_self ..) k1 hk1
          have e1 := take_eq_of_length (confW_length h1)
          rw [e1, ho] at h1
          have h2 := flatFs_conf fs (off + k1.length) k2 hk2 fun f' hf' k hk => hf f' (List.mem_cons_of_mem _ hf') k hk
          have h3 := confW_app h1 h2
          rw [← List.drop_drop] at h3
          rw [List.length_append, List.take_add]
          exact h3
        · cases h
      · cases h
theorem repL_conf {ks : List Kd} {cs : List Value} : ∀ (n off : Nat), (∀ i, i < n → confW ks ((cs.drop (off + i * ks.length)).take ks.length)) → confW (repL n ks) ((cs.drop off).take (n * ks.length))
  | 0, off, _ => by simp [repL, confW]
  | n + 1, off, h => by
    have h1 := h 0 (by omega)
    rw [Nat.zero_mul, Nat.add_zero] at h1
    have h2 := repL_conf n (off + ks.length) fun i hi => by
      have h3 := h (i + 1) (by omega)
      rw [show off + (i + 1) * ks.length = off + ks.length + i * ks.length by rw [Nat.succ_mul]; omega] at h3
      exact h3
    have h3 := confW_app h1 h2
    rw [← List.drop_drop] at h3
    rw [repL, Nat.succ_mul, Nat.add_comm, List.take_add]
    exact h3
theorem flatB_len : ∀ {D : Nat} {t : TypeId} {ks : List Kd}, flatB P D t = some ks → ks.length = P.cellsOf t
  | 0, t, ks, h => by simp [flatB] at h
  | D + 1, t, ks, h => by
    have hs : ∀ k, scal P t k = some ks → ks.length = P.cellsOf t := fun k hk => by
      rw [scal_one hk]
      unfold scal at hk
      cases hb : Nat.beq (P.cellsOf t) 1 <;> rw [hb] at hk
      · cases hk
      · exact (beqN hb).symm
    unfold flatB at h
    split at h
    · exact hs _ h
    · exact hs _ h
    · exact hs _ h
    · cases hst : P.stoodInHeld t <;> rw [hst] at h
      · simp only [cond_false] at h
        split at h
        · rename_i ks' hk
          cases hb : (Nat.beq ks'.length (P.cellsOf t) && !Nat.beq ks'.length 0) <;> rw [hb] at h
          · cases h
          · simp only [cond_true, Option.some.injEq] at h
            subst h
            simp only [Bool.and_eq_true] at hb
            exact beqN hb.1
        · cases h
      · cases h
    · rename_i n e hu
      split at h
      · rename_i k1 hk
        cases hb : (Nat.beq (P.cellsOf t) (n * k1.length) && !Nat.beq (n * k1.length) 0) <;> rw [hb] at h
        · cases h
        · simp only [cond_true, Option.some.injEq] at h
          subst h
          simp only [Bool.and_eq_true] at hb
          rw [beqN hb.1]
          clear hb hs hk hu
          induction n with
          | zero => simp [repL]
          | succ n ih => rw [repL, List.length_append, ih, Nat.succ_mul, Nat.add_comm]
      · cases h
    · cases h
/-- An argument whose cells lie flat: its cells are of the type's kinds. -/
theorem trod_flat : ∀ (D : Nat) (t : TypeId) (ks : List Kd) (fuel : Nat) (cs : List Value) (x : DataW H × List MemPlace), flatB P D t = some ks →
      DataW.trod enc P w base spare held fuel t cs = some x → confW ks cs
  | 0, t, ks, fuel, cs, x, h, _ => by simp [flatB] at h
  | D + 1, t, ks, fuel, cs, x, h, hx => by
    unfold flatB at h
    split at h
    · rename_i k hu
      obtain ⟨n, rfl, _, hw⟩ := DataW.trod_int hu hx
      rw [scal_one h]; exact ⟨⟨n, rfl, hw⟩, trivial⟩
    · rename_i hu
      obtain ⟨b, rfl, _⟩ := DataW.trod_bool hu hx
      rw [scal_one h]; exact ⟨⟨b, rfl⟩, trivial⟩
    · rename_i hu
      obtain ⟨s, rfl, _, hs⟩ := DataW.trod_string hu hx
      rw [scal_one h]; exact ⟨⟨s, rfl, hs⟩, trivial⟩
    · rename_i fs hu
      obtain ⟨xs, n, _, _, hl, hlen, hf⟩ := DataW.trod_struct hu hx
      cases hst : P.stoodInHeld t <;> rw [hst] at h
      · simp only [cond_false] at h
        split at h
        · rename_i ks' hk
          cases hb : (Nat.beq ks'.length (P.cellsOf t) && !Nat.beq ks'.length 0) <;> rw [hb] at h
          · cases h
          · simp only [cond_true, Option.some.injEq] at h
            subst h
            simp only [Bool.and_eq_true] at hb
            have e := beqN hb.1
            have hc := flatFs_conf (P := P) (cs := cs) fs.toList 0 ks' hk fun f hf' k hk' => by
              obtain ⟨i, hi, hfi⟩ := List.getElem_of_mem hf'
              have hfi' : fs[i]? = some f := by
                rw [← Array.getElem?_toList, List.getElem?_eq_getElem hi, hfi]
              have hy := hf i f hfi'
              have hi' : i < xs.length := by rw [hlen]; simpa using hi
              rw [List.getElem?_eq_getElem hi'] at hy
              exact trod_flat D f.type k n _ _ hk' hy
            rw [List.drop_zero, List.take_of_length_le (by omega)] at hc
            exact hc
        · cases h
      · cases h
    · rename_i n e hu
      obtain ⟨xs, m, _, _, hl, hlen, hf⟩ := DataW.trod_array hu hx
      split at h
      · rename_i k1 hk
        cases hb : (Nat.beq (P.cellsOf t) (n * k1.length) && !Nat.beq (n * k1.length) 0) <;> rw [hb] at h
        · cases h
        · simp only [cond_true, Option.some.injEq] at h
          subst h
          simp only [Bool.and_eq_true] at hb
          have e1 := beqN hb.1
          have hel : ∀ i, i < n → confW k1 ((cs.drop (i * P.cellsOf e)).take (P.cellsOf e)) := fun i hi => by
            have hy := hf i hi
            have hi' : i < xs.length := by omega
            rw [List.getElem?_eq_getElem hi'] at hy
            exact trod_flat D e k1 m _ _ hk hy
          by_cases hn : n = 0
          · subst hn
            simp only [Nat.zero_mul] at e1 ⊢
            have : cs = [] := List.length_eq_zero_iff.1 (by omega)
            subst this
            exact trivial
          · have hkl := flatB_len hk
            have hc := repL_conf (cs := cs) (ks := k1) n 0 fun i hi => by
              have := hel i hi
              rw [← hkl] at this
              rw [Nat.zero_add]; exact this
            rw [List.drop_zero, List.take_of_length_le (by omega)] at hc
            exact hc
      · cases h
    · cases h
theorem cells_row {a : Addr} : ∀ (n : Nat) (cs : List Value), w.cells? base a n = some cs → cs.length = n ∧ RowAt w a cs.toArray := by
  intro n cs h
  unfold World.cells? at h
  split at h
  · refine ⟨by simpa using mapM_some_length h, fun j v hv => ?_⟩
    have hj : j < cs.length := by
      have := (Array.getElem?_eq_some_iff.1 hv).1
      simpa using this
    have hn : cs.length = n := by simpa using mapM_some_length h
    have hg := mapM_some_get h j j (by simp [← hn, hj])
    rw [List.getElem?_toArray] at hv
    rw [hg]; exact hv
  · cases h
/-- An argument that is a slice of flat elements. -/
theorem trod_flats {t e : TypeId} {D : Nat} {ks : List Kd} {v : Value} {d : DataW H} {ps : List MemPlace} (hu : P.underlying t = some (.slice e)) (hf : flatB P D e = some ks)
    (h : DataW.Trod enc P w base spare held t v d ps) (hv : v.cells.toList.length = 1 → v.cells = #[v]) :
    v = .slice none 0 0 ∨ ∃ (a : Addr) (len cap : Nat), v = .slice (some a) len cap ∧ len ≤ cap ∧ cap ≤ maxLen ∧
      ∀ i, i < len → ∃ cs : List Value, confW ks cs ∧ RowAt w (a.add (i * ks.length)) cs.toArray := by
  obtain ⟨fuel, h⟩ := h
  rcases Go.Deep.open_slice hu h with ⟨h0, _⟩ | ⟨a, len, cap, m, n, Dd, Pl, h0, _, hl, hm, hmm, _, hel⟩
  · left
    have h1 := hv (by rw [h0]; rfl)
    rw [h1] at h0
    exact (List.cons.inj h0).1
  · right
    have h1 := hv (by rw [h0]; rfl)
    rw [h1] at h0
    refine ⟨a, len, cap, (List.cons.inj h0).1, hl, hm, fun i hi => ?_⟩
    obtain ⟨cs, hc, ht⟩ := hel i (by rw [hmm]; split <;> omega)
    have hk := flatB_len hf
    obtain ⟨_, hr⟩ := cells_row _ _ hc
    exact ⟨cs, trod_flat D e ks n cs _ hf ht, by rw [hk]; exact hr⟩
theorem trodAll_below (hl : laidOutB P = true) {W W' : World} (bel : Below W.heap.size W W') :
    ∀ (ts : List TypeId) (vs : List Value) (ds : List (DataW H)) (ps : List MemPlace), (∀ t ∈ ts, P.readableRec t = true ∧ t < P.types.size) → (∀ x ∈ ps, x.block < W.heap.size) →
      DataW.TrodAll enc P W 0 (fun _ => true) true ts vs ds ps → DataW.TrodAll enc P W' 0 (fun b => decide (b < W.heap.size)) true ts vs ds ps
  | [], [], [], ps, _, _, h => h
  | t :: ts, v :: vs, d :: ds, ps, hr, hlt, ⟨p, q, h1, h2, h3⟩ => by
    subst h3
    refine ⟨p, q, ?_, ?_, rfl⟩
    · exact Below.trod hl (hr t (List.mem_cons_self ..)).1 (hr t (List.mem_cons_self ..)).2 h1 bel fun x hx => hlt x (List.mem_append_left _ hx)
    · exact trodAll_below hl bel ts vs ds q (fun t ht => hr t (List.mem_cons_of_mem _ ht)) (fun x hx => hlt x (List.mem_append_right _ hx)) h2
  | [], _ :: _, _, _, _, _, h => h.elim
  | [], [], _ :: _, _, _, _, h => h.elim
  | _ :: _, [], _, _, _, _, h => h.elim
  | _ :: _, _ :: _, [], _, _, _, h => h.elim
end
def okTs (P : Program) : List TypeId → Bool
  | [] => true
  | t :: ts => P.readableRec t && Nat.ble (t + 1) P.types.size && okTs P ts
theorem okTs_mem {P : Program} : ∀ {ts : List TypeId}, okTs P ts = true → ∀ t ∈ ts, P.readableRec t = true ∧ t < P.types.size
  | t :: ts, h, u, hu => by
    simp only [okTs, Bool.and_eq_true] at h
    rcases List.mem_cons.1 hu with rfl | hu
    · exact ⟨h.1.1, Nat.le_of_ble_eq_true h.1.2⟩
    · exact okTs_mem h.2 u hu
theorem trodAll_len {H : Type} {enc : TypeId × Value → H} {P : Program} {w : World} {base : Nat} {spare : Nat → Bool} {held : Bool} :
    ∀ {ts : List TypeId} {vs : List Value} {ds : List (DataW H)} {ps : List MemPlace}, DataW.TrodAll enc P w base spare held ts vs ds ps → ds.length = ts.length
  | [], [], [], _, _ => rfl
  | _ :: _, _ :: _, _ :: _, _, ⟨_, _, _, h, _⟩ => by simp only [List.length_cons]; rw [trodAll_len h]
  | [], _ :: _, _, _, h => h.elim
  | [], [], _ :: _, _, h => h.elim
  | _ :: _, [], _, _, h => h.elim
  | _ :: _, _ :: _, [], _, h => h.elim
/-- What a law is handed: a value of that type, read whole. -/
def ArgIs {H : Type} (enc : TypeId × Value → H) (P : Program) (W : World) (t : TypeId) (v : Value) : Prop :=
  ∃ b0 d p, Value.okWide P W .any b0 t v ∧ DataW.Trod enc P W 0 (fun _ => true) true t v d p ∧ (d.weights P t).all (· ≤ reachBytes) = true
def AllArg {H : Type} (enc : TypeId × Value → H) (P : Program) (W : World) : List TypeId → List Value → Prop
  | [], [] => True
  | t :: ts, v :: vs => ArgIs enc P W t v ∧ AllArg enc P W ts vs
  | _, _ => False
theorem allArg_of {H : Type} {enc : TypeId × Value → H} {P : Program} {W : World} {b0 : Nat} : ∀ {ts : List TypeId} {vs : List Value} {ds : List (DataW H)} {ps : List MemPlace},
      DataW.TrodAll enc P W 0 (fun _ => true) true ts vs ds ps → (∀ (j : Nat) t v, ts[j]? = some t → vs[j]? = some v → Value.okWide P W .any b0 t v) → (DataW.weightsEach P ts ds).all (· ≤ reachBytes) = true → AllArg enc P W ts vs
  | [], [], [], _, _, _, _ => trivial
  | t :: ts, v :: vs, d :: ds, _, ⟨p, q, h1, h2, _⟩, hv, hw => by
    unfold DataW.weightsEach at hw
    rw [List.all_append, Bool.and_eq_true] at hw
    exact ⟨⟨b0, d, p, hv 0 t v rfl rfl, h1, hw.1⟩, allArg_of h2 (fun j u x hu hx => hv (j + 1) u x (by simpa using hu) (by simpa using hx)) hw.2⟩
  | [], _ :: _, _, _, h, _, _ => h.elim
  | [], [], _ :: _, _, h, _, _ => h.elim
  | _ :: _, [], _, _, h, _, _ => h.elim
  | _ :: _, _ :: _, [], _, h, _, _ => h.elim
section
variable {H : Type} {enc : TypeId × Value → H} {P : Program} {W : World} {t : TypeId} {v : Value}
theorem arg_int {k : IntKind} (h : ArgIs enc P W t v) (ht : P.underlying t = some (.int k)) : ∃ n, v = .int k n ∧ (Lit.int k n).wf = true := by
  obtain ⟨b0, d, p, h1, h2, _⟩ := h
  obtain ⟨n, h3, _, _, h4⟩ := open_int ht h1 h2
  exact ⟨n, h3, h4⟩
theorem arg_bool (h : ArgIs enc P W t v) (ht : P.underlying t = some .bool) : ∃ b, v = .bool b := by
  obtain ⟨b0, d, p, h1, h2, _⟩ := h
  exact okWide_bool ht h1
theorem arg_string (h : ArgIs enc P W t v) (ht : P.underlying t = some .string) : ∃ s : ByteArray, v = .string s ∧ s.size ≤ 140737488351232 := by
  obtain ⟨b0, d, p, h1, ⟨n, h2⟩, h5⟩ := h
  obtain ⟨s, rfl⟩ := okWide_string ht h1
  obtain ⟨s', h3, h4, _⟩ := DataW.trod_string ht h2
  simp [Value.cells] at h3
  subst h3
  simp only [Prod.mk.injEq] at h4
  rw [h4.1] at h5
  simp only [DataW.weights, List.all_cons, List.all_nil, Bool.and_true, decide_eq_true_eq] at h5
  have h6 : reachBytes = 140737488351232 := rfl
  rw [Array.length_toList] at h5
  exact ⟨s, rfl, h6 ▸ h5⟩
theorem arg_struct {fs : Array Field} {D : Nat} {ks : List Kd} (h : ArgIs enc P W t v) (ht : P.underlying t = some (.struct fs)) (hf : flatB P D t = some ks) : ∃ cs : List Value, v = .agg cs.toArray ∧ confW ks cs := by
  obtain ⟨b0, d, p, h1, ⟨n, h2⟩, _⟩ := h
  obtain ⟨cs, rfl, _⟩ := okWide_struct ht h1
  exact ⟨cs.toList, by simp, trod_flat D t ks n _ _ hf h2⟩
theorem arg_slice {e : TypeId} {D : Nat} {ks : List Kd} (h : ArgIs enc P W t v) (ht : P.underlying t = some (.slice e)) (hf : flatB P D e = some ks) :
    v = .slice none 0 0 ∨ ∃ (a : Addr) (len cap : Nat), v = .slice (some a) len cap ∧ len ≤ cap ∧ cap ≤ maxLen ∧
      ∀ i, i < len → ∃ cs : List Value, confW ks cs ∧ RowAt W (a.add (i * ks.length)) cs.toArray := by
  obtain ⟨b0, d, p, h1, h2, _⟩ := h
  obtain ⟨a, len, cap, rfl⟩ := okWide_slice ht h1
  exact trod_flats ht hf h2 fun _ => rfl
end
/-- A law that is walked: it returns true and leaves all that was there as it was: so its row holds. -/
theorem law_lifted {H : Type} {enc : TypeId × Value → H} {C : Checked} {os : Os} {f : FuncId} {fn : Func} {s : ChangeSpec} {ts : List TypeId} {tb : TypeId}
    (own : ownKnob C.prog.godebug = none) (started : os.Started) (noInit : C.prog.inits.idxOf? f = none) (hfn : C.prog.funcs[f]? = some fn)
    (witness : ∃ (w : World) (tape : Tape) (i : Input), w.os = os ∧ (w.forCall tape i).Shaped C.prog ∧ i.vars = [] ∧ Input.okWide C.prog (w.forCall tape i) .any w.heap.size f i ∧
      s.pre6 enc C.prog fn [] false (w.forCall tape i).memory i.args ∧ ({} : Assume).holds C.prog (lone (Frame.enter C.prog f i.args .normal) [] (w.forCall tape i)))
    (hts : fn.params.toList = ts) (hrt : fn.resultTypes = #[tb]) (hb : C.prog.underlying tb = some .bool) (hv : s.vars = [])
    (hs : ∀ ds : List (DataW H), ds.length = ts.length → s.fn H ds = { results := [.lit (.bool true)], args := ds })
    (hl : laidOutB C.prog = true) (hr : okTs C.prog ts = true)
    (contract : ∀ (W : World) (vs : List Value), AllArg enc C.prog W ts vs → Calls C.prog f vs.toArray W fun e W' => e = .returned (.bool true) ∧ Below W.heap.size W W') :
    ReturnsInHanded {} C os f .any (s.pre6 enc C.prog fn [] false) (s.post enc C.prog fn false true false false) := by
  refine returnsInHanded_of_change_sized own started noInit hfn witness ?_
  intro W base args ds gs before hval hW _ hwt _
  have hW' := hW
  obtain ⟨p, q, hA, hV, rfl, hfz, hnd⟩ := hW
  rw [hv] at hV
  have hq : gs = [] ∧ q = [] := by
    cases gs with
    | nil => exact ⟨rfl, hV⟩
    | cons _ _ => exact hV.elim
  obtain ⟨rfl, rfl⟩ := hq
  rw [hts] at hA
  rw [hts, List.append_nil, show s.plain.varTypes C.prog = [] by unfold DataSpec.varTypes; rw [show s.plain.vars = [] from hv]; rfl, List.append_nil] at hwt
  have hc := contract W args.toList (allArg_of (b0 := base) hA (fun j t v ht hv => hval j t v (by rw [← hts, Array.getElem?_toList] at ht; exact ht) (by rw [Array.getElem?_toList] at hv; exact hv)) hwt)
  rw [Array.toArray_toList] at hc
  refine hc.mono ?_
  rintro e W' ⟨rfl, bel⟩
  have hlen : ds.length = ts.length := trodAll_len hA
  have hds : s.fn H (ds ++ []) = { results := [.lit (.bool true)], args := ds } := by rw [List.append_nil]; exact hs ds hlen
  refine ⟨_, rfl, ds, [], p ++ [], [], p, [], hW', ?_, ?_, ?_, bel.frame _, fun h => by cases h⟩
  · rw [hds, hrt]
    exact trodAll_mk1 (shut_bool hb _)
  · rw [hds, hts]
    exact trodAll_below hl bel ts _ ds p (okTs_mem hr) (fun x hx => hW'.lt x (List.mem_append_left _ hx)) hA
  · rw [hds, hv]; rfl
end Go.Hx
