/- From a walked law to its row, where variables are laid; what a laid table of integers gives. No condition. -/
import Derived.Test.YthkcdkldpbndnaaDoorHr
import Derived.Test.YthkcdkldpbndnaaDoorHw
import Derived.LaidMore
import Derived.LaidLaws
import Derived.LaidHandle
import Derived.FnData
import Derived.ProofKit
import Derived.Stop.Joined
set_option linter.unusedVariables false
namespace Go.Hx
open Go.RowKit Go.ChangeShapes Go.WideShapes
theorem laid_mem {P : Program} {w : World} : ∀ {l : List (String × DataW Unit)} {ps : List MemPlace}, DataW.LaidVars P w l ps → ∀ {n : String} {d : DataW Unit}, (n, d) ∈ l →
    ∃ g t cs fuel p, P.globalNamed n = some g ∧ (P.globals[g]?).map (·.type) = some t ∧ w.var? P n = some cs ∧ DataW.trod (fun _ => ()) P w 0 (fun _ => true) false fuel t cs.toList = some (d, p)
  | [], _, _, n, d, hm => by cases hm
  | (n', d') :: r, _, ⟨g, t, cs, fuel, p, q, h1, h2, h3, h4, h5, _⟩, n, d, hm => by
    rcases List.mem_cons.1 hm with e | e
    · cases e
      exact ⟨g, t, cs, fuel, p, h1, h2, h3, h4⟩
    · exact laid_mem h5 e
theorem laid_plain {P : Program} {l : List (String × DataW Unit)} {w : World} (h : laidMetH P l w) (hp : (l.all fun x => x.2.handleName?.isNone) = true) : laidMet P l w := by
  unfold laidMetH at h
  have e : (l.filter fun x => x.2.handleName?.isSome) = [] := by
    rw [List.filter_eq_nil_iff]
    intro x hx
    have := List.all_eq_true.1 hp x hx
    cases hh : x.2.handleName? with
    | none => simp
    | some y => rw [hh] at this; cases this
  rw [e] at h
  exact h
/-- A laid table of integers. -/
theorem laid_ints {P : Program} {l : List (String × DataW Unit)} {w : World} (h : laidMetH P l w) (hp : (l.all fun x => x.2.handleName?.isNone) = true) {n : String} {k : IntKind} {ns : List Int} {g m : Nat} {t e : TypeId}
    (hm : (n, DataW.agg (ns.map fun i => .lit (.int k i))) ∈ l) (hg : P.globalNamed n = some g) (ht : (P.globals[g]?).map (·.type) = some t) (hu : P.underlying t = some (.array m e)) (he : P.underlying e = some (.int k)) (hc : P.cellsOf e = 1) :
    ∀ (i : Nat) (x : Int), ns[i]? = some x → w.cell? ⟨g, i, none⟩ = some (.int k x) := by
  obtain ⟨ps, hv, _⟩ := laid_plain h hp
  obtain ⟨g', t', cs, fuel, p, h1, h2, h3, h4⟩ := laid_mem hv hm
  obtain rfl := Option.some.inj (hg.symm.trans h1)
  obtain rfl := Option.some.inj (ht.symm.trans h2)
  obtain ⟨xs, f, _, hx, _, hl, hel⟩ := DataW.trod_array hu h4
  simp only [Prod.mk.injEq, DataW.agg.injEq] at hx
  intro i x hi
  have hlen : xs.length = ns.length := by
    have := congrArg List.length hx.1
    simpa using this.symm
  have him : i < ns.length := (List.getElem?_eq_some_iff.1 hi).1
  have r := hel i (by omega)
  rw [hc, Nat.mul_one] at r
  have hxi : xs[i]? = some xs[i] := List.getElem?_eq_getElem (by omega)
  rw [hxi] at r
  obtain ⟨y, e1, e2, _⟩ := DataW.trod_int he r
  have e3 : (xs.map (·.1))[i]? = some (.lit (.int k x)) := by
    rw [← hx.1, List.getElem?_map, hi]; rfl
  rw [List.getElem?_map, hxi, e2] at e3
  simp only [Option.map_some, Option.some.injEq, DataW.lit.injEq, Lit.int.injEq, true_and] at e3
  subst e3
  rw [World.var?_cell hg h3 i]
  have e4 : (cs.toList.drop i)[0]? = some (.int k y) := by
    have e5 : ((cs.toList.drop i).take 1)[0]? = some (.int k y) := by rw [e1]; rfl
    rwa [List.getElem?_take_of_lt (by omega)] at e5
  rw [List.getElem?_drop] at e4
  simpa using e4
/-- A law that is walked, where variables are laid. -/
theorem law_lifted_laid {H : Type} {enc : TypeId × Value → H} {C : Checked} {os : Os} {f : FuncId} {fn : Func} {s : ChangeSpec} {ts : List TypeId} {tb : TypeId} {laid : List (String × DataW Unit)}
    (own : ownKnob C.prog.godebug = none) (started : os.Started) (noInit : C.prog.inits.idxOf? f = none) (hfn : C.prog.funcs[f]? = some fn)
    (witness : ∃ (w : World) (tape : Tape) (i : Input), w.os = os ∧ (w.forCall tape i).Shaped C.prog ∧ i.vars = [] ∧ Input.okWide C.prog (w.forCall tape i) .any w.heap.size f i ∧
      ((s.pre enc C.prog fn [] false (w.forCall tape i).memory i.args ∧ laidMetH C.prog laid (w.forCall tape i).memory) ∧ sizedMet enc C.prog fn (OpenSpec.ofChange s) false (w.forCall tape i).memory i.args) ∧ ({} : Assume).holds C.prog (lone (Frame.enter C.prog f i.args .normal) [] (w.forCall tape i)))
    (hts : fn.params.toList = ts) (hrt : fn.resultTypes = #[tb]) (hb : C.prog.underlying tb = some .bool) (hv : s.vars = [])
    (hs : ∀ ds : List (DataW H), ds.length = ts.length → s.fn H ds = { results := [.lit (.bool true)], args := ds })
    (hl : laidOutB C.prog = true) (hr : okTs C.prog ts = true)
    (contract : ∀ (W : World) (vs : List Value), AllArg enc C.prog W ts vs → laidMetH C.prog laid W → Calls C.prog f vs.toArray W fun e W' => e = .returned (.bool true) ∧ Below W.heap.size W W') :
    ReturnsInHanded {} C os f .any (fun w args => (s.pre enc C.prog fn [] false w args ∧ laidMetH C.prog laid w) ∧ sizedMet enc C.prog fn (OpenSpec.ofChange s) false w args) (s.post enc C.prog fn false true false false) := by
  refine returnsInHanded_of_change_and (X := fun w _ => laidMetH C.prog laid w) (fun _ _ _ hh h => h.of_heap hh) own started noInit hfn witness ?_
  intro W base args ds gs before hval hW _ hwt hL _
  have hW' := hW
  obtain ⟨p, q, hA, hV, rfl, hfz, hnd⟩ := hW
  rw [hv] at hV
  have hq : gs = [] ∧ q = [] := by
    cases gs with
    | nil => exact ⟨rfl, hV⟩
    | cons _ _ => exact hV.elim
  obtain ⟨rfl, rfl⟩ := hq
  rw [hts] at hA
  rw [hts, List.append_nil, show s.plain.varTypes C.prog = [] by unfold DataSpec.varTypes; rw [show s.plain.vars = [] from hv]; rfl, List.append_nil] at hwt
  have hc := contract W args.toList (allArg_of (b0 := base) hA (fun j t v ht hv => hval j t v (by rw [← hts, Array.getElem?_toList] at ht; exact ht) (by rw [Array.getElem?_toList] at hv; exact hv)) hwt) hL
  rw [Array.toArray_toList] at hc
  refine hc.mono ?_
  rintro e W' ⟨rfl, bel⟩
  have hlen : ds.length = ts.length := trodAll_len hA
  have hds : s.fn H (ds ++ []) = { results := [.lit (.bool true)], args := ds } := by rw [List.append_nil]; exact hs ds hlen
  refine ⟨_, rfl, ds, [], p ++ [], [], p, [], hW', ?_, ?_, ?_, bel.frame _, fun h => by cases h⟩
  · rw [hds, hrt]
    exact trodAll_mk1 (shut_bool hb _)
  · rw [hds, hts]
    exact trodAll_below hl bel ts _ ds p (okTs_mem hr) (fun x hx => hW'.lt x (List.mem_append_left _ hx)) hA
  · rw [hds, hv]; rfl
end Go.Hx
