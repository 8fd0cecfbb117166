/- What the tree's laws are handed, and the house: a memory and a tree on it. No condition. -/
import Derived.Test.YthkcdkldpbndnaaDoorMM
import Derived.Test.YthkcdkldpbndnaaDoorWb
import Derived.Test.YthkcdkldpbndnaaDoorHt
import Derived.Test.YthkcdkldpbndnaaDoorNu
set_option linter.unusedVariables false
namespace Go.Proofs.YthkcdkldpbndnaaDoor
open Go.RowKit Go.Hx Go.WideShapes
section
variable {H : Type} {enc : TypeId × Value → H} {P : Program} {W w : World} {base : Nat} {spare : Nat → Bool} {held : Bool}
/-- A slice of slices of bytes. -/
theorem arg_bss {t e u : TypeId} {v : Value} (h : ArgIs enc P W t v) (hu : P.underlying t = some (.slice e)) (hc1 : P.cellsOf e = 1) (he : P.underlying e = some (.slice u)) (h8 : P.underlying u = some (.int .u8)) (hc : P.cellsOf u = 1) :
    ∃ (q : Option Addr) (n c : Nat) (l : List Sl), v = .slice q n c ∧ n ≤ c ∧ n ≤ maxLen ∧ Rd 1 W q n (l.map slV) ∧ ∀ (i : Nat) (x : Sl), l[i]? = some x → ∃ xs, Rd 1 W x.1 x.2.1 (bv xs) ∧ x.2.1 ≤ x.2.2 := by
  obtain ⟨b0, d, p, h1, ⟨fuel, h2⟩, hw⟩ := h
  obtain ⟨a, len, cap, rfl⟩ := okWide_slice hu h1
  rcases Go.Deep.open_slice1 hu hc1 h2 with ⟨h0, _⟩ | ⟨a', len', cap', m, n, V, D, Pl, h0, _, hl, hm, hmm, _, hx⟩
  · have h0 : [Value.slice a len cap] = [.slice none 0 0] := h0
    cases h0
    exact ⟨none, 0, 0, [], rfl, Nat.le_refl _, Nat.zero_le _, Rd.empty _ _ _, fun i x hx => by simp at hx⟩
  · have h0 : [Value.slice a len cap] = [.slice (some a') len' cap'] := h0
    cases h0
    have hlm : len ≤ m := by rw [hmm]; split <;> omega
    have key : ∀ i, i < len → ∃ x : Sl, V i = slV x ∧ ∃ xs, Rd 1 W x.1 x.2.1 (bv xs) ∧ x.2.1 ≤ x.2.2 := fun i hi => by
      obtain ⟨_, h4⟩ := hx i (by omega)
      rcases Go.ChangeShapes.open_ints he h8 hc h4 with ⟨h5, _⟩ | ⟨a2, l2, c2, zs, h5, _, hl2, _, hz, _, hcell, hwf⟩
      · have h5 : V i = .slice none 0 0 := by simpa using h5
        exact ⟨(none, 0, 0), h5, [], Rd.empty _ _ _, Nat.le_refl _⟩
      · have h5 : V i = .slice (some a2) l2 c2 := by simpa using h5
        have hle : l2 ≤ zs.length := by rw [hz]; split <;> omega
        refine ⟨(some a2, l2, c2), h5, (zs.take l2).map fun n => UInt8.ofNat n.toNat, ⟨?_, fun h => (by cases h), fun b hb' => ?_⟩, hl2⟩
        · rw [bv_length, List.length_map, List.length_take]; show min l2 zs.length = l2 * 1; omega
        · cases hb'
          rw [← ints_bv _ fun n hn => hwf n (List.mem_of_mem_take hn)]
          intro j v hv
          rw [List.getElem?_toArray, List.getElem?_map] at hv
          cases e1 : (zs.take l2)[j]? with
          | none => rw [e1] at hv; cases hv
          | some z =>
            rw [e1] at hv
            cases hv
            have hj := (List.getElem?_eq_some_iff.1 e1).1
            rw [List.length_take] at hj
            rw [hcell j (by omega)]
            rw [List.getElem?_take_of_lt (by omega)] at e1
            rw [List.getD_eq_getElem?_getD, e1]; rfl
    let X : Nat → Sl := fun i => if h : i < len then Classical.choose (key i h) else (none, 0, 0)
    have hX : ∀ i, i < len → V i = slV (X i) ∧ ∃ xs, Rd 1 W (X i).1 (X i).2.1 (bv xs) ∧ (X i).2.1 ≤ (X i).2.2 := fun i hi => by
      have : X i = Classical.choose (key i hi) := dif_pos hi
      rw [this]
      exact Classical.choose_spec (key i hi)
    refine ⟨some a', len, cap, (List.range len).map X, rfl, hl, by omega, ⟨by simp, fun h => (by cases h), fun b hb' => ?_⟩, fun i x hx' => ?_⟩
    · cases hb'
      intro j v hv
      rw [List.getElem?_toArray, List.getElem?_map, List.getElem?_map] at hv
      by_cases hj : j < len
      · rw [List.getElem?_range hj] at hv
        cases hv
        rw [← (hX j hj).1]
        exact (hx j (by omega)).1
      · rw [List.getElem?_eq_none (by simpa using hj)] at hv; cases hv
    · rw [List.getElem?_map] at hx'
      by_cases hj : i < len
      · rw [List.getElem?_range hj] at hx'
        cases hx'
        exact (hX i hj).2
      · rw [List.getElem?_eq_none (by simpa using hj)] at hx'; cases hx'
def iv (l : List Int) : List Value := l.map fun n => .int .i64 n
/-- A slice of numbers. -/
theorem arg_ints {t e : TypeId} {v : Value} (h : ArgIs enc P W t v) (hu : P.underlying t = some (.slice e)) (he : P.underlying e = some (.int .i64)) (hc : P.cellsOf e = 1) :
    ∃ (q : Option Addr) (n c : Nat) (l : List Int), v = .slice q n c ∧ n ≤ c ∧ n ≤ maxLen ∧ Rd 1 W q n (iv l) ∧ l.length = n ∧ ∀ x ∈ l, (Lit.int .i64 x).wf = true := by
  obtain ⟨b0, d, p, h1, ⟨fuel, h2⟩, hw⟩ := h
  obtain ⟨a, len, cap, rfl⟩ := okWide_slice hu h1
  rcases Go.ChangeShapes.open_ints hu he hc h2 with ⟨h0, _⟩ | ⟨a', len', cap', zs, h0, _, hl, hm, hz, _, hcell, hwf⟩
  · have h0 : [Value.slice a len cap] = [.slice none 0 0] := h0
    cases h0
    exact ⟨none, 0, 0, [], rfl, Nat.le_refl _, Nat.zero_le _, Rd.empty _ _ _, rfl, fun x hx => by cases hx⟩
  · have h0 : [Value.slice a len cap] = [.slice (some a') len' cap'] := h0
    cases h0
    have hle : len ≤ zs.length := by rw [hz]; split <;> omega
    have htl : (zs.take len).length = len := by rw [List.length_take]; omega
    refine ⟨some a', len, cap, zs.take len, rfl, hl, by omega, ⟨by unfold iv; rw [List.length_map, htl, Nat.mul_one], fun h => (by cases h), fun b hb' => ?_⟩, htl, fun x hx => hwf x (List.mem_of_mem_take hx)⟩
    cases hb'
    intro j v hv
    unfold iv at hv
    rw [List.getElem?_toArray, List.getElem?_map] at hv
    cases e1 : (zs.take len)[j]? with
    | none => rw [e1] at hv; cases hv
    | some z =>
      rw [e1] at hv
      cases hv
      have hj := (List.getElem?_eq_some_iff.1 e1).1
      rw [List.getElem?_take_of_lt (by omega)] at e1
      rw [hcell j (by omega), List.getD_eq_getElem?_getD, e1]; rfl
/-- A number of a slice. -/
theorem rd_int {q : Option Addr} {n : Nat} {l : List Int} (h : Rd 1 w q n (iv l)) {i : Nat} (hi : i < n) {K : Int → Prop} (hK : ∀ x, l[i]? = some x → K x) :
    nlW q fun a => (0 ≤ (i : Int) ∧ (i : Int) < ((n : Nat) : Int)) ∧ ∃ m : Int, w.cell? (a.add ((i : Int).toNat * 1)) = some (.int .i64 m) ∧ K m :=
  h.at1 hi fun a v _ hv hc => by
    unfold iv at hv
    rw [List.getElem?_map] at hv
    cases e : l[i]? with
    | none => rw [e] at hv; cases hv
    | some b =>
      rw [e] at hv
      simp only [Option.map_some, Option.some.injEq] at hv
      exact ⟨_, by rw [Int.toNat_natCast, hc, ← hv], hK b e⟩
end
/-! ### Beside the tree -/
/-- A slice that does not lie in the tree. -/
def Apt (t r mb hb : Nat) (Q : List SH) (q : Option Addr) : Prop := ∀ a, q = some a → ¬ TS t r mb hb Q a.block
section
variable {N t r mb hb F : Nat} {H : List Nat} {Q Q' : List SH} {w W : World} {M : List ND} {n : Nat}
theorem TI.low (h : TI N t r mb hb F H Q w M n) : ∀ k, TS t r mb hb Q k → N ≤ k := by
  obtain ⟨fl, bs, L, h1, h2, _⟩ := h.ex
  rintro k (rfl | hs | ⟨i, s, a, hs, ha, rfl⟩)
  · exact h1.lo
  · obtain ⟨a, b, c⟩ := h1.ram.lo
    rcases hs with rfl | rfl | rfl <;> omega
  · obtain ⟨x, hx⟩ := h1.getL (i := i) (by have := (List.getElem?_eq_some_iff.1 hs).1; have := h1.lenQ; omega)
    exact ((h1.ow i x s hx hs).lt ha).2
theorem TI.mono (h : TI N t r mb hb F H Q w M n) {N' : Nat} (hN : N' ≤ N) : TI N' t r mb hb F H Q w M n := by
  obtain ⟨fl, bs, L, h1, h2⟩ := h.ex
  exact ⟨fl, bs, L, ⟨h1.kt, by have := h1.lo; omega, h1.len, h1.lenQ, h1.ram.mono hN, fun i x s hx hs => (h1.ow i x s hx hs).mono hN, h1.far, h1.held, h1.nd⟩, h2⟩
theorem TrG.bel (g : TrG t r mb hb Q Q' w W) (h : TI N t r mb hb F H Q w M n) (hN : N ≤ w.heap.size) : Below N w W := g.1.below hN fun k hk hs => by have := h.low k hs; omega
theorem Apt.new (h : TI N t r mb hb F H Q w M n) {q : Option Addr} (hq : ∀ a, q = some a → w.heap.size ≤ a.block) : Apt t r mb hb Q q := fun a ha hs => by
  have := hq a ha
  have := h.lt _ hs
  omega
theorem Apt.aft {q : Option Addr} (h : Apt t r mb hb Q q) (g : TrG t r mb hb Q Q' w W) (hq : ∀ a, q = some a → a.block < w.heap.size) : Apt t r mb hb Q' q := fun a ha hs => by
  rcases g.2 _ hs with h1 | h1
  · exact h a ha h1
  · have := hq a ha; omega
theorem ow_aft {e k B : Nat} {q : Option Addr} {m c : Nat} {vs : List Value} (o : Ow e k B w q m c vs) (h : Apt t r mb hb Q q) (g : TrG t r mb hb Q Q' w W) : Ow e k B W q m c vs :=
  o.keep fun a ha => g.1.block _ (o.lt ha).1 (h a ha)
theorem TI.grew {q q' : Option Addr} (k : TI N t r mb hb F H Q w M n) (g : Grew q w q' W) (h : Apt t r mb hb Q q) : TI N t r mb hb F H Q W M n ∧ Apt t r mb hb Q q' :=
  ⟨k.keep fun j hj => g.block j (k.lt j hj) fun a ha e => h a ha (e ▸ hj), fun a ha hs => by
    rcases g.new a ha with h1 | h1
    · exact h a h1 hs
    · have := k.lt _ hs; omega⟩
theorem TI.mod {b : Nat} (k : TI N t r mb hb F H Q w M n) (m : Mod b w W) (h : ¬ TS t r mb hb Q b) : TI N t r mb hb F H Q W M n := k.keep fun j hj => m.block j (k.lt j hj) fun e => h (e ▸ hj)
end
/-! ### The house -/
def rootND : ND := ⟨1, 0, 0, 1, 0, [], [((1 : Int), [46]), ((1 : Int), [46, 46])]⟩
def M0 : List ND := (List.replicate 200 ndZ).set 1 rootND
theorem rootND_ok : NdOk rootND := ⟨⟨by decide, by decide⟩, ⟨by decide, by decide⟩, fun h => absurd h (by decide), by decide, fun e he => by
  have he : e ∈ [((1 : Int), [46]), ((1 : Int), [46, 46])] := he
  rcases List.mem_cons.1 he with rfl | he
  · exact ⟨by decide, by decide, by decide, by decide⟩
  · rw [List.mem_singleton.1 he]
    exact ⟨by decide, by decide, by decide, by decide⟩, fun h => absurd rfl h, fun _ => rfl⟩
theorem nd_rep (n i : Nat) : nd (List.replicate n ndZ) i = ndZ := by
  unfold nd
  rw [List.getD_eq_getElem?_getD, List.getElem?_replicate]
  split <;> rfl
theorem mok_rep : MOk (List.replicate 200 ndZ) := ⟨List.length_replicate .., fun i => by rw [nd_rep]; exact ndZ_ok⟩
theorem root_abs {bs : List UInt8} {f : Nat} (hc : cont bs [f] = dirB 1 1) : AbsI bs (dirI f) rootND := by
  have hsz : rootND.size = 32 := by decide
  refine ⟨rfl, rfl, rfl, rfl, rfl, hsz.symm, by rw [hsz]; rfl, fun h => absurd rfl h, fun _ j e he => ?_⟩
  show win (cont bs [f]) (j * 16) 16 = _
  rw [hc]
  unfold dirB
  have l1 := packB_len (1 : Int) [46]
  have l2 := packB_len (1 : Int) [46, 46]
  have hl : (packB (1 : Int) [46] ++ packB (1 : Int) [46, 46]).length = 32 := by rw [List.length_append, l1, l2]
  match j, he with
  | 0, he =>
    have he : some ((1 : Int), [46]) = some e := he
    cases he
    rw [win_in (by rw [hl, List.length_replicate]; omega) (by omega) (by omega)]
    unfold win
    rw [List.drop_zero, List.take_left' l1]
  | 1, he =>
    have he : some ((1 : Int), [46, 46]) = some e := he
    cases he
    rw [win_in (by rw [hl, List.length_replicate]; omega) (by omega) (by omega)]
    unfold win
    rw [show 1 * 16 - 0 = 16 by omega, List.drop_left' l1, List.take_of_length_le (by omega)]
  | j + 2, he => simp [rootND] at he
theorem abs0 {bs : List UInt8} {f : Nat} (hc : cont bs [f] = dirB 1 1) : Abs bs ((List.replicate 200 zeroI).set 1 (dirI f)) M0 := by
  have h0 : Abs bs (List.replicate 200 zeroI) (List.replicate 200 ndZ) := ⟨mok_rep, List.length_replicate .., fun i x hx => by
    rw [rep_get hx, nd_rep]
    exact zero_abs _⟩
  exact h0.set1 (by decide) rootND_ok (root_abs hc)
/-- house: a memory of F frames and a tree on it. -/
theorem c_house {w : World} {F : Nat} (h1 : 2 ≤ F) (h2 : F ≤ 4096) : Calls Tryd.prog 23 #[.int .i64 ((F : Nat) : Int)] w
    (Ret fun v w' => ∃ t r mb hb Q, v = .tuple #[rp r, rp t] ∧ TI w.heap.size t r mb hb F [] Q w' M0 (F - 2) ∧ Below w.heap.size w w') := by
  refine W23_ok _ w _ ((c_ramNew (by omega) h2).mono ?_)
  rintro _ w1 ⟨_, rfl, r, mb, hb, fl, bs, rfl, hr, hfl, b1⟩
  have z1 := b1.size
  refine ⟨_, _, rfl, fun t' w' => t' = (false, ()) ∧ w1 = w', ?_, true, rfl, c_nb (fun h => absurd h (by decide)) (fun _ => ⟨(false, ()), rfl, rfl, rfl⟩)⟩
  rintro _ _ _ ⟨rfl, rfl⟩
  cases fl with
  | nil => simp at hfl; omega
  | cons f fl =>
    rw [List.length_cons] at hfl
    refine (c_TNew hr z1).mono ?_
    rintro _ w2 ⟨_, rfl, t, bs', Q, rfl, ht, h3, hc, kp⟩
    refine ⟨_, _, rfl, c_ne (fun h => absurd rfl h) (fun _ => ⟨t, r, mb, hb, Q, rfl, ⟨fl, bs', _, h3, abs0 hc, by omega, fun f hf => by cases hf⟩, b1.trans (kp.below z1 fun k hk hs => ?_)⟩)⟩
    obtain ⟨a, b, c⟩ := hr.lo
    rcases hs with rfl | rfl | rfl <;> omega
end Go.Proofs.YthkcdkldpbndnaaDoor
