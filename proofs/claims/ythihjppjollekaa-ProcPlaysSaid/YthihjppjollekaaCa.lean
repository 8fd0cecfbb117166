/- Contracts of the program's small functions on the table of processes; no condition. -/
import Derived.Test.YthihjppjollekaaTa
set_option linter.unusedVariables false
namespace Go.Proofs.Ythihjppjollekaa
open Go.RowKit Go.Hx

/-- It comes back with a value, and Q holds of it and the world. -/
def Ret (Q : Value → World → Prop) (e : Ending) (w' : World) : Prop := ∃ v, e = .returned v ∧ Q v w'

theorem c35 {b : Nat} {t : Tab} {w : World} (h : TabAt 63 w b t) : Calls Try.prog 35 #[.pointer (some ⟨b, 0, none⟩)] w (Ret fun v w' => v = .bool (t.next == 0) ∧ w' = w) :=
  W35_ok _ w _ ⟨_, by simp only [Addr.add_lit, Nat.zero_add]; exact h.next, rfl, rfl⟩
theorem c35n {w : World} : Calls Try.prog 35 #[.pointer none] w (Ret fun v w' => v = .bool true ∧ w' = w) := W35_ok _ w _ ⟨rfl, rfl⟩

/-- Is there a process in that slot? -/
def Tab.has (t : Tab) (s : Int) : Prop := 0 ≤ s ∧ s < 64 ∧ (t.s s.toNat).st ≠ 0
instance (t : Tab) (s : Int) : Decidable (t.has s) := by unfold Tab.has; infer_instance
def atA (b : Nat) (t : Tab) (s : Int) : Option Addr := if t.has s then some ⟨b, s.toNat * 7, none⟩ else none
theorem c38 {b : Nat} {t : Tab} {w : World} (h : TabAt 63 w b t) (s : Int) : Calls Try.prog 38 #[.pointer (some ⟨b, 0, none⟩), .int .i64 s] w (Ret fun v w' => v = .pointer (atA b t s) ∧ w' = w) := by
  refine W38_ok _ _ w _ ?_
  unfold W38 atA
  refine c_dec (fun h0 => ?_) (fun h0 => c_dec (fun h1 => ?_) (fun h1 => ?_))
  · rw [if_neg (by unfold Tab.has; omega)]; exact ⟨rfl, rfl⟩
  · rw [if_neg (by unfold Tab.has; omega)]; exact ⟨rfl, rfl⟩
  · refine ⟨⟨by omega, by omega⟩, _, by simp only [Addr.add_lit, Nat.zero_add]; exact h.st (by omega), ?_⟩
    refine c_eq (fun h2 => ?_) (fun h2 => ?_)
    · rw [if_neg (by unfold Tab.has; omega)]; exact ⟨rfl, rfl⟩
    · rw [if_pos ⟨by omega, by omega, h2⟩]
      refine ⟨⟨by omega, by omega⟩, ?_, rfl⟩
      simp only [Addr.add_lit, Nat.zero_add]

def chanB (k n : Int) : Bool := decide (1 ≤ k ∧ k ≤ 5 ∧ 0 ≤ n)
theorem c47 (k n : Int) (w : World) : Calls Try.prog 47 #[.agg #[.int .i64 k, .int .i64 n]] w (Ret fun v w' => v = .bool (chanB k n) ∧ Below w.heap.size w w') := by
  refine W47_ok _ w _ ?_
  unfold W47 chanB
  refine newW_intro fun b w1 hb hl hbel => ?_
  refine ⟨k, hb.cell rfl, c_dec (fun h1 => ⟨k, hb.cell rfl, c_dec (fun h2 => ⟨n, by rw [Addr.add_lit]; exact hb.cell rfl, ?_, hbel⟩) (fun h2 => ⟨?_, hbel⟩)⟩) (fun h1 => ⟨?_, hbel⟩)⟩
  · congr 1; rw [Bool.eq_iff_iff]; simp; omega
  · congr 1; rw [Bool.eq_iff_iff]; simp; omega
  · congr 1; rw [Bool.eq_iff_iff]; simp; omega

/-- A sleeping process that can run. -/
def upP (p : Pr) : Pr := { p with st := 1, ck := 0, cn := 0 }
theorem bld26 : bldP Try.prog 26 [] (.agg #[.int .i64 0, .int .i64 0]) := fun w => by kernel_rfl
theorem bld28 : bldP Try.prog 28 [] (.agg Pr.zero.a) := fun w => by kernel_rfl
theorem c36 {T b : Nat} {t : Tab} {w : World} (h : TabAt T w b t) {i : Nat} (hi : i < 64) : Calls Try.prog 36 #[.pointer (some ⟨b, i * 7, none⟩)] w
    (Ret fun v w' => v = .tuple #[] ∧ TabAt T w' b (t.set i (upP (t.s i))) ∧ Mod b w w' ∧ w'.heap.size = w.heap.size) := by
  refine W36_ok _ w _ ?_
  refine ⟨_, bld26, ?_⟩
  simp only [nlW, Addr.add_lit]
  refine tab_stC h hi (by omega) { t.s i with st := 1 } rfl fun w1 h1 m1 s1 => ?_
  refine tab_stCh h1 hi 0 0 fun w2 h2 m2 s2 => ⟨trivial, ?_, m1.trans m2, s2.trans s1⟩
  rw [set_same, set_set] at h2
  exact h2

/-- The first of 0 to 63 of which p says yes. -/
def fs (p : Nat → Bool) : Option Nat := (List.range 64).find? p
def fsV (p : Nat → Bool) : Value := match fs p with
  | some i => .tuple #[.int .i64 i, .bool true]
  | none => .tuple #[.int .i64 (-1), .bool false]
theorem fs_some {p : Nat → Bool} {k : Nat} (hk : k < 64) (h : p k = true) (hn : ∀ j, j < k → p j = false) : fs p = some k := by
  unfold fs
  rw [List.find?_range_eq_some]
  exact ⟨h, by simp; omega, fun j hj => by simp [hn j hj]⟩
theorem fs_none {p : Nat → Bool} (hn : ∀ j, j < 64 → p j = false) : fs p = none := by
  unfold fs
  rw [List.find?_eq_none]
  intro x hx
  simp [hn x (List.mem_range.1 hx)]
theorem fs_spec {p : Nat → Bool} {k : Nat} (h : fs p = some k) : k < 64 ∧ p k = true ∧ ∀ j, j < k → p j = false := by
  unfold fs at h
  rw [List.find?_range_eq_some] at h
  exact ⟨by simpa using h.2.1, h.1, fun j hj => by simpa using h.2.2 j hj⟩
theorem fs_spec_none {p : Nat → Bool} (h : fs p = none) : ∀ j, j < 64 → p j = false := by
  unfold fs at h
  rw [List.find?_eq_none] at h
  intro j hj
  have := h j (List.mem_range.2 hj)
  simpa using this
theorem tv1 {n m : Int} (h : n = m) : ([Value.int .i64 n] : List Value) = tv [(0, .int .i64)] (m, ()) := by rw [h]; rfl
theorem c39 {f : Value} {p : Nat → Bool} {w : World} (hf : ∀ (i : Nat) (w' : World), i < 64 → Below w.heap.size w w' → calV Try.prog f [.int .i64 i] w' (Ret fun v w'' => v = .bool (p i) ∧ Below w'.heap.size w' w'')) :
    Calls Try.prog 39 #[f] w (Ret fun v w' => v = fsV p ∧ Below w.heap.size w w') := by
  refine W39_ok _ w _ ?_
  refine ⟨fun t w' => ∃ k : Nat, t = ((k : Int), ()) ∧ k ≤ 64 ∧ (∀ j, j < k → p j = false) ∧ Below w.heap.size w w', fun t _ => (64 - t.1).toNat, ⟨(0, ()), rfl, 0, rfl, by omega, by omega, Below.refl _ _⟩, ?_⟩
  rintro _ t w' ⟨k, rfl, hk, hn, hb⟩
  refine c_dec (fun h1 => ?_) (fun h1 => ?_)
  · have h1' : (k : Int) < 64 := h1
    have hcall : ∀ R R' : Ending → World → Prop, (∀ e w, R e w → R' e w) → calV Try.prog f [.int .i64 k] w' R → calV Try.prog f [.int .i64 k] w' R' := fun R R' hR hc => by
      unfold calV at *
      split at hc
      · exact cond_mono (fun h => Calls.mono h hR) id hc
      · exact hc
    refine hcall _ _ ?_ (hf k w' (by omega) hb)
    rintro e w2 ⟨v, rfl, rfl, hb2⟩
    refine ⟨_, rfl, c_b (fun hp => ?_) (fun hp => ?_)⟩
    · exact ⟨by unfold fsV; rw [fs_some (by omega) hp hn], hb.trans (hb2.mono hb.size)⟩
    · refine ⟨((k + 1 : Nat), ()), ?_, ⟨k + 1, rfl, by omega, fun j hj => ?_, hb.trans (hb2.mono hb.size)⟩, ?_⟩
      · dsimp only; rw [wrap_in (by omega) (by omega)]; rfl
      · by_cases e : j = k
        · subst e; exact hp
        · exact hn j (by omega)
      · dsimp only; omega
  · have h1' : ¬ (k : Int) < 64 := h1
    exact ⟨by unfold fsV; rw [fs_none (fun j hj => hn j (by omega))], hb⟩
end Go.Proofs.Ythihjppjollekaa
