/- The table of a state, the program's and the document's; no condition. -/
import Derived.Test.YthihjppjollekaaFc
set_option linter.unusedVariables false
namespace Go.Proofs.Ythihjppjollekaa
open Go.RowKit Go.Hx

theorem fsV_eq (p : Nat → Bool) : fsV p = .tuple #[.int .i64 (match fs p with | some i => (i : Int) | none => -1), .bool (fs p).isSome] := by
  unfold fsV
  cases fs p <;> rfl
def anyT (t : Tab) : Bool := (fs fun i => decide ((t.s i).st ≠ 0)).isSome
/-- Where a state is wrong. -/
def fromAt (t : Tab) : Option Nat :=
  if t.next < 1 ∨ t.next > 2147483648 ∨ (t.next == 1) = anyT t then some 64 else fs fun i => !sndP t (anyT t) i
theorem okFrom {t : Tab} (h : Ok t) : fromAt t = none := by
  have ha : anyT t = decide ((t.s 0).st ≠ 0) := any_iff h
  unfold fromAt
  have hn1 := h.n1
  have hn2 := h.n2
  rw [if_neg]
  · apply fs_none
    intro i hi
    rw [Bool.not_eq_false']
    unfold sndP
    by_cases h0 : (t.s i).st = 0
    · rw [if_pos h0, and_t1 (h.free i hi h0), ha]
      by_cases hi0 : i = 0
      · subst hi0; simp [h0]
      · simp [hi0]
    · rw [if_neg h0, and_t1 (h.st i hi), and_t1 (h.pid i hi h0), and_t1]
      · have l := h.loc i hi h0
        have e1 : chOk (t.s i) = true := by
          unfold chOk
          split
          · rename_i h2; rw [(l.slp h2).1, (l.slp h2).2]; rfl
          · rename_i h2; simpa using l.chn h2
        have e2 : stOk (t.s i) = true := by
          unfold stOk
          simp only [decide_eq_true_eq]
          by_cases h3 : (t.s i).st = 3
          · exact Or.inl h3
          · exact Or.inr (l.sts h3)
        rw [e1, e2]
        unfold parB
        by_cases hi0 : i = 0
        · subst hi0
          have := h.root h0
          simp [this]
        · obtain ⟨p, hp, g1, g2, g3, g4⟩ := h.par i hi hi0 h0
          rw [if_neg hi0, g1]
          simp only [Int.toNat_natCast, Bool.and_true, decide_eq_true_eq]
          exact ⟨by omega, by omega, g2, g3, by rcases g4 with e | e; exact Or.inl (by omega); exact Or.inr e⟩
      · intro k hk e
        by_cases hk0 : (t.s k).st = 0
        · have := h.free k (by omega) hk0
          rw [this] at e
          have := (h.pid i hi h0).1
          rw [← e] at this
          exact absurd this (by decide)
        · have := h.inj k i (by omega) hi hk0 h0 e
          omega
  · rintro (e | e | e)
    · omega
    · omega
    · rw [ha] at e
      by_cases h0 : (t.s 0).st = 0
      · rw [(h.emp h0).1] at e; simp [h0] at e
      · have h1 := (h.root h0).1
        have h2 := (h.pid 0 (by omega) h0).2
        have h3 : (t.next == 1) = false := by simp; omega
        rw [h3] at e; simp [h0] at e
theorem fromOk {t : Tab} (h : fromAt t = none) : Ok t := by
  unfold fromAt at h
  split at h
  · cases h
  rename_i hn
  have hs : ∀ i, i < 64 → sndP t (anyT t) i = true := fun i hi => by
    have := fs_spec_none h i hi
    simpa using this
  have hz : ∀ i, i < 64 → (t.s i).st = 0 → t.s i = Pr.zero ∧ (i ≠ 0 ∨ anyT t = false) := fun i hi h0 => by
    have := hs i hi
    unfold sndP at this
    rw [if_pos h0] at this
    simpa using this
  have hu : ∀ i, i < 64 → (t.s i).st ≠ 0 → (0 ≤ (t.s i).st ∧ (t.s i).st ≤ 3) ∧ (1 ≤ (t.s i).pid ∧ (t.s i).pid < t.next) ∧ (∀ k, k < i → (t.s k).pid ≠ (t.s i).pid) ∧ parB t i = true ∧ chOk (t.s i) = true ∧ stOk (t.s i) = true := fun i hi h0 => by
    have := hs i hi
    unfold sndP at this
    rw [if_neg h0] at this
    simp only [Bool.and_eq_true, decide_eq_true_eq] at this
    exact this
  refine { n1 := by omega, n2 := by omega, free := fun i hi h0 => (hz i hi h0).1, st := ?_, pid := fun i hi h0 => (hu i hi h0).2.1, inj := ?_, emp := ?_, root := ?_, loc := ?_, par := ?_ }
  · intro i hi
    by_cases h0 : (t.s i).st = 0
    · rw [h0]; omega
    · exact (hu i hi h0).1
  · intro i j hi hj ei ej e
    apply Classical.byContradiction
    intro hne
    by_cases hl : i < j
    · exact (hu j hj ej).2.2.1 i hl e
    · exact (hu i hi ei).2.2.1 j (by omega) e.symm
  · intro h0
    have ha : anyT t = false := by rcases (hz 0 (by omega) h0).2 with e | e; exact absurd rfl e; exact e
    have h1 : ¬ (t.next == 1) = anyT t := fun e => hn (Or.inr (Or.inr e))
    rw [ha] at h1
    refine ⟨by simpa using h1, fun i hi => ?_⟩
    unfold anyT at ha
    have := fs_spec_none (Option.isNone_iff_eq_none.1 (by simpa using ha)) i hi
    simpa using this
  · intro h0
    have := (hu 0 (by omega) h0).2.2.2.1
    unfold parB at this
    simp at this
    exact ⟨this.2, this.1⟩
  · intro i hi h0
    have h1 := (hu i hi h0).2.2.2.2
    have hc := h1.1
    have hst := h1.2
    unfold chOk at hc
    unfold stOk at hst
    simp only [decide_eq_true_eq] at hst
    refine ⟨fun h2 => ?_, fun h2 => ?_, fun h3 => ?_⟩
    · rw [if_pos h2] at hc; simp at hc; exact ⟨hc.2, hc.1⟩
    · rw [if_neg h2] at hc; simpa using hc
    · rcases hst with e | e
      · exact absurd e h3
      · exact e
  · intro i hi hi0 h0
    have := (hu i hi h0).2.2.2.1
    unfold parB at this
    rw [if_neg hi0] at this
    simp only [decide_eq_true_eq] at this
    obtain ⟨a1, a2, a3, a4, a5⟩ := this
    refine ⟨(t.s i).par.toNat, by omega, by omega, a3, a4, ?_⟩
    rcases a5 with e | e
    · exact Or.inl (by omega)
    · exact Or.inr e
theorem c61 {c : Nat} {t : Tab} {w : World} (h : TabAt 31 w c t) {i : Nat} (hi : i < 64) :
    Calls Try.prog 61 #[.int .i64 i, .pointer (some ⟨c, 0, none⟩)] w (Ret fun v w' => v = .bool (decide ((t.s i).st ≠ 0)) ∧ Below w.heap.size w w') := by
  refine W61_ok _ _ w _ ?_
  refine ⟨⟨by omega, by omega⟩, (t.s i).st, by simp only [Addr.add_lit, Nat.zero_add, Int.toNat_natCast]; exact h.st hi, ?_, Below.refl _ _⟩
  congr 1
  rw [Bool.eq_iff_iff]; simp
theorem c62 {c a : Nat} {t : Tab} {any : Bool} {w : World} (h : TabAt 31 w c t) (ha : Blk w a #[.bool any] 4) {i : Nat} (hi : i < 64) :
    Calls Try.prog 62 #[.int .i64 i, .pointer (some ⟨c, 0, none⟩), .pointer (some ⟨a, 0, none⟩)] w (Ret fun v w' => v = .bool (!sndP t any i) ∧ Below w.heap.size w w') := by
  refine W62_ok _ _ _ w _ ?_
  refine ⟨t.enc, enc_size t, row_whole h, any, ha.cell rfl, (c63 hi any w).mono ?_⟩
  rintro e w' ⟨v, rfl, rfl, hb⟩
  exact ⟨_, rfl, rfl, hb⟩
/-- What a refusal of layer 13 holds. -/
def fltA (at_ : Int) : Array Value := #[.string ⟨#[112, 114, 111, 99]⟩, .int .i64 at_, .iface 56 (.int .i64 4)]
theorem bld105 (n : Int) : bldP Try.prog 105 [(0, .string ⟨#[112, 114, 111, 99]⟩), (1, .int .i64 n), (2, .iface 56 (.int .i64 (4 : Int)))] (.agg (fltA n)) := fun w => by kernel_rfl
theorem c60 (n : Int) (w : World) : Calls Try.prog 60 #[.int .i64 n] w (Ret fun v w' => ∃ f, v = .tuple #[.pointer none, .iface 103 (.pointer (some ⟨f, 0, none⟩))] ∧ Blk w' f (fltA n) 105 ∧ w.heap.size ≤ f ∧ Below w.heap.size w w') :=
  W60_ok _ w _ ⟨_, bld105 n, newW_intro fun b w1 h1 h2 h3 => ⟨b, rfl, h1, h2, h3⟩⟩
set_option maxRecDepth 100000 in
theorem bld63t (t : Tab) : bldP Try.prog 63 [(0, .agg t.rowsA), (1, .int .i64 t.next)] (.agg t.enc) := by
  intro w

  refine build_struct (fields := match Try.prog.underlying 63 with | some (.struct f) => f | _ => #[]) (z := .agg tZero.enc) (pl := #[(0, 448), (448, 1)]) (by kernel_rfl) (by kernel_rfl) (by kernel_rfl) ?_
  exact fill_tab t
set_option maxRecDepth 100000 in
theorem bld102t (t : Tab) : bldP Try.prog 102 [(0, .agg t.rowsA), (1, .int .i64 t.next)] (.agg t.enc) := by
  intro w
  refine build_struct (fields := match Try.prog.underlying 102 with | some (.struct f) => f | _ => #[]) (z := .agg tZero.enc) (pl := #[(0, 448), (448, 1)]) (by kernel_rfl) (by kernel_rfl) (by kernel_rfl) ?_
  exact fill_tab t
end Go.Proofs.Ythihjppjollekaa
