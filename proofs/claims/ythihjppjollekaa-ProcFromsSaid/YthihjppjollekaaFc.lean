/- The program's test of a state of the table of processes; no condition. -/
import Derived.Test.YthihjppjollekaaFb
set_option linter.unusedVariables false
namespace Go.Proofs.Ythihjppjollekaa
open Go.RowKit Go.Hx

/-- May it have the parent that it has? -/
def parB (t : Tab) (i : Nat) : Bool :=
  if i = 0 then decide ((t.s 0).par = 0 ∧ (t.s 0).pid = 1) else
  decide (0 ≤ (t.s i).par ∧ (t.s i).par < 64 ∧ (t.s (t.s i).par.toNat).st ≠ 0 ∧ (t.s (t.s i).par.toNat).pid < (t.s i).pid ∧ ((t.s i).par = 0 ∨ (t.s (t.s i).par.toNat).st ≠ 3))
def chOk (p : Pr) : Bool := if p.st = 2 then chanB p.ck p.cn && !p.kil else decide (p.ck = 0 ∧ p.cn = 0)
def stOk (p : Pr) : Bool := decide (p.st = 3 ∨ p.sts = 0)
/-- The test of a slot. -/
def sndP (t : Tab) (any : Bool) (i : Nat) : Bool :=
  if (t.s i).st = 0 then decide (t.s i = Pr.zero) && (decide (i ≠ 0) || !any) else
  decide (0 ≤ (t.s i).st ∧ (t.s i).st ≤ 3) && (decide (1 ≤ (t.s i).pid ∧ (t.s i).pid < t.next) && (decide (∀ k, k < i → (t.s k).pid ≠ (t.s i).pid) && (parB t i && (chOk (t.s i) && stOk (t.s i)))))
theorem and_f1 {p : Prop} [Decidable p] {b : Bool} (h : ¬ p) : (decide p && b) = false := by simp [h]
theorem and_t1 {p : Prop} [Decidable p] {b : Bool} (h : p) : (decide p && b) = b := by simp [h]
theorem c63 {t : Tab} {i : Nat} (hi : i < 64) (any : Bool) (w : World) : Calls Try.prog 63 #[.agg t.enc, .int .i64 i, .bool any] w (Ret fun v w' => v = .bool (sndP t any i) ∧ Below w.heap.size w w') := by
  refine W63_ok _ _ _ w _ ?_
  refine newW_intro fun c w1 k1 l1 b1 => ?_
  have k1 : TabAt 31 w1 c t := k1
  have y1 := tab_lt k1
  have z1 := b1.size
  refine ⟨⟨by omega, by omega⟩, (t.s i).a, rfl, by simp only [Addr.add_lit, Nat.zero_add, Int.toNat_natCast]; exact k1.row hi, keepP fun d w2 k2 l2 b2 => ?_⟩
  have z2 := b2.size
  have y2 := k2.lt
  have b12 := b1.trans (b2.mono z1)
  have kt2 : TabAt 31 w2 c t := below_blk b2 y1 k1
  simp only [Addr.add_lit, Nat.zero_add]
  refine ⟨(t.s i).st, k2.cell rfl, c_eq (fun h0 => ?_) (fun h0 => ?_)⟩
  · have e : sndP t any i = (decide (t.s i = Pr.zero) && (decide (i ≠ 0) || !any)) := by unfold sndP; rw [if_pos h0]
    rw [e]
    refine ⟨_, rfl, row_whole k2, _, bld28, _, eq_Pr _ _, c_dec (fun hz => ?_) (fun hz => ⟨by rw [and_f1 hz], b12⟩)⟩
    rw [and_t1 hz]
    refine c_ne (fun hne => ⟨?_, b12⟩) (fun he => ⟨?_, b12⟩)
    · have : i ≠ 0 := by omega
      simp [this]
    · have : i = 0 := by omega
      simp [this]
  have hS : sndP t any i = (decide (0 ≤ (t.s i).st ∧ (t.s i).st ≤ 3) && (decide (1 ≤ (t.s i).pid ∧ (t.s i).pid < t.next) && (decide (∀ k, k < i → (t.s k).pid ≠ (t.s i).pid) && (parB t i && (chOk (t.s i) && stOk (t.s i)))))) := by unfold sndP; rw [if_neg h0]
  rw [hS]
  refine ⟨(t.s i).st, k2.cell rfl, c_dec (fun h1 => ⟨by rw [and_f1 (by omega)], b12⟩) (fun h1 => ⟨(t.s i).st, k2.cell rfl, c_dec (fun h2 => ⟨by rw [and_f1 (by omega)], b12⟩) (fun h2 => ?_)⟩)⟩
  rw [and_t1 (show 0 ≤ (t.s i).st ∧ (t.s i).st ≤ 3 by omega)]
  refine ⟨(t.s i).pid, k2.cell rfl, c_dec (fun h3 => ⟨by rw [and_f1 (by omega)], b12⟩) (fun h3 => ⟨(t.s i).pid, k2.cell rfl, t.next, kt2.next, c_dec (fun h4 => ⟨by rw [and_f1 (by omega)], b12⟩) (fun h4 => ?_)⟩)⟩
  rw [and_t1 (show 1 ≤ (t.s i).pid ∧ (t.s i).pid < t.next by omega)]
  refine ⟨fun x w3 => ∃ k : Nat, x = ((k : Int), ()) ∧ k ≤ i ∧ (∀ j, j < k → (t.s j).pid ≠ (t.s i).pid) ∧ Below w2.heap.size w2 w3, fun x _ => (64 - x.1).toNat, ⟨(0, ()), rfl, 0, rfl, by omega, fun j hj => by omega, Below.refl _ _⟩, ?_⟩
  rintro _ x w3 ⟨k, rfl, hk, hno, b3⟩
  dsimp only
  have z3 := b3.size
  have b13 := b12.trans (b3.mono (by omega))
  have y2t := tab_lt kt2
  have kt3 : TabAt 31 w3 c t := below_blk b3 y2t kt2
  have k3 := below_blk b3 y2 k2
  refine c_dec (fun hl => ?_) (fun hg => ?_)
  · have hk' : k < i := by omega
    have nx : IntKind.i64.wrap ((k : Int) + 1) = ((k + 1 : Nat) : Int) := by rw [wrap_in (by omega) (by omega)]; omega
    simp only [Int.toNat_natCast]
    refine ⟨⟨by omega, by omega⟩, (t.s k).pid, TabAt.pid (w := w3.drew) kt3 (by omega), (t.s i).pid, Blk.cell (w := w3.drew) k3 rfl, c_eq (fun he => ⟨?_, b13.drew⟩) (fun he => ?_)⟩
    · rw [and_f1 (fun hC => hC k hk' he)]
    · exact ⟨(((k + 1 : Nat) : Int), ()), by rw [nx]; rfl, ⟨k + 1, rfl, by omega, fun j hj => by
        by_cases e : j = k
        · subst e; exact he
        · exact hno j (by omega), b3.drew⟩, by dsimp only; omega⟩
  · have hki : k = i := by omega
    subst hki
    rw [and_t1 hno]
    refine ⟨fun _ w4 => parB t k = true ∧ Blk w4 d (t.s k).a 28 ∧ Below w.heap.size w w4, ?_, ?_⟩
    · rintro _ _ w4 ⟨hp, k4, b4⟩
      have z4 := b4.size
      have y4 := k4.lt
      rw [hp, Bool.true_and]
      refine ⟨fun _ w5 => chOk (t.s k) = true ∧ Blk w5 d (t.s k).a 28 ∧ Below w.heap.size w w5, ?_, ?_⟩
      · rintro _ _ w5 ⟨hc, k5, b5⟩
        rw [hc, Bool.true_and]
        unfold stOk
        refine ⟨(t.s k).st, k5.cell rfl, c_eq (fun h5 => ⟨by simp [h5], b5⟩) (fun h5 => ⟨(t.s k).sts, k5.cell rfl, ?_, b5⟩)⟩
        congr 1
        rw [Bool.eq_iff_iff]; simp [h5]
      · have hrow : RowAt w4 ⟨d, 3, none⟩ #[.int .i64 (t.s k).ck, .int .i64 (t.s k).cn] := row_blk k4 fun j hj => by
          match j, hj with
          | 0, _ => rfl
          | 1, _ => rfl
        unfold chOk
        refine ⟨(t.s k).st, k4.cell rfl, c_eq (fun h5 => ?_) (fun h5 => ?_)⟩
        · rw [if_pos h5]
          refine ⟨_, rfl, hrow, (c47 _ _ w4).mono ?_⟩
          rintro e w5 ⟨v, rfl, rfl, b5⟩
          have b45 := b4.trans (b5.mono z4)
          have k5 := below_blk b5 y4 k4
          refine ⟨_, rfl, c_nb (fun hc => ⟨by rw [hc]; rfl, b45⟩) (fun hc => ⟨(t.s k).kil, k5.cell (i := 5) rfl, c_b (fun hq => ⟨by rw [hq]; simp, b45⟩) (fun hq => ⟨(), rfl, by rw [hc, hq]; rfl, k5, b45⟩)⟩)⟩
        · rw [if_neg h5]
          refine ⟨_, rfl, hrow, _, bld26, _, eq_Chan _ _ _ _, c_ndec (fun hc => ⟨by rw [and_f1 hc], b4⟩) (fun hc => ⟨(), rfl, by simpa using hc, k4, b4⟩)⟩
    · unfold parB
      refine c_eq (fun h5 => ?_) (fun h5 => ?_)
      · have hk0 : k = 0 := by omega
        subst hk0
        rw [if_pos rfl]
        refine ⟨_, k3.cell rfl, c_ne (fun hq => ⟨by rw [and_f1 (fun hh => hq hh.1)], b13⟩) (fun hq => ⟨_, k3.cell rfl, c_ne (fun hq2 => ⟨by rw [and_f1 (fun hh => hq2 hh.2)], b13⟩) (fun hq2 => ⟨(), rfl, by simp [hq, hq2], k3, b13⟩)⟩)⟩
      · have hk0 : k ≠ 0 := by omega
        rw [if_neg hk0]
        refine ⟨(t.s k).par, k3.cell rfl, c_dec (fun hq => ⟨by rw [and_f1 (fun hh => by omega)], b13⟩) (fun hq => ⟨(t.s k).par, k3.cell rfl, c_dec (fun hq2 => ⟨by rw [and_f1 (fun hh => by omega)], b13⟩) (fun hq2 => ?_)⟩)⟩
        refine ⟨(t.s k).par, k3.cell rfl, ⟨by omega, by omega⟩, (t.s (t.s k).par.toNat).a, rfl, kt3.row (by omega), keepP fun d2 w4 k4 l4 b4 => ?_⟩
        have b14 := b13.trans (b4.mono b13.size)
        have k34 := below_blk b4 k3.lt k3
        simp only [Addr.add_lit, Nat.zero_add]
        refine ⟨_, k4.cell rfl, c_eq (fun hq3 => ⟨by rw [and_f1 (fun hh => hh.2.2.1 hq3)], b14⟩) (fun hq3 => ?_)⟩
        refine ⟨(t.s (t.s k).par.toNat).pid, k4.cell rfl, (t.s k).pid, k34.cell rfl, c_dec (fun hq4 => ⟨by rw [and_f1 (fun hh => by omega)], b14⟩) (fun hq4 => ?_)⟩
        refine ⟨(t.s (t.s k).par.toNat).st, k4.cell rfl, c_eq (fun hq5 => ?_) (fun hq5 => ⟨(), rfl, by simp only [decide_eq_true_eq]; exact ⟨by omega, by omega, hq3, by omega, Or.inr hq5⟩, k34, b14⟩)⟩
        refine ⟨(t.s k).par, k34.cell rfl, c_ne (fun hq6 => ⟨?_, b14⟩) (fun hq6 => ⟨(), rfl, by simp only [decide_eq_true_eq]; exact ⟨by omega, by omega, hq3, by omega, Or.inl hq6⟩, k34, b14⟩)⟩
        rw [and_f1]
        intro hh
        rcases hh.2.2.2.2 with e | e
        · exact hq6 e
        · exact e hq5
end Go.Proofs.Ythihjppjollekaa
