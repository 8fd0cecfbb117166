/- The table of a state, made; the program's and the document's; no condition. -/
import Derived.Test.YthihjppjollekaaFd
set_option linter.unusedVariables false
namespace Go.Proofs.Ythihjppjollekaa
open Go.RowKit Go.Hx

/-- What From gives, the program's. -/
def FromP (t : Tab) (w : World) (v : Value) (w' : World) : Prop :=
  match fromAt t with
  | none => ∃ b, v = .tuple #[.pointer (some ⟨b, 0, none⟩), .nilIface] ∧ TabAt 63 w' b t ∧ w.heap.size ≤ b
  | some at_ => ∃ f, v = .tuple #[.pointer none, .iface 103 (.pointer (some ⟨f, 0, none⟩))] ∧ Blk w' f (fltA at_) 105 ∧ w.heap.size ≤ f
theorem c31 (t : Tab) (w : World) : Calls Try.prog 31 #[.agg t.enc] w (Ret fun v w' => FromP t w v w' ∧ Below w.heap.size w w') := by
  refine W31_ok _ w _ ?_
  refine newW_intro fun c w1 k1 l1 b1 => ?_
  have k1 : TabAt 31 w1 c t := k1
  have y1 := tab_lt k1
  have z1 := b1.size
  refine (c39 (p := fun i => decide ((t.s i).st ≠ 0)) (fun i w' hi hb' => calV_of (by kernel_rfl) (c61 (t := t) (c := c) (below_blk hb' y1 k1) hi))).mono ?_
  rintro e w2 ⟨v, rfl, rfl, b2⟩
  rw [fsV_eq]
  have z2 := b2.size
  have k2 : TabAt 31 w2 c t := below_blk b2 y1 k1
  have y2 := tab_lt k2
  refine ⟨_, _, rfl, newW_intro fun a w3 k3 l3 b3 => stC_intro k3 (by simp) fun w4 k4 m4 s4 => ?_⟩
  have z3 := b3.size
  have k4 : Blk w4 a #[.bool (anyT t)] 4 := k4
  have k34 : TabAt 31 w4 c t := m4.blk (by omega) (below_blk b3 y2 k2)
  have b4 : Below w.heap.size w w4 := (b1.trans ((b2.mono z1).trans (b3.mono (by omega)))).trans (m4.below (by omega) (by omega))
  have y34 := tab_lt k34
  have y4 := k4.lt
  simp only [Addr.add_lit, Nat.zero_add]
  refine ⟨fun x w5 => x = (decide (t.next < 1 ∨ t.next > 2147483648 ∨ (t.next == 1) = anyT t), ()) ∧ w5 = w4, ?_, ?_⟩
  · rintro _ _ w5 ⟨rfl, rfl⟩
    refine c_dec (fun hb => ?_) (fun hb => ?_)
    · refine (c60 64 w5).mono ?_
      rintro e w6 ⟨v, rfl, f, rfl, h6, l6, b6⟩
      refine ⟨_, _, rfl, ?_, b4.trans (b6.mono b4.size)⟩
      have e : fromAt t = some 64 := by unfold fromAt; rw [if_pos hb]
      unfold FromP
      rw [e]
      exact ⟨f, rfl, h6, Nat.le_trans b4.size l6⟩
    · have ef : fromAt t = fs fun i => !sndP t (anyT t) i := by unfold fromAt; rw [if_neg hb]
      refine (c39 (p := fun i => !sndP t (anyT t) i) (fun i w' hi hb' => calV_of (by kernel_rfl) (c62 (t := t) (c := c) (a := a) (any := anyT t) (below_blk hb' y34 k34) (below_blk hb' y4 k4) hi))).mono ?_
      rintro e w6 ⟨v, rfl, rfl, b6⟩
      rw [fsV_eq, ← ef]
      have b46 := b4.trans (b6.mono b4.size)
      refine ⟨_, _, rfl, ?_⟩
      unfold FromP
      cases e : fromAt t with
      | some i =>
        refine (c60 i w6).mono ?_
        rintro e w7 ⟨v, rfl, f, rfl, h7, l7, b7⟩
        exact ⟨_, _, rfl, ⟨f, rfl, h7, Nat.le_trans b46.size l7⟩, b46.trans (b7.mono b46.size)⟩
      | none =>
        have k6 : TabAt 31 w6 c t := below_blk b6 y34 k34
        have hl : t.rowsA.size = 448 := by unfold Tab.rowsA; simp [rows_len]
        refine ⟨t.rowsA, hl, row_blk k6 fun j hj => ?_, t.next, k6.next, _, bld63t t, newW_intro fun b w7 k7 l7 b7 => ⟨⟨b, rfl, k7, Nat.le_trans b46.size l7⟩, b46.trans (b7.mono b46.size)⟩⟩
        rw [hl] at hj
        rw [Nat.zero_add]
        show t.l.toArray[j]? = (rows t.s 0 64).toArray[j]?
        rw [List.getElem?_toArray, List.getElem?_toArray, Tab.l, List.getElem?_append_left (by rw [rows_len]; omega)]
  · refine ⟨t.next, k34.next, c_dec (fun h1 => ⟨(true, ()), rfl, by rw [decide_eq_true (Or.inl h1)], rfl⟩) (fun h1 => ⟨t.next, k34.next, c_dec (fun h2 => ⟨(true, ()), rfl, by rw [decide_eq_true (Or.inr (Or.inl h2))], rfl⟩) (fun h2 => ?_)⟩)⟩
    refine ⟨t.next, k34.next, anyT t, k4.cell rfl, (((t.next == 1) == anyT t), ()), rfl, ?_, rfl⟩
    congr 1
    rw [Bool.eq_iff_iff]
    simp only [beq_iff_eq, decide_eq_true_eq]
    constructor
    · intro e; exact Or.inr (Or.inr e)
    · rintro (e | e | e)
      · exact absurd e h1
      · exact absurd e h2
      · exact e

/-! ### the document's -/
theorem c73 {t : Tab} {i : Nat} (hi : i < 64) (w : World) : Calls Try.prog 73 #[.agg t.enc, .int .i64 i] w (Ret fun v w' => v = .bool (parB t i) ∧ Below w.heap.size w w') := by
  refine W73_ok _ _ w _ ?_
  refine newW_intro fun c w1 k1 l1 b1 => ?_
  have k1 : TabAt 31 w1 c t := k1
  have y1 := tab_lt k1
  have z1 := b1.size
  refine ⟨⟨by omega, by omega⟩, (t.s i).a, rfl, by simp only [Addr.add_lit, Nat.zero_add, Int.toNat_natCast]; exact k1.row hi, keepP fun d w2 k2 l2 b2 => ?_⟩
  have z2 := b2.size
  have b12 := b1.trans (b2.mono z1)
  have kt2 : TabAt 31 w2 c t := below_blk b2 y1 k1
  have y2 := k2.lt
  simp only [Addr.add_lit, Nat.zero_add]
  unfold parB
  refine c_eq (fun h5 => ?_) (fun h5 => ?_)
  · have hk0 : i = 0 := by omega
    subst hk0
    rw [if_pos rfl]
    refine ⟨_, k2.cell rfl, c_eq (fun hq => ⟨_, k2.cell rfl, ?_, b12⟩) (fun hq => ⟨by rw [decide_eq_false (fun hh => hq hh.1)], b12⟩)⟩
    congr 1
    rw [Bool.eq_iff_iff]; simp [hq]
  · have hk0 : i ≠ 0 := by omega
    rw [if_neg hk0]
    refine ⟨(t.s i).par, k2.cell rfl, c_dec (fun hq => ⟨by rw [decide_eq_false (fun hh => by omega)], b12⟩) (fun hq => ⟨(t.s i).par, k2.cell rfl, c_dec (fun hq2 => ⟨by rw [decide_eq_false (fun hh => by omega)], b12⟩) (fun hq2 => ?_)⟩)⟩
    refine ⟨(t.s i).par, k2.cell rfl, ⟨by omega, by omega⟩, (t.s (t.s i).par.toNat).a, rfl, kt2.row (by omega), keepP fun d2 w4 k4 l4 b4 => ?_⟩
    have b14 := b12.trans (b4.mono b12.size)
    have k34 := below_blk b4 k2.lt k2
    simp only [Addr.add_lit, Nat.zero_add]
    refine ⟨_, k4.cell rfl, c_eq (fun hq3 => ⟨by rw [decide_eq_false (fun hh => hh.2.2.1 hq3)], b14⟩) (fun hq3 => ?_)⟩
    refine ⟨(t.s (t.s i).par.toNat).pid, k4.cell rfl, (t.s i).pid, k34.cell rfl, c_dec (fun hq4 => ⟨by rw [decide_eq_false (fun hh => by omega)], b14⟩) (fun hq4 => ?_)⟩
    refine ⟨(t.s i).par, k34.cell rfl, c_eq (fun hq6 => ⟨?_, b14⟩) (fun hq6 => ⟨(t.s (t.s i).par.toNat).st, k4.cell rfl, ?_, b14⟩)⟩
    · rw [decide_eq_true]
      exact ⟨by omega, by omega, hq3, by omega, Or.inl hq6⟩
    · congr 1
      rw [Bool.eq_iff_iff]
      simp only [bne_iff_ne, decide_eq_true_eq]
      constructor
      · intro e; exact ⟨by omega, by omega, hq3, by omega, Or.inr e⟩
      · intro hh
        rcases hh.2.2.2.2 with e | e
        · exact absurd e hq6
        · exact e
/-- The document's test of a slot. -/
def sndR (t : Tab) (any : Bool) (i : Nat) : Bool :=
  if (t.s i).st = 0 then decide (t.s i = Pr.zero) && (decide (i ≠ 0) || !any) else
  decide (0 ≤ (t.s i).st ∧ (t.s i).st ≤ 3) && (decide (1 ≤ (t.s i).pid ∧ (t.s i).pid < t.next) && (decide (∀ k, k < i → (t.s k).st ≠ 0 → (t.s k).pid ≠ (t.s i).pid) && (parB t i && (chOk (t.s i) && stOk (t.s i)))))
theorem snd_eq {t : Tab} {any : Bool} {i : Nat} (h : ∀ j, j < i → sndP t any j = true) : sndP t any i = sndR t any i := by
  unfold sndP sndR
  by_cases h0 : (t.s i).st = 0
  · rw [if_pos h0, if_pos h0]
  · rw [if_neg h0, if_neg h0]
    by_cases h1 : 0 ≤ (t.s i).st ∧ (t.s i).st ≤ 3
    · rw [and_t1 h1, and_t1 h1]
      by_cases h2 : 1 ≤ (t.s i).pid ∧ (t.s i).pid < t.next
      · rw [and_t1 h2, and_t1 h2]
        congr 1
        rw [Bool.eq_iff_iff]
        simp only [decide_eq_true_eq]
        constructor
        · intro hh k hk _; exact hh k hk
        · intro hh k hk
          by_cases hk0 : (t.s k).st = 0
          · have := h k hk
            unfold sndP at this
            rw [if_pos hk0] at this
            simp only [Bool.and_eq_true, decide_eq_true_eq] at this
            rw [this.1]
            show (0 : Int) ≠ _
            omega
          · exact hh k hk hk0
      · rw [and_f1 h2, and_f1 h2]
    · rw [and_f1 h1, and_f1 h1]
theorem snd_fs (t : Tab) (any : Bool) : (fs fun i => !sndP t any i) = fs fun i => !sndR t any i := by
  cases e : fs fun i => !sndP t any i with
  | none =>
    have h := fs_spec_none e
    rw [fs_none]
    intro i hi
    rw [← snd_eq (fun j hj => by simpa using h j (by omega))]
    exact h i hi
  | some i =>
    have h := fs_spec e
    have hb : ∀ j, j < i → sndP t any j = true := fun j hj => by simpa using h.2.2 j hj
    rw [fs_some h.1]
    · rw [← snd_eq hb]; exact h.2.1
    · intro j hj
      rw [← snd_eq (fun k hk => hb k (by omega)), hb j hj]; rfl
theorem c64 {t : Tab} {i : Nat} (hi : i < 64) (any : Bool) (w : World) : Calls Try.prog 64 #[.agg t.enc, .int .i64 i, .bool any] w (Ret fun v w' => v = .bool (sndR t any i) ∧ Below w.heap.size w w') := by
  refine W64_ok _ _ _ w _ ?_
  refine newW_intro fun c w1 k1 l1 b1 => ?_
  have k1 : TabAt 31 w1 c t := k1
  have y1 := tab_lt k1
  have z1 := b1.size
  refine ⟨⟨by omega, by omega⟩, (t.s i).a, rfl, by simp only [Addr.add_lit, Nat.zero_add, Int.toNat_natCast]; exact k1.row hi, keepP fun d w2 k2 l2 b2 => ?_⟩
  have z2 := b2.size
  have y2 := k2.lt
  have b12 := b1.trans (b2.mono z1)
  have kt2 : TabAt 31 w2 c t := below_blk b2 y1 k1
  simp only [Addr.add_lit, Nat.zero_add]
  refine ⟨(t.s i).st, k2.cell rfl, c_eq (fun h0 => ?_) (fun h0 => ?_)⟩
  · have e : sndR t any i = (decide (t.s i = Pr.zero) && (decide (i ≠ 0) || !any)) := by unfold sndR; rw [if_pos h0]
    rw [e]
    refine ⟨_, rfl, row_whole k2, _, bld28, _, eq_Pr _ _, c_dec (fun hz => ?_) (fun hz => ⟨by rw [and_f1 hz], b12⟩)⟩
    rw [and_t1 hz]
    refine c_ne (fun hne => ⟨?_, b12⟩) (fun he => ⟨?_, b12⟩)
    · have : i ≠ 0 := by omega
      simp [this]
    · have : i = 0 := by omega
      simp [this]
  have hS : sndR t any i = (decide (0 ≤ (t.s i).st ∧ (t.s i).st ≤ 3) && (decide (1 ≤ (t.s i).pid ∧ (t.s i).pid < t.next) && (decide (∀ k, k < i → (t.s k).st ≠ 0 → (t.s k).pid ≠ (t.s i).pid) && (parB t i && (chOk (t.s i) && stOk (t.s i)))))) := by unfold sndR; rw [if_neg h0]
  rw [hS]
  refine ⟨(t.s i).st, k2.cell rfl, c_dec (fun h1 => ⟨by rw [and_f1 (by omega)], b12⟩) (fun h1 => ⟨(t.s i).st, k2.cell rfl, c_dec (fun h2 => ⟨by rw [and_f1 (by omega)], b12⟩) (fun h2 => ?_)⟩)⟩
  rw [and_t1 (show 0 ≤ (t.s i).st ∧ (t.s i).st ≤ 3 by omega)]
  refine ⟨(t.s i).pid, k2.cell rfl, c_dec (fun h3 => ⟨by rw [and_f1 (by omega)], b12⟩) (fun h3 => ⟨(t.s i).pid, k2.cell rfl, t.next, kt2.next, c_dec (fun h4 => ⟨by rw [and_f1 (by omega)], b12⟩) (fun h4 => ?_)⟩)⟩
  rw [and_t1 (show 1 ≤ (t.s i).pid ∧ (t.s i).pid < t.next by omega)]
  refine ⟨fun x w3 => ∃ k : Nat, x = ((k : Int), ()) ∧ k ≤ i ∧ (∀ j, j < k → (t.s j).st ≠ 0 → (t.s j).pid ≠ (t.s i).pid) ∧ Below w2.heap.size w2 w3, fun x _ => (64 - x.1).toNat, ⟨(0, ()), rfl, 0, rfl, by omega, fun j hj => by omega, Below.refl _ _⟩, ?_⟩
  rintro _ x w3 ⟨k, rfl, hk, hno, b3⟩
  dsimp only
  have z3 := b3.size
  have b13 := b12.trans (b3.mono (by omega))
  have y2t := tab_lt kt2
  have kt3 : TabAt 31 w3 c t := below_blk b3 y2t kt2
  have k3 := below_blk b3 y2 k2
  refine c_dec (fun hl => ?_) (fun hg => ?_)
  · have hk' : k < i := by omega
    have nx : IntKind.i64.wrap ((k : Int) + 1) = ((k + 1 : Nat) : Int) := by rw [wrap_in (by omega) (by omega)]; omega
    have go : ((t.s k).st ≠ 0 → (t.s k).pid ≠ (t.s i).pid) → ∃ t' : Int × Unit, ([.int .i64 (IntKind.i64.wrap ((k : Int) + (1 : Int)))] : List Value) = tv [(8, .int .i64)] t' ∧ (∃ k : Nat, t' = ((k : Int), ()) ∧ k ≤ i ∧ (∀ j, j < k → (t.s j).st ≠ 0 → (t.s j).pid ≠ (t.s i).pid) ∧ Below w2.heap.size w2 w3.drew) ∧ (64 - t'.1).toNat < (64 - (k : Int)).toNat := fun hq =>
      ⟨(((k + 1 : Nat) : Int), ()), by rw [nx]; rfl, ⟨k + 1, rfl, by omega, fun j hj => by
        by_cases e : j = k
        · subst e; exact hq
        · exact hno j (by omega), b3.drew⟩, by dsimp only; omega⟩
    simp only [Int.toNat_natCast]
    refine ⟨⟨by omega, by omega⟩, (t.s k).st, TabAt.st (w := w3.drew) kt3 (by omega), c_ne (fun hs => ?_) (fun hs => go (fun e => absurd hs e))⟩
    refine ⟨⟨by omega, by omega⟩, (t.s k).pid, TabAt.pid (w := w3.drew) kt3 (by omega), (t.s i).pid, Blk.cell (w := w3.drew) k3 rfl, c_eq (fun he => ⟨?_, b13.drew⟩) (fun he => go (fun _ => he))⟩
    rw [and_f1 (fun hC => hC k hk' hs he)]
  · have hki : k = i := by omega
    subst hki
    rw [and_t1 hno]
    refine ⟨t.enc, enc_size t, row_whole kt3, (c73 (t := t) hi w3).mono ?_⟩
    rintro e w4 ⟨v, rfl, rfl, b4⟩
    have z4 := b4.size
    have b14 := b13.trans (b4.mono b13.size)
    have k4 := below_blk b4 k3.lt k3
    refine ⟨_, rfl, c_nb (fun hp => ⟨by rw [hp]; rfl, b14⟩) (fun hp => ?_)⟩
    rw [hp, Bool.true_and]
    have hrow : RowAt w4 ⟨d, 3, none⟩ #[.int .i64 (t.s k).ck, .int .i64 (t.s k).cn] := row_blk k4 fun j hj => by
      match j, hj with
      | 0, _ => rfl
      | 1, _ => rfl
    refine ⟨_, rfl, hrow, (c70 _ _ w4).mono ?_⟩
    rintro e w5 ⟨v, rfl, rfl, b5⟩
    have b15 := b14.trans (b5.mono b14.size)
    have k5 := below_blk b5 k4.lt k4
    have hrow5 : RowAt w5 ⟨d, 3, none⟩ #[.int .i64 (t.s k).ck, .int .i64 (t.s k).cn] := row_blk k5 fun j hj => by
      match j, hj with
      | 0, _ => rfl
      | 1, _ => rfl
    refine ⟨_, rfl, fun _ w6 => ((t.s k).st = 2 → chanB (t.s k).ck (t.s k).cn = true ∧ (t.s k).kil = false) ∧ w6 = w5, ?_, ?_⟩
    · rintro _ _ w6 ⟨hsl, rfl⟩
      refine ⟨fun _ w7 => chOk (t.s k) = true ∧ w7 = w6, ?_, ?_⟩
      · rintro _ _ w7 ⟨hc, rfl⟩
        rw [hc, Bool.true_and]
        unfold stOk
        refine ⟨(t.s k).st, k5.cell rfl, c_eq (fun h5 => ⟨by simp [h5], b15⟩) (fun h5 => ⟨(t.s k).sts, k5.cell rfl, ?_, b15⟩)⟩
        congr 1
        rw [Bool.eq_iff_iff]; simp [h5]
      · unfold chOk
        refine ⟨(t.s k).st, k5.cell rfl, c_ne (fun h5 => ?_) (fun h5 => ?_)⟩
        · rw [if_neg h5]
          exact ⟨_, rfl, hrow5, _, bld26, _, eq_Chan _ _ _ _, c_ndec (fun hc => ⟨by rw [and_f1 hc], b15⟩) (fun hc => ⟨(), rfl, by simpa using hc, rfl⟩)⟩
        · rw [if_pos h5]
          have := hsl h5
          exact ⟨(), rfl, by rw [this.1, this.2]; rfl, rfl⟩
    · refine ⟨(t.s k).st, k5.cell rfl, c_eq (fun h5 => ?_) (fun h5 => ⟨(), rfl, fun e => absurd e h5, rfl⟩)⟩
      have e0 : chOk (t.s k) = (chanB (t.s k).ck (t.s k).cn && !(t.s k).kil) := by unfold chOk; rw [if_pos h5]
      rw [e0]
      refine c_nb (fun hc => ⟨by rw [hc]; rfl, b15⟩) (fun hc => ⟨(t.s k).kil, k5.cell (i := 5) rfl, c_b (fun hq => ⟨by rw [hq]; simp, b15⟩) (fun hq => ⟨(), rfl, fun _ => ⟨hc, hq⟩, rfl⟩)⟩)
/-- What From gives, the document's. -/
def FromR (t : Tab) (w : World) (v : Value) (w' : World) : Prop :=
  match fromAt t with
  | none => ∃ b, v = .tuple #[.pointer (some ⟨b, 0, none⟩), .int .i64 (-1)] ∧ TabAt 102 w' b t ∧ w.heap.size ≤ b
  | some at_ => v = .tuple #[.pointer none, .int .i64 at_]
def anyR (t : Tab) (i : Nat) : Bool := (List.range i).any fun j => decide ((t.s j).st ≠ 0)
theorem anyR_succ (t : Tab) (i : Nat) : anyR t (i + 1) = (anyR t i || decide ((t.s i).st ≠ 0)) := by
  unfold anyR; rw [List.range_succ, List.any_append]; simp
theorem anyR_all (t : Tab) : anyR t 64 = anyT t := by
  rw [Bool.eq_iff_iff, anyR, List.any_eq_true]
  unfold anyT fs
  rw [List.find?_isSome]
theorem c32 (t : Tab) (w : World) : Calls Try.prog 32 #[.agg t.enc] w (Ret fun v w' => FromR t w v w' ∧ Below w.heap.size w w') := by
  refine W32_ok _ w _ ?_
  refine newW_intro fun c w1 k1 l1 b1 => ?_
  have k1 : TabAt 31 w1 c t := k1
  have y1 := tab_lt k1
  have z1 := b1.size
  simp only [Addr.add_lit, Nat.zero_add]
  refine ⟨fun x w2 => ∃ i : Nat, x = (anyR t i, (i : Int), ()) ∧ i ≤ 64 ∧ w2 = w1, fun x _ => (64 - x.2.1).toNat, ⟨(false, 0, ()), rfl, 0, rfl, by omega, rfl⟩, ?_⟩
  rintro _ x w2 ⟨i, rfl, hi, rfl⟩
  dsimp only
  refine c_dec (fun hl => ?_) (fun hg => ?_)
  · have hi' : i < 64 := by omega
    have nx : IntKind.i64.wrap ((i : Int) + 1) = ((i + 1 : Nat) : Int) := by rw [wrap_in (by omega) (by omega)]; omega
    refine c_b (fun ha => ?_) (fun ha => ?_)
    · exact ⟨(anyR t (i + 1), ((i + 1 : Nat) : Int), ()), by rw [nx, anyR_succ, ha]; rfl, ⟨i + 1, rfl, by omega, rfl⟩, by dsimp only; omega⟩
    · refine ⟨⟨by omega, by omega⟩, (t.s i).st, by simp only [Int.toNat_natCast]; exact k1.st hi', (anyR t (i + 1), ((i + 1 : Nat) : Int), ()), ?_, ⟨i + 1, rfl, by omega, rfl⟩, by dsimp only; omega⟩
      rw [nx, anyR_succ, ha, Bool.false_or]
      have : ((t.s i).st != 0) = decide ((t.s i).st ≠ 0) := by rw [Bool.eq_iff_iff]; simp
      rw [this]; rfl
  have hi64 : i = 64 := by omega
  subst hi64
  rw [anyR_all]
  refine ⟨fun x w3 => x = (decide (t.next < 1 ∨ t.next > 2147483648 ∨ (t.next == 1) = anyT t), ()) ∧ w3 = w2, ?_, ?_⟩
  · rintro _ _ w3 ⟨rfl, rfl⟩
    refine c_dec (fun hb => ?_) (fun hb => ?_)
    · have e : fromAt t = some 64 := by unfold fromAt; rw [if_pos hb]
      unfold FromR
      rw [e]
      exact ⟨rfl, b1⟩
    · have ef : fromAt t = fs fun i => !sndR t (anyT t) i := by unfold fromAt; rw [if_neg hb, snd_fs]
      refine ⟨fun x w4 => ∃ i : Nat, x = ((i : Int), ()) ∧ i ≤ 64 ∧ (∀ j, j < i → (!sndR t (anyT t) j) = false) ∧ Below w3.heap.size w3 w4, fun x _ => (64 - x.1).toNat, ⟨(0, ()), rfl, 0, rfl, by omega, fun j hj => by omega, Below.refl _ _⟩, ?_⟩
      rintro _ x w4 ⟨i, rfl, hi, hno, b4⟩
      dsimp only
      have k4 : TabAt 31 w4 c t := below_blk b4 y1 k1
      have b14 := b1.trans (b4.mono z1)
      refine c_dec (fun hl => ?_) (fun hg => ?_)
      · have hi' : i < 64 := by omega
        have nx : IntKind.i64.wrap ((i : Int) + 1) = ((i + 1 : Nat) : Int) := by rw [wrap_in (by omega) (by omega)]; omega
        refine ⟨t.enc, enc_size t, row_whole k4, (c64 (t := t) hi' (anyT t) w4).mono ?_⟩
        rintro e w5 ⟨v, rfl, rfl, b5⟩
        refine ⟨_, rfl, c_nb (fun hs => ?_) (fun hs => ?_)⟩
        · have e : fromAt t = some i := by rw [ef, fs_some hi' (by rw [hs]; rfl) hno]
          unfold FromR
          rw [e]
          exact ⟨rfl, b14.trans (b5.mono b14.size)⟩
        · exact ⟨(((i + 1 : Nat) : Int), ()), by rw [nx]; rfl, ⟨i + 1, rfl, by omega, fun j hj => by
            by_cases e : j = i
            · subst e; rw [hs]; rfl
            · exact hno j (by omega), b4.trans (b5.mono b4.size)⟩, by dsimp only; omega⟩
      · have e : fromAt t = none := by rw [ef, fs_none (fun j hj => hno j (by omega))]
        have hl : t.rowsA.size = 448 := by unfold Tab.rowsA; simp [rows_len]
        refine ⟨t.rowsA, hl, row_blk k4 fun j hj => ?_, t.next, k4.next, _, bld102t t, newW_intro fun b w7 k7 l7 b7 => ⟨?_, b14.trans (b7.mono b14.size)⟩⟩
        · rw [hl] at hj
          rw [Nat.zero_add]
          show t.l.toArray[j]? = (rows t.s 0 64).toArray[j]?
          rw [List.getElem?_toArray, List.getElem?_toArray, Tab.l, List.getElem?_append_left (by rw [rows_len]; omega)]
        · unfold FromR
          rw [e]
          exact ⟨b, rfl, k7, Nat.le_trans b14.size l7⟩
  · refine ⟨t.next, k1.next, c_dec (fun h1 => ⟨(true, ()), rfl, by rw [decide_eq_true (Or.inl h1)], rfl⟩) (fun h1 => ⟨t.next, k1.next, c_dec (fun h2 => ⟨(true, ()), rfl, by rw [decide_eq_true (Or.inr (Or.inl h2))], rfl⟩) (fun h2 => ?_)⟩)⟩
    refine ⟨t.next, k1.next, (((t.next == 1) == anyT t), ()), rfl, ?_, rfl⟩
    congr 1
    rw [Bool.eq_iff_iff]
    simp only [beq_iff_eq, decide_eq_true_eq]
    constructor
    · intro e; exact Or.inr (Or.inr e)
    · rintro (e | e | e)
      · exact absurd e h1
      · exact absurd e h2
      · exact e
end Go.Proofs.Ythihjppjollekaa
