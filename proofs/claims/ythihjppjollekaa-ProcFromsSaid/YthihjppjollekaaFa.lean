/- Contracts of the document's own answers on the table of processes; no condition. -/
import Derived.Test.YthihjppjollekaaGb
set_option linter.unusedVariables false
namespace Go.Proofs.Ythihjppjollekaa
open Go.RowKit Go.Hx
section
variable {b : Nat} {t : Tab} {w : World}
theorem c59 (h : TabAt 102 w b t) : Calls Try.prog 59 #[.pointer (some ⟨b, 0, none⟩)] w (Ret fun v w' => v = .bool (t.next == 0) ∧ w' = w) := by
  refine W59_ok _ w _ ?_
  refine ⟨_, by simp only [Addr.add_lit, Nat.zero_add]; exact h.next, rfl, rfl⟩
theorem c68 (h : TabAt 102 w b t) (s : Int) : Calls Try.prog 68 #[.pointer (some ⟨b, 0, none⟩), .int .i64 s] w (Ret fun v w' => v = .bool (decide (t.has s)) ∧ w' = w) := by
  refine W68_ok _ _ w _ ?_
  refine c_dec (fun h0 => c_dec (fun h1 => ?_) (fun h1 => ⟨?_, rfl⟩)) (fun h0 => ⟨?_, rfl⟩)
  · refine ⟨⟨by omega, by omega⟩, (t.s s.toNat).st, by simp only [Addr.add_lit, Nat.zero_add]; exact h.st (by omega), ?_, rfl⟩
    congr 1
    rw [Bool.eq_iff_iff]
    rw [bne_iff_ne, decide_eq_true_iff]
    exact ⟨fun e => ⟨by omega, by omega, e⟩, fun e => e.2.2⟩
  · rw [decide_eq_false (fun hh : t.has s => h1 hh.2.1)]
  · rw [decide_eq_false (fun hh : t.has s => h0 hh.1)]
theorem c69 (h : TabAt 102 w b t) (hk : Ok t) : Calls Try.prog 69 #[.pointer (some ⟨b, 0, none⟩)] w (Ret fun v w' => v = .int .i64 (match fs fun i => decide (t.s i = Pr.zero) with | some i => (i : Int) | none => -1) ∧ w' = w) := by
  refine W69_ok _ w _ ?_
  refine ⟨fun x w2 => ∃ i : Nat, x = ((i : Int), ()) ∧ i ≤ 64 ∧ (∀ j, j < i → decide (t.s j = Pr.zero) = false) ∧ w2 = w, fun x _ => (64 - x.1).toNat, ⟨(0, ()), rfl, 0, rfl, by omega, fun j hj => by omega, rfl⟩, ?_⟩
  rintro _ x w2 ⟨i, rfl, hi, hn, rfl⟩
  dsimp only
  refine c_dec (fun hl => ?_) (fun hg => ?_)
  · have hi' : i < 64 := by omega
    have nx : IntKind.i64.wrap ((i : Int) + 1) = ((i + 1 : Nat) : Int) := by rw [wrap_in (by omega) (by omega)]; omega
    refine ⟨⟨by omega, by omega⟩, (t.s i).st, by simp only [Addr.add_lit, Nat.zero_add, Int.toNat_natCast]; exact h.st hi', c_eq (fun hs => ?_) (fun hs => ?_)⟩
    · rw [fs_some hi' (by simpa using hk.free i hi' hs) hn]
      exact ⟨rfl, rfl⟩
    · refine ⟨(((i + 1 : Nat) : Int), ()), by rw [nx]; rfl, ⟨i + 1, rfl, by omega, fun j hj => ?_, rfl⟩, by dsimp only; omega⟩
      by_cases e : j = i
      · subst e; simp only [decide_eq_false_iff_not]; intro e2; rw [e2] at hs; exact hs rfl
      · exact hn j (by omega)
  · rw [fs_none (fun j hj => hn j (by omega))]
    exact ⟨rfl, rfl⟩
theorem c70 (k n : Int) (w : World) : Calls Try.prog 70 #[.agg #[.int .i64 k, .int .i64 n]] w (Ret fun v w' => v = .bool (chanB k n) ∧ Below w.heap.size w w') := by
  refine W70_ok _ w _ ?_
  unfold chanB
  refine newW_intro fun b w1 hb hl hbel => ?_
  refine ⟨k, hb.cell rfl, c_dec (fun h1 => ⟨k, hb.cell rfl, c_dec (fun h2 => ⟨n, by rw [Addr.add_lit]; exact hb.cell rfl, ?_, hbel⟩) (fun h2 => ⟨?_, hbel⟩)⟩) (fun h1 => ⟨?_, hbel⟩)⟩
  · congr 1; rw [Bool.eq_iff_iff]; simp; omega
  · congr 1; rw [Bool.eq_iff_iff]; simp; omega
  · congr 1; rw [Bool.eq_iff_iff]; simp; omega
theorem c71 (h : TabAt 102 w b t) {i : Nat} (hi : i < 64) : Calls Try.prog 71 #[.pointer (some ⟨b, 0, none⟩), .int .i64 i] w
    (Ret fun v w' => v = .tuple #[] ∧ TabAt 102 w' b (t.set i (upP (t.s i))) ∧ Mod b w w' ∧ w'.heap.size = w.heap.size) := by
  refine W71_ok _ _ w _ ?_
  simp only [W71, nlW, Addr.add_lit, Nat.zero_add, Int.toNat_natCast]
  refine ⟨⟨by omega, by omega⟩, tab_stC h hi (by omega) { t.s i with st := 1 } rfl fun w1 h1 m1 s1 => ⟨_, bld26, ⟨by omega, by omega⟩, ?_⟩⟩
  refine tab_stCh h1 hi 0 0 fun w2 h2 m2 s2 => ⟨trivial, ?_, m1.trans m2, s2.trans s1⟩
  rw [set_same, set_set] at h2
  exact h2
theorem c72 (h : TabAt 102 w b t) {i : Nat} (hi : i < 64) {p : Int} (hp : i ≠ 0 → (i : Int) = p → (t.s i).st ≠ 0 → (t.s i).par ≠ p) : Calls Try.prog 72 #[.pointer (some ⟨b, 0, none⟩), .int .i64 i, .int .i64 p] w
    (Ret fun v w' => v = .bool (chB t p i) ∧ w' = w) := by
  refine W72_ok _ _ _ w _ ?_
  unfold chB
  refine c_ne (fun h0 => ?_) (fun h0 => ⟨by have : i = 0 := by omega
                                            simp [this], rfl⟩)
  simp only [nlW, Addr.add_lit, Nat.zero_add, Int.toNat_natCast]
  refine ⟨⟨by omega, by omega⟩, (t.s i).st, h.st hi, c_ne (fun hs => ?_) (fun hs => ⟨by simp [hs], by trivial⟩)⟩
  refine ⟨⟨by omega, by omega⟩, (t.s i).par, h.par hi, ?_, by trivial⟩
  congr 1
  rw [Bool.eq_iff_iff]
  simp only [beq_iff_eq, decide_eq_true_eq]
  constructor
  · intro e
    exact ⟨fun e2 => hp (by omega) e2 hs e, by omega, hs, e⟩
  · intro e; exact e.2.2.2
theorem c57 (h : TabAt 102 w b t) (hn : t.next ≠ 0) (s : Int) : Calls Try.prog 57 #[.pointer (some ⟨b, 0, none⟩), .int .i64 s] w (Ret fun v w' => v = .agg (lookP t s).a ∧ Below w.heap.size w w') := by
  refine W57_ok _ _ w _ ?_
  refine newW_intro fun c w1 k1 l1 b1 => ?_
  have h1 : TabAt 102 w1 b t := below_blk b1 (Blk.lt h) h
  refine (c59 h1).mono ?_
  rintro e w' ⟨v, rfl, rfl, rfl⟩
  refine ⟨_, rfl, c_eq (fun e => absurd e hn) (fun _ => (c68 h1 s).mono ?_)⟩
  rintro e w' ⟨v, rfl, rfl, rfl⟩
  refine ⟨_, rfl, c_ndec (fun hh => ?_) (fun hh => ?_)⟩
  · refine ⟨_, bld28, stA_intro k1 rfl (by simp [Pr.a]) (one_l _) fun w2 h2 m2 s2 => ⟨Pr.zero.a, rfl, row_whole h2, ?_, b1.trans (m2.below b1.size l1)⟩⟩
    unfold lookP; rw [if_neg hh]
  · have hs := has_lt hh
    obtain ⟨g1, g2, _⟩ := id hh
    simp only [nlW, Addr.add_lit, Nat.zero_add]
    refine ⟨⟨by omega, by omega⟩, (t.s s.toNat).a, rfl, h1.row hs, stA_intro k1 rfl (by simp [Pr.a]) (one_l _) fun w2 h2 m2 s2 => ⟨(t.s s.toNat).a, rfl, row_whole h2, ?_, b1.trans (m2.below b1.size l1)⟩⟩
    unfold lookP; rw [if_pos hh]
theorem c58 (h : TabAt 102 w b t) (hk : Ok t) : Calls Try.prog 58 #[.pointer (some ⟨b, 0, none⟩)] w (Ret fun v w' => v = .bool (roomB t) ∧ w' = w) := by
  refine W58_ok _ w _ ?_
  have hn := hk.ne0
  refine (c59 h).mono ?_
  rintro e w' ⟨v, rfl, rfl, rfl⟩
  refine ⟨_, rfl, c_nb (fun _ => ?_) (fun e => absurd (by simpa using e) hn)⟩
  refine ⟨t.next, by simp only [Addr.add_lit, Nat.zero_add]; exact h.next, c_dec (fun hl => (c69 h hk).mono ?_) (fun hl => ⟨by simp [roomB, hl], rfl⟩)⟩
  rintro e w' ⟨v, rfl, rfl, rfl⟩
  refine ⟨_, rfl, ?_, rfl⟩
  unfold roomB
  cases fs fun i => decide (t.s i = Pr.zero) <;> simp [hl]
theorem c49 (h : TabAt 102 w b t) (hn : t.next ≠ 0) (l : Int) : Calls Try.prog 49 #[.pointer (some ⟨b, 0, none⟩), .int .i64 l] w (Ret fun v w' => v = pick t l ∧ w' = w) := by
  refine W49_ok _ _ w _ ?_
  refine (c59 h).mono ?_
  rintro e w' ⟨v, rfl, rfl, rfl⟩
  refine ⟨_, rfl, c_eq (fun e => absurd e hn) (fun _ => ?_)⟩
  have hp := pkL_in l
  refine ⟨fun x w2 => x = (pkL l, ()) ∧ w2 = w', ?_, ?_⟩
  · rintro _ _ w2 ⟨rfl, rfl⟩
    refine ⟨fun x w3 => ∃ i : Nat, x = (((i + 1 : Nat) : Int), ()) ∧ i ≤ 64 ∧ (∀ j, j < i → decide ((t.s (((pkL l).toNat + 1 + j) % 64)).st = 1) = false) ∧ w3 = w2, fun x _ => (65 - x.1).toNat, ⟨(1, ()), rfl, 0, rfl, by omega, fun j hj => by omega, rfl⟩, ?_⟩
    rintro _ x w3 ⟨i, rfl, hi, hno, rfl⟩
    dsimp only
    refine c_dec (fun hl => ?_) (fun hg => ?_)
    · have hi' : i < 64 := by omega
      have nx : IntKind.i64.wrap (((i + 1 : Nat) : Int) + 1) = ((i + 1 + 1 : Nat) : Int) := by rw [wrap_in (by omega) (by omega)]; omega
      have e : (IntKind.i64.wrap (pkL l + ((i + 1 : Nat) : Int))).tmod 64 = ((((pkL l).toNat + 1 + i) % 64 : Nat) : Int) := by
        rw [wrap_in (by omega) (by omega), Int.tmod_eq_emod_of_nonneg (by omega)]; omega
      rw [e]
      simp only [nlW, Addr.add_lit, Nat.zero_add, Int.toNat_natCast]
      refine ⟨by decide, ⟨by omega, by omega⟩, _, h.st (by omega), c_eq (fun hs => ?_) (fun hs => ?_)⟩
      · unfold pick
        rw [fs_some hi' (by simpa using hs) hno]
        exact ⟨rfl, trivial⟩
      · refine ⟨(((i + 1 + 1 : Nat) : Int), ()), by rw [nx]; rfl, ⟨i + 1, rfl, by omega, fun j hj => ?_, by trivial⟩, by dsimp only; omega⟩
        by_cases e2 : j = i
        · subst e2; simpa using hs
        · exact hno j (by omega)
    · unfold pick
      rw [fs_none (fun j hj => hno j (by omega))]
      exact ⟨rfl, rfl⟩
  · refine c_dec (fun h1 => ⟨(63, ()), rfl, by unfold pkL; rw [if_pos (by omega)], rfl⟩) (fun h1 => c_dec (fun h2 => ⟨(63, ()), rfl, by unfold pkL; rw [if_pos (by omega)], rfl⟩) (fun h2 => ⟨(l, ()), rfl, by unfold pkL; rw [if_neg (by omega)], rfl⟩))
theorem c50 (h : TabAt 102 w b t) (hn : t.next ≠ 0) (s k n : Int) :
    Calls Try.prog 50 #[.pointer (some ⟨b, 0, none⟩), .int .i64 s, .agg #[.int .i64 k, .int .i64 n]] w (Ret fun v w' => v = .int .i64 (tSleep t s k n).1 ∧ TabAt 102 w' b (tSleep t s k n).2 ∧ Mod b w w') := by
  refine W50_ok _ _ _ w _ ?_
  refine newW_intro fun c w1 k1 l1 b1 => ?_
  have h1 : TabAt 102 w1 b t := below_blk b1 (Blk.lt h) h
  have hlt := Blk.lt h
  refine (c59 h1).mono ?_
  rintro e w' ⟨v, rfl, rfl, rfl⟩
  refine ⟨_, rfl, c_eq (fun e => absurd e hn) (fun _ => (c68 h1 s).mono ?_)⟩
  rintro e w' ⟨v, rfl, rfl, rfl⟩
  refine ⟨_, rfl, c_ndec (fun hh => ?_) (fun hh => ?_)⟩
  · have e : tSleep t s k n = (260, t) := by unfold tSleep; rw [if_pos hh]
    rw [e]; exact ⟨rfl, h1, Mod.of_below b1⟩
  have hs := has_lt hh
  obtain ⟨g1, g2, _⟩ := id hh
  have e1 : (t.s s.toNat).st ≠ 1 ∨ (t.s s.toNat).kil = true → tSleep t s k n = (265, t) := fun hb => by unfold tSleep; rw [if_neg (by simpa using hh), if_pos hb]
  simp only [nlW, Addr.add_lit, Nat.zero_add]
  refine ⟨⟨by omega, by omega⟩, _, h1.st hs, c_ne (fun hb => ?_) (fun hb => ⟨⟨by omega, by omega⟩, _, h1.kil hs, c_b (fun hb2 => ?_) (fun hb2 => ?_)⟩)⟩
  · rw [e1 (Or.inl hb)]; exact ⟨rfl, h1, Mod.of_below b1⟩
  · rw [e1 (Or.inr hb2)]; exact ⟨rfl, h1, Mod.of_below b1⟩
  · refine ⟨_, rfl, row_whole k1, (c70 k n _).mono ?_⟩
    rintro e w3 ⟨v, rfl, rfl, b3⟩
    have h3 : TabAt 102 w3 b t := below_blk b3 (Blk.lt h1) h1
    have k3 := below_blk b3 k1.lt k1
    have b13 := b1.trans (b3.mono b1.size)
    refine ⟨_, rfl, c_nb (fun hc => ?_) (fun hc => ?_)⟩
    · have e : tSleep t s k n = (264, t) := by unfold tSleep; rw [if_neg (by simpa using hh), if_neg (by simp [hb, hb2]), if_pos hc]
      rw [e]; exact ⟨rfl, h3, Mod.of_below b13⟩
    · have e : tSleep t s k n = (0, t.set s.toNat { t.s s.toNat with st := 2, ck := k, cn := n }) := by unfold tSleep; rw [if_neg (by simpa using hh), if_neg (by simp [hb, hb2]), if_neg (by simp [hc])]
      rw [e]
      refine ⟨⟨by omega, by omega⟩, tab_stC h3 hs (by omega) { t.s s.toNat with st := 2 } rfl fun w4 h4 m4 s4 => ?_⟩
      have k4 := m4.blk (by omega) k3
      refine ⟨fun w => Blk w c #[.int .i64 k, .int .i64 n] 26, k4, _, rfl, fun w' hw => row_whole hw, ⟨by omega, by omega⟩, ?_⟩
      refine tab_stCh (w := w4.drew) (show TabAt 102 w4.drew b _ from h4) hs k n fun w5 h5 m5 s5 => ?_
      rw [set_same, set_set] at h5
      exact ⟨m5.blk (by omega) (show Blk w4.drew c _ 26 from k4), by trivial, h5, (Mod.of_below b13).trans (m4.drew.trans m5)⟩
theorem c51 (h : TabAt 102 w b t) (hn : t.next ≠ 0) (k n : Int) :
    Calls Try.prog 51 #[.pointer (some ⟨b, 0, none⟩), .agg #[.int .i64 k, .int .i64 n]] w (Ret fun v w' => v = .int .i64 (wk t k n 64).1 ∧ TabAt 102 w' b (wk t k n 64).2 ∧ Mod b w w') := by
  refine W51_ok _ _ w _ ?_
  refine newW_intro fun c w1 k1 l1 b1 => ?_
  have h1 : TabAt 102 w1 b t := below_blk b1 (Blk.lt h) h
  have hlt := Blk.lt h
  refine (c59 h1).mono ?_
  rintro e w' ⟨v, rfl, rfl, rfl⟩
  refine ⟨_, rfl, c_eq (fun e => absurd e hn) (fun _ => ?_)⟩
  refine ⟨fun x w2 => ∃ i : Nat, i ≤ 64 ∧ x = ((wk t k n i).1, (i : Int), ()) ∧ TabAt 102 w2 b (wk t k n i).2 ∧ Blk w2 c #[.int .i64 k, .int .i64 n] 26 ∧ Mod b w w2, fun x _ => (64 - x.2.1).toNat,
    ⟨(0, 0, ()), rfl, 0, by omega, rfl, h1, k1, Mod.of_below b1⟩, ?_⟩
  rintro _ x w2 ⟨i, hi, rfl, q1, q2, q3⟩
  dsimp only
  refine c_dec (fun hlt' => ?_) (fun hge => ?_)
  · have hi' : i < 64 := by omega
    simp only [nlW, Addr.add_lit, Nat.zero_add, Int.toNat_natCast]
    have q := wk_in t k n i
    have nx : IntKind.i64.wrap ((i : Int) + 1) = ((i + 1 : Nat) : Int) := by rw [wrap_in (by omega) (by omega)]; omega
    refine ⟨fun x w3 => x = (decide (((wk t k n i).2.s i).st = 2 ∧ ((wk t k n i).2.s i).ck = k ∧ ((wk t k n i).2.s i).cn = n), ()) ∧ w3 = w2.drew, ?_, ?_⟩
    · rintro _ _ w3 ⟨rfl, rfl⟩
      refine c_dec (fun hb => ?_) (fun hb => ?_)
      · refine (c71 (w := w2.drew) (show TabAt 102 w2.drew b _ from q1) hi').mono ?_
        rintro e w4 ⟨v, rfl, rfl, q4, m4, s4⟩
        refine ⟨rfl, ((wk t k n i).1 + 1, ((i + 1 : Nat) : Int), ()), ?_, ⟨i + 1, by omega, ?_, ?_, ?_, ?_⟩, ?_⟩
        · rw [nx, wrap_in (by omega) (by omega)]; rfl
        · rw [wk, if_pos hb]
        · rw [wk, if_pos hb]; exact q4
        · exact m4.blk (by omega) (show Blk w2.drew c _ 26 from q2)
        · exact q3.drew.trans m4
        · dsimp only; omega
      · refine ⟨((wk t k n i).1, ((i + 1 : Nat) : Int), ()), ?_, ⟨i + 1, by omega, ?_, ?_, ?_, ?_⟩, ?_⟩
        · rw [nx]; rfl
        · rw [wk, if_neg hb]
        · rw [wk, if_neg hb]; exact q1
        · exact q2
        · exact q3.drew
        · dsimp only; omega
    · refine ⟨⟨by omega, by omega⟩, _, TabAt.st (w := w2.drew) q1 hi', c_eq (fun hb => ?_) (fun hb => ⟨(false, ()), rfl, by simp [hb], by trivial⟩)⟩
      refine ⟨⟨by omega, by omega⟩, _, TabAt.ck (w := w2.drew) q1 hi', k, Blk.cell (w := w2.drew) q2 rfl, c_eq (fun hc => ?_) (fun hc => ⟨(false, ()), rfl, by simp [hc], by trivial⟩)⟩
      refine ⟨⟨by omega, by omega⟩, _, TabAt.cn' (w := w2.drew) q1 hi', n, Blk.cell (w := w2.drew) q2 rfl, ((((wk t k n i).2.s i).cn == n), ()), rfl, ?_, by trivial⟩
      congr 1
      rw [Bool.eq_iff_iff]; simp [hb, hc]
  · have : i = 64 := by omega
    subst this
    exact ⟨rfl, q1, q3⟩
theorem c52 (h : TabAt 102 w b t) (hn : t.next ≠ 0) (s : Int) :
    Calls Try.prog 52 #[.pointer (some ⟨b, 0, none⟩), .int .i64 s] w (Ret fun v w' => v = .int .i64 (tOne t s).1 ∧ TabAt 102 w' b (tOne t s).2 ∧ Mod b w w') := by
  refine W52_ok _ _ w _ ?_
  refine (c59 h).mono ?_
  rintro e w' ⟨v, rfl, rfl, rfl⟩
  refine ⟨_, rfl, c_eq (fun e => absurd e hn) (fun _ => (c68 h s).mono ?_)⟩
  rintro e w' ⟨v, rfl, rfl, rfl⟩
  refine ⟨_, rfl, c_ndec (fun hh => ?_) (fun hh => ?_)⟩
  · have e : tOne t s = (260, t) := by unfold tOne; rw [if_pos hh]
    rw [e]; exact ⟨rfl, h, Mod.refl _ _⟩
  have hs := has_lt hh
  obtain ⟨g1, g2, _⟩ := id hh
  simp only [nlW, Addr.add_lit, Nat.zero_add]
  refine ⟨⟨by omega, by omega⟩, _, h.st hs, c_ne (fun hb => ?_) (fun hb => ?_)⟩
  · have e : tOne t s = (265, t) := by unfold tOne; rw [if_neg (by simpa using hh), if_pos hb]
    rw [e]; exact ⟨rfl, h, Mod.refl _ _⟩
  · have e : tOne t s = (0, t.set s.toNat (upP (t.s s.toNat))) := by unfold tOne; rw [if_neg (by simpa using hh), if_neg (by simpa using hb)]
    rw [e]
    have hc := c71 h hs
    rw [Int.toNat_of_nonneg g1] at hc
    refine hc.mono ?_
    rintro e w2 ⟨v, rfl, rfl, h2, m2, s2⟩
    exact ⟨rfl, by trivial, h2, m2⟩
theorem c53 (h : TabAt 102 w b t) (hn : t.next ≠ 0) (n : Int) :
    Calls Try.prog 53 #[.pointer (some ⟨b, 0, none⟩), .int .i64 n] w (Ret fun v w' => v = .int .i64 (tKill t n).1 ∧ TabAt 102 w' b (tKill t n).2 ∧ Mod b w w') := by
  refine W53_ok _ _ w _ ?_
  refine (c59 h).mono ?_
  rintro e w' ⟨v, rfl, rfl, rfl⟩
  refine ⟨_, rfl, c_eq (fun e => absurd e hn) (fun _ => ?_)⟩
  refine ⟨fun x w2 => ∃ i : Nat, x = ((i : Int), ()) ∧ i ≤ 64 ∧ (∀ j, j < i → decide ((t.s j).st ≠ 0 ∧ (t.s j).pid = n) = false) ∧ w2 = w', fun x _ => (64 - x.1).toNat, ⟨(0, ()), rfl, 0, rfl, by omega, fun j hj => by omega, rfl⟩, ?_⟩
  rintro _ x w2 ⟨i, rfl, hi, hno, rfl⟩
  dsimp only
  refine c_dec (fun hl => ?_) (fun hg => ?_)
  · have hi' : i < 64 := by omega
    have nx : IntKind.i64.wrap ((i : Int) + 1) = ((i + 1 : Nat) : Int) := by rw [wrap_in (by omega) (by omega)]; omega
    simp only [nlW, Addr.add_lit, Nat.zero_add, Int.toNat_natCast]
    have go : ¬ ((t.s i).st ≠ 0 ∧ (t.s i).pid = n) → ∃ t' : Int × Unit, ([.int .i64 (IntKind.i64.wrap ((i : Int) + (1 : Int)))] : List Value) = tv [(5, .int .i64)] t' ∧ (∃ i : Nat, t' = ((i : Int), ()) ∧ i ≤ 64 ∧ (∀ j, j < i → decide ((t.s j).st ≠ 0 ∧ (t.s j).pid = n) = false) ∧ True) ∧ (64 - t'.1).toNat < (64 - (i : Int)).toNat := fun hq =>
      ⟨(((i + 1 : Nat) : Int), ()), by rw [nx]; rfl, ⟨i + 1, rfl, by omega, fun j hj => by
        by_cases e : j = i
        · subst e; simpa using hq
        · exact hno j (by omega), trivial⟩, by dsimp only; omega⟩
    refine ⟨⟨by omega, by omega⟩, _, h.st hi', c_eq (fun hs => go (fun hq => hq.1 hs)) (fun hs => ?_)⟩
    refine ⟨⟨by omega, by omega⟩, _, h.pid hi', c_ne (fun hp => go (fun hq => hp hq.2)) (fun hp => ?_)⟩
    have hfs := fs_some (p := fun j => decide ((t.s j).st ≠ 0 ∧ (t.s j).pid = n)) hi' (by simpa using ⟨hs, hp⟩) hno
    have e1 : tKill t n = (0, if (t.s i).st = 3 then t else t.set i (if (t.s i).st = 2 then upP { t.s i with kil := true } else { t.s i with kil := true })) := by unfold tKill; rw [hfs]
    rw [e1]
    refine ⟨⟨by omega, by omega⟩, _, h.st hi', c_eq (fun h3 => ?_) (fun h3 => ?_)⟩
    · rw [if_pos h3]; exact ⟨rfl, h, Mod.refl _ _⟩
    · rw [if_neg h3]
      refine ⟨⟨by omega, by omega⟩, tab_stC h hi' (by omega) { t.s i with kil := true } rfl fun w4 h4 m4 s4 => ⟨⟨by omega, by omega⟩, _, h4.st hi', ?_⟩⟩
      rw [set_same]
      refine c_eq (fun h2 => ?_) (fun h2 => ?_)
      · rw [if_pos h2]
        refine (c71 h4 hi').mono ?_
        rintro e w5 ⟨v, rfl, rfl, h5, m5, s5⟩
        rw [set_same, set_set] at h5
        exact ⟨rfl, by trivial, h5, m4.trans m5⟩
      · rw [if_neg h2]
        exact ⟨by trivial, h4, m4⟩
  · have e1 : tKill t n = (266, t) := by unfold tKill; rw [fs_none (fun j hj => hno j (by omega))]
    rw [e1]
    exact ⟨rfl, h, Mod.refl _ _⟩
theorem c56 (h : TabAt 102 w b t) (hn : t.next ≠ 0) (s : Int) :
    Calls Try.prog 56 #[.pointer (some ⟨b, 0, none⟩), .int .i64 s] w (Ret fun v w' => v = .int .i64 (tFree t s).1 ∧ TabAt 102 w' b (tFree t s).2 ∧ Mod b w w') := by
  refine W56_ok _ _ w _ ?_
  refine (c59 h).mono ?_
  rintro e w' ⟨v, rfl, rfl, rfl⟩
  refine ⟨_, rfl, c_eq (fun e => absurd e hn) (fun _ => (c68 h s).mono ?_)⟩
  rintro e w' ⟨v, rfl, rfl, rfl⟩
  refine ⟨_, rfl, c_ndec (fun hh => ?_) (fun hh => c_eq (fun h0 => ?_) (fun h0 => ?_))⟩
  · have e : tFree t s = (260, t) := by unfold tFree; rw [if_pos (Or.inl hh)]
    rw [e]; exact ⟨rfl, h, Mod.refl _ _⟩
  · have e : tFree t s = (260, t) := by unfold tFree; rw [if_pos (Or.inr h0)]
    rw [e]; exact ⟨rfl, h, Mod.refl _ _⟩
  have hs := has_lt hh
  obtain ⟨g1, g2, _⟩ := id hh
  simp only [nlW, Addr.add_lit, Nat.zero_add]
  refine ⟨⟨by omega, by omega⟩, _, h.st hs, c_ne (fun hb => ?_) (fun hb => ?_)⟩
  · have e : tFree t s = (265, t) := by unfold tFree; rw [if_neg (by simp [hh, h0]), if_pos hb]
    rw [e]; exact ⟨rfl, h, Mod.refl _ _⟩
  · have e : tFree t s = (0, t.set s.toNat Pr.zero) := by unfold tFree; rw [if_neg (by simp [hh, h0]), if_neg (by simpa using hb)]
    rw [e]
    exact ⟨_, bld28, ⟨by omega, by omega⟩, tab_stA h hs _ fun w2 h2 m2 s2 => ⟨by trivial, h2, m2⟩⟩
end
end Go.Proofs.Ythihjppjollekaa
