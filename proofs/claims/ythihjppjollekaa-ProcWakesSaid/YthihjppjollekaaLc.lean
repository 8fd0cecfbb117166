/- The law ProcWakes, walked; no condition. -/
import Derived.Test.YthihjppjollekaaGb
set_option linter.unusedVariables false
namespace Go.Proofs.Ythihjppjollekaa
open Go.RowKit Go.Hx

/-- It sleeps on that channel. -/
def onC (k n : Int) (p : Pr) : Prop := p.st = 2 ∧ p.ck = k ∧ p.cn = n
instance (k n : Int) (p : Pr) : Decidable (onC k n p) := by unfold onC; infer_instance
theorem wk_s (t : Tab) (k n : Int) : ∀ i j, (wk t k n i).2.s j = if j < i ∧ onC k n (t.s j) then upP (t.s j) else t.s j
  | 0, j => by rw [if_neg (by omega)]; rfl
  | i + 1, j => by
    have ih := wk_s t k n i
    have hi := ih i
    rw [if_neg (by omega)] at hi
    rw [wk, hi]
    by_cases hc : onC k n (t.s i)
    · rw [if_pos (show _ ∧ _ ∧ _ from hc)]
      dsimp only
      rw [set_s]
      by_cases e : j = i
      · subst e; rw [if_pos rfl, if_pos ⟨by omega, hc⟩]
      · rw [if_neg e, ih j]
        by_cases h2 : j < i ∧ onC k n (t.s j)
        · rw [if_pos h2, if_pos ⟨by omega, h2.2⟩]
        · rw [if_neg h2, if_neg (fun h3 => h2 ⟨by omega, h3.2⟩)]
    · rw [if_neg (show ¬ (_ ∧ _ ∧ _) from hc), ih j]
      by_cases h2 : j < i ∧ onC k n (t.s j)
      · rw [if_pos h2, if_pos ⟨by omega, h2.2⟩]
      · rw [if_neg h2, if_neg]
        intro h3
        by_cases e : j = i
        · subst e; exact hc h3.2
        · exact h2 ⟨by omega, h3.2⟩
theorem wk_n (t : Tab) (k n : Int) (i : Nat) : (wk t k n (i + 1)).1 = if onC k n (t.s i) then (wk t k n i).1 + 1 else (wk t k n i).1 := by
  have hi := wk_s t k n i i
  rw [if_neg (by omega)] at hi
  rw [wk, hi]
  by_cases hc : onC k n (t.s i)
  · rw [if_pos (show _ ∧ _ ∧ _ from hc), if_pos hc]
  · rw [if_neg (show ¬ (_ ∧ _ ∧ _) from hc), if_neg hc]
theorem wk_next (t : Tab) (k n : Int) : ∀ i, (wk t k n i).2.next = t.next
  | 0 => rfl
  | i + 1 => by rw [wk]; split; exact wk_next t k n i; exact wk_next t k n i
/-- A kept process whose channel and state are set. -/
theorem up_kept {p : Pr} {w : World} {d : Nat} (h : Blk w d p.a 28) {K : World → Prop} (hK : ∀ w', Blk w' d (upP p).a 28 → Mod d w w' → w'.heap.size = w.heap.size → K w') :
    stC ⟨d, 1, none⟩ (.int .i64 1) w fun w => ∃ g : Array Value, bldP Try.prog 26 [] (.agg g) ∧ stA 2 ⟨d, 3, none⟩ g w K := by
  refine stC_intro h (by simp [Pr.a]) fun w1 h1 m1 s1 => ⟨_, bld26, stA_intro h1 rfl (by simp [Pr.a]) (by intro c hc; simp at hc; rcases hc with rfl | rfl <;> rfl) fun w2 h2 m2 s2 => hK w2 h2 (m1.trans m2) (s2.trans s1)⟩
set_option maxRecDepth 10000 in
theorem law4 (x : Option Addr) (n c : Nat) (k m : Int) (w : World) (ho : OpsAt w x n) : Calls Try.prog 4 #[.slice x n c, .agg #[.int .i64 k, .int .i64 m]] w (Ret fun v w' => v = .bool true ∧ Below w.heap.size w w') := by
  refine W4_ok _ _ _ _ w _ ?_
  refine newW_intro fun c1 w1 k1 l1 b1 => ?_
  have z1 := b1.size
  have y1 := k1.lt
  refine (c14 w1).mono ?_
  rintro e w2 ⟨v, rfl, b, rfl, h2, l2, b2⟩
  have z2 := b2.size
  refine ⟨_, rfl, ?_⟩
  show ∃ _, _
  have b12 := b1.trans (b2.mono z1)
  refine ⟨fun _ w3 => ∃ t, Ok t ∧ TabAt 63 w3 b t ∧ Blk w3 c1 #[.int .i64 k, .int .i64 m] 26 ∧ Below w.heap.size w w3, ?_, ?_⟩
  · rintro _ _ w3 ⟨t, hk, h3, k3, b3⟩
    have z3 := b3.size
    have hn := hk.ne0
    have y3 := k3.lt
    have blt := tab_lt h3
    refine (c13 h3 hn).mono ?_
    rintro e w4 ⟨v, rfl, rfl, b4⟩
    have z4 := b4.size
    refine ⟨_, rfl, keepT fun c2 w5 k5 l5 b5 => ?_⟩
    have z5 := b5.size
    have c2lt := tab_lt k5
    have b35 := b4.trans (b5.mono z4)
    have h5 := below_tab b35 blt h3
    have kc5 := below_blk b35 y3 k3
    refine ⟨_, rfl, row_whole kc5, (c16 h5 hn k m).mono ?_⟩
    rintro e w6 ⟨v, rfl, rfl, h6, m6⟩
    have z6 := m6.size
    have hk6 := ok_wk hk k m 64 (Nat.le_refl _)
    have kc6 := m6.blk (by omega) kc5
    have kt6 := m6.blk (by omega) (show Blk w5 c2 t.enc 31 from k5)
    have b06 := (b3.trans (b35.mono z3)).trans (m6.below (by omega) (by omega))
    refine ⟨_, rfl, (c13 h6 hk6.ne0).mono ?_⟩
    rintro e w7 ⟨v, rfl, rfl, b7⟩
    have z7 := b7.size
    refine ⟨_, rfl, keepT fun c3 w8 k8 l8 b8 => ?_⟩
    have z8 := b8.size
    have c3lt := tab_lt k8
    have b68 := b7.trans (b8.mono z7)
    have kc8 := below_blk b68 kc6.lt kc6
    have kt8 := below_blk b68 kt6.lt kt6
    have b08 := b06.trans (b68.mono b06.size)
    refine ⟨fun x w9 => ∃ i : Nat, x = ((wk t k m i).1, (i : Int), ()) ∧ i ≤ 64 ∧ Below w8.heap.size w8 w9, fun x _ => (64 - x.2.1).toNat, ⟨(0, 0, ()), rfl, 0, rfl, by omega, Below.refl _ _⟩, ?_⟩
    rintro _ x w9 ⟨i, rfl, hi, b9⟩
    dsimp only
    have kt9 : TabAt 31 w9 c2 t := below_blk b9 kt8.lt kt8
    have ku9 : TabAt 31 w9 c3 (wk t k m 64).2 := below_blk b9 c3lt k8
    have kc9 := below_blk b9 kc8.lt kc8
    have z9 := b9.size
    refine c_dec (fun hl => ?_) (fun hg => ?_)
    · have hi' : i < 64 := by omega
      have q := wk_in t k m i
      have nx : IntKind.i64.wrap ((i : Int) + 1) = ((i + 1 : Nat) : Int) := by rw [wrap_in (by omega) (by omega)]; omega
      simp only [Addr.add_lit, Nat.zero_add, Int.toNat_natCast]
      refine ⟨⟨by omega, by omega⟩, (t.s i).a, rfl, kt9.row hi', keepP fun d w10 k10 l10 b10 => ?_⟩
      have z10 := b10.size
      have b810 := b9.trans (b10.mono z9)
      have kc10 := below_blk b10 kc9.lt kc9
      have cl8 := kc8.lt
      refine ⟨fun x w11 => x = ((wk t k m (i + 1)).1, ()) ∧ Blk w11 d ((wk t k m 64).2.s i).a 28 ∧ Below w8.heap.size w8 w11, ?_, ?_⟩
      · rintro _ _ w11 ⟨rfl, k11, b11⟩
        have ku11 : TabAt 31 w11 c3 (wk t k m 64).2 := below_blk b11 c3lt k8
        refine ⟨⟨by omega, by omega⟩, ((wk t k m 64).2.s i).a, rfl, TabAt.row (w := w11.drew) ku11 hi', _, rfl, row_whole (w := w11.drew) k11, _, eq_Pr _ _, c_ndec (fun hh => absurd rfl hh) (fun _ => ?_)⟩
        exact ⟨((wk t k m (i + 1)).1, ((i + 1 : Nat) : Int), ()), by rw [nx]; rfl, ⟨i + 1, rfl, by omega, b11.drew⟩, by dsimp only; omega⟩
      · refine ⟨fun x w11 => x = (decide (onC k m (t.s i)), ()) ∧ w11 = w10, ?_, ?_⟩
        · rintro _ _ w11 ⟨rfl, rfl⟩
          have e1 : (wk t k m 64).2.s i = if onC k m (t.s i) then upP (t.s i) else t.s i := by
            rw [wk_s]
            by_cases hc : onC k m (t.s i)
            · rw [if_pos ⟨hi', hc⟩, if_pos hc]
            · rw [if_neg (fun hh => hc hh.2), if_neg hc]
          have e2 := wk_n t k m i
          refine c_dec (fun hc => ?_) (fun hc => ?_)
          · rw [if_pos hc] at e1 e2
            refine up_kept k10 fun w12 k12 m12 s12 => ⟨((wk t k m i).1 + 1, ()), by rw [wrap_in (by omega) (by omega)]; rfl, by rw [e2], by rw [e1]; exact k12, b810.trans (m12.below (by omega) (by omega))⟩
          · rw [if_neg hc] at e1 e2
            exact ⟨((wk t k m i).1, ()), rfl, by rw [e2], by rw [e1]; exact k10, b810⟩
        · refine ⟨(t.s i).st, k10.cell rfl, c_eq (fun hs => ?_) (fun hs => ⟨(false, ()), rfl, by simp [onC, hs], by trivial⟩)⟩
          refine ⟨#[.int .i64 (t.s i).ck, .int .i64 (t.s i).cn], rfl, row_blk k10 fun j hj => ?_, _, rfl, row_whole kc10, decide ((t.s i).ck = k ∧ (t.s i).cn = m), eq_Chan _ _ _ _, (decide ((t.s i).ck = k ∧ (t.s i).cn = m), ()), rfl, ?_, by trivial⟩
          · match j, hj with
            | 0, _ => rfl
            | 1, _ => rfl
          · congr 1
            rw [Bool.eq_iff_iff]; simp [onC, hs]
    · have : i = 64 := by omega
      subst this
      refine c_eq (fun _ => ?_) (fun hh => absurd rfl hh)
      refine ⟨(wk t k m 64).2.next, by simp only [Addr.add_lit, Nat.zero_add]; exact ku9.next, t.next, by simp only [Addr.add_lit, Nat.zero_add]; exact kt9.next, ?_, b08.trans (b9.mono b08.size)⟩
      rw [wk_next]; simp
  · have k2 := below_blk b2 k1.lt k1
    refine ⟨fun y w3 => ∃ (i : Nat) (t : Tab), y = ((i : Int), ()) ∧ i ≤ 400 ∧ Ok t ∧ TabAt 63 w3 b t ∧ Blk w3 c1 #[.int .i64 k, .int .i64 m] 26 ∧ Below w.heap.size w w3, fun y _ => (400 - y.1).toNat,
      ⟨(0, ()), rfl, 0, tNew, rfl, by omega, ok_new, h2, k2, b12⟩, ?_⟩
    rintro _ y w3 ⟨i, t, rfl, hi, hk, h3, k3, b3⟩
    dsimp only
    refine c_dec (fun hl => ?_) (fun _ => ⟨(), rfl, t, hk, h3, k3, b3⟩)
    refine c_dec (fun hl2 => ?_) (fun _ => ⟨(), rfl, t, hk, h3, k3, b3⟩)
    obtain ⟨a, rfl, ha, o, hr⟩ := (ho.below b3) i (by omega)
    have nx : IntKind.i64.wrap ((i : Int) + 1) = ((i + 1 : Nat) : Int) := by rw [wrap_in (by omega) (by omega)]; omega
    refine ⟨⟨by omega, by omega⟩, o.a, rfl, by rw [Int.toNat_natCast]; exact hr, (c15 h3 hk o).mono ?_⟩
    rintro e w4 ⟨v, rfl, rfl, h4, m4⟩
    have z3 := b3.size
    have z4 := m4.size
    exact ⟨rfl, (((i + 1 : Nat) : Int), ()), by rw [nx]; rfl, ⟨i + 1, _, rfl, by omega, ok_do hk o, h4, m4.blk (by omega) k3, b3.trans (m4.below z3 (by omega))⟩, by dsimp only; omega⟩
end Go.Proofs.Ythihjppjollekaa
