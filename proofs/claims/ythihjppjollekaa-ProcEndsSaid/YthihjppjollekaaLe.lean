/- The law ProcEnds, walked; no condition. -/
import Derived.Test.YthihjppjollekaaGb
set_option linter.unusedVariables false
namespace Go.Proofs.Ythihjppjollekaa
open Go.RowKit Go.Hx

def endP (p : Pr) (st : Int) : Pr := { p with st := 3, ck := 0, cn := 0, sts := st }
/-- What the law has found of the children below i. -/
def fnd (t : Tab) (s st : Int) (i : Nat) : Bool := if s = 0 then false else (eC (t.set s.toNat (endP (t.s s.toNat) st)) s i).1
theorem end_eq {t : Tab} {s : Int} (st : Int) (hh : t.has s) (h3 : (t.s s.toNat).st ≠ 3) :
    tEnd t s st = (fnd t s st 64, 0, if s = 0 then t.set s.toNat (endP (t.s s.toNat) st) else (eC (t.set s.toNat (endP (t.s s.toNat) st)) s 64).2) := by
  unfold tEnd fnd
  rw [if_neg (by simpa using hh), if_neg h3]
  by_cases h0 : s = 0
  · rw [if_pos h0, if_pos h0, if_pos h0]; rfl
  · rw [if_neg h0, if_neg h0, if_neg h0]; rfl
theorem ch_eq {t : Tab} {s : Int} (q : Pr) {j : Nat} (hj : j ≠ s.toNat) : chB (t.set s.toNat q) s j = chB t s j := by
  unfold chB; rw [set_s, if_neg hj]
theorem ch_self {t : Tab} {s : Int} (h0 : 0 ≤ s) : chB t s s.toNat = false := by
  unfold chB; simp; omega
theorem end_self {t : Tab} {s : Int} (st : Int) (hh : t.has s) (h3 : (t.s s.toNat).st ≠ 3) : (tEnd t s st).2.2.s s.toNat = endP (t.s s.toNat) st := by
  rw [end_eq st hh h3]
  dsimp only
  by_cases h0 : s = 0
  · rw [if_pos h0, set_same]
  · rw [if_neg h0, eC_s, if_neg, set_same]
    intro h; rw [ch_self hh.1] at h; cases h.2
theorem end_other {t : Tab} {s : Int} (st : Int) (hh : t.has s) (h3 : (t.s s.toNat).st ≠ 3) {j : Nat} (hj : j < 64) (hne : j ≠ s.toNat) :
    (tEnd t s st).2.2.s j = if s ≠ 0 ∧ chB t s j = true then { t.s j with par := 0 } else t.s j := by
  rw [end_eq st hh h3]
  dsimp only
  by_cases h0 : s = 0
  · rw [if_pos h0, set_s, if_neg hne, if_neg (fun h => h.1 h0)]
  · rw [if_neg h0, eC_s, ch_eq _ hne, set_s, if_neg hne]
    by_cases hc : chB t s j = true
    · rw [if_pos ⟨hj, hc⟩, if_pos ⟨h0, hc⟩]
    · rw [if_neg (fun h => hc h.2), if_neg (fun h => hc h.2)]
theorem fnd_one (t : Tab) (s st : Int) : fnd t s st 1 = false := by
  unfold fnd
  split
  · rfl
  · rw [eC, if_neg]; rfl
    simp [chB]
theorem fnd_succ {t : Tab} {s : Int} (st : Int) {i : Nat} (hne : i ≠ s.toNat) :
    fnd t s st (i + 1) = if s ≠ 0 ∧ chB t s i = true then (fnd t s st i || decide ((t.s i).st = 3)) else fnd t s st i := by
  unfold fnd
  by_cases h0 : s = 0
  · rw [if_pos h0, if_pos h0, if_neg (fun h => h.1 h0)]
  · rw [if_neg h0, if_neg h0]
    have hs : (eC (t.set s.toNat (endP (t.s s.toNat) st)) s i).2.s i = t.s i := by
      rw [eC_s, if_neg (by omega), set_s, if_neg hne]
    have hc : chB (eC (t.set s.toNat (endP (t.s s.toNat) st)) s i).2 s i = chB t s i := by
      unfold chB; rw [hs]
    rw [eC, hc, hs]
    by_cases hh : chB t s i = true
    · rw [if_pos hh, if_pos ⟨h0, hh⟩]
    · rw [if_neg hh, if_neg (fun h => hh h.2)]
theorem fnd_self {t : Tab} {s : Int} (st : Int) (h0 : 0 ≤ s) : fnd t s st (s.toNat + 1) = fnd t s st s.toNat := by
  unfold fnd
  split
  · rfl
  · rw [eC, if_neg]
    rw [ch_self h0]; simp
/-- A kept process whose parent is set to slot 0. -/
theorem par_kept {p : Pr} {w : World} {d : Nat} (h : Blk w d p.a 28) {K : World → Prop} (hK : ∀ w', Blk w' d ({ p with par := 0 } : Pr).a 28 → Mod d w w' → w'.heap.size = w.heap.size → K w') :
    stC ⟨d, 2, none⟩ (.int .i64 0) w K := stC_intro h (by simp [Pr.a]) hK
set_option maxRecDepth 10000 in
theorem law7 (x : Option Addr) (n c : Nat) (l st : Int) (w : World) (ho : OpsAt w x n) : Calls Try.prog 7 #[.slice x n c, .int .i64 l, .int .i32 st] w (Ret fun v w' => v = .bool true ∧ Below w.heap.size w w') := by
  refine W7_ok _ _ _ _ _ w _ ?_
  refine (c14 w).mono ?_
  rintro e w2 ⟨v, rfl, b, rfl, h2, l2, b2⟩
  have z2 := b2.size
  refine ⟨_, rfl, ?_⟩
  show ∃ _, _
  refine ⟨fun _ w3 => ∃ t, Ok t ∧ TabAt 63 w3 b t ∧ Below w.heap.size w w3, ?_, ?_⟩
  · rintro _ _ w3 ⟨t, hk, h3, b3⟩
    have z3 := b3.size
    have hn := hk.ne0
    have blt := tab_lt h3
    refine (c13 h3 hn).mono ?_
    rintro e w4 ⟨v, rfl, rfl, b4⟩
    have z4 := b4.size
    refine ⟨_, rfl, keepT fun c5 w5 k5 l5 b5 => ?_⟩
    have z5 := b5.size
    have y5 := tab_lt k5
    have b35 := b4.trans (b5.mono z4)
    have h5 := below_tab b35 blt h3
    refine (c18 h5 hn l).mono ?_
    rintro e w6 ⟨v, rfl, rfl, b6⟩
    have z6 := b6.size
    refine ⟨_, rfl, keepP fun c7 w7 k7 l7 b7 => ?_⟩
    have z7 := b7.size
    have y7 := k7.lt
    have b57 := b6.trans (b7.mono z6)
    have b37 := b35.trans (b57.mono (by omega))
    have h7 := below_tab b37 blt h3
    have k57 : TabAt 31 w7 c5 t := below_blk b57 y5 k5
    refine (c20 h7 hn l st).mono ?_
    rintro e w8 ⟨v, rfl, rfl, h8, m8⟩
    have z8 := m8.size
    have k58 : TabAt 31 w8 c5 t := m8.blk (by omega) k57
    have k78 := m8.blk (by omega) k7
    have b38 : Below w.heap.size w w8 := (b3.trans (b37.mono z3)).trans (m8.below (by omega) (by omega))
    have y8 := tab_lt h8
    have y78 := k78.lt
    have y58 := tab_lt k58
    simp only [Addr.add_lit, Nat.zero_add]
    refine ⟨_, _, rfl, fun x w9 => x = (decide ((lookP t l).st = 0 ∨ (lookP t l).st = 3), ()) ∧ w9 = w8, ?_, ?_⟩
    · rintro _ _ w9 ⟨rfl, rfl⟩
      refine c_dec (fun hz => ?_) (fun hz => ?_)
      · -- nobody, or a zombie
        have he : tEnd t l st = (false, if (lookP t l).st = 3 then 265 else 260, t) := by
          by_cases hh : t.has l
          · have e1 : lookP t l = t.s l.toNat := by unfold lookP; rw [if_pos hh]
            have e2 : (t.s l.toNat).st = 3 := by
              rw [e1] at hz
              rcases hz with h | h
              · exact absurd h hh.2.2
              · exact h
            unfold tEnd
            rw [if_neg (by simpa using hh), if_pos e2, e1, if_pos e2]
          · have e1 : lookP t l = Pr.zero := by unfold lookP; rw [if_neg hh]
            unfold tEnd
            rw [if_pos hh, e1, if_neg (by decide)]
        rw [he] at h8 ⊢
        refine ⟨fun x w10 => x = ((if (lookP t l).st = 3 then 265 else 260), ()) ∧ w10 = w9, ?_, ?_⟩
        · rintro _ _ w10 ⟨rfl, rfl⟩
          refine ⟨fun w => TabAt 31 w c5 t, k58, c_eq (fun _ => ?_) (fun h => absurd rfl h)⟩
          refine ⟨t.enc, enc_size t, fun w' q => row_whole q, (c13 (w := w10.drew) h8 hn).mono ?_⟩
          rintro e w11 ⟨v, rfl, rfl, b11⟩
          have b11' : Below w10.heap.size w10 w11 := ⟨b11.os, b11.tape, b11.output, b11.size, b11.block⟩
          have k11 : TabAt 31 w11 c5 t := below_blk b11' y58 k58
          exact ⟨_, rfl, k11, _, eq_Tab t t, by simp [Tab.same], b38.trans (b11'.mono b38.size)⟩
        · refine ⟨(lookP t l).st, k78.cell rfl, c_eq (fun h => ⟨(265, ()), rfl, by rw [if_pos h], by trivial⟩) (fun h => ⟨(260, ()), rfl, by rw [if_neg h], by trivial⟩)⟩
      · -- it ended
        have hh : t.has l := Classical.byContradiction fun h => hz (Or.inl (by unfold lookP; rw [if_neg h]; rfl))
        have hlk : lookP t l = t.s l.toNat := by unfold lookP; rw [if_pos hh]
        rw [hlk] at hz k78
        have hs3 : (t.s l.toNat).st ≠ 3 := fun h => hz (Or.inr h)
        have hl := has_lt hh
        have hl0 := hh.1
        have hself := end_self st hh hs3
        have hoth := fun j (hj : j < 64) hne => end_other st hh hs3 (j := j) hj hne
        have hk8 := ok_end hk l st
        have e1 : (tEnd t l st).1 = fnd t l st 64 := by rw [end_eq st hh hs3]
        have e2 : (tEnd t l st).2.1 = 0 := by rw [end_eq st hh hs3]
        rw [e1, e2]
        generalize hu : (tEnd t l st).2.2 = u at *
        have hnu := hk8.ne0
        have hut : (u.s l.toNat).st = 3 := by rw [hself]; rfl
        have hasu : u.has l := ⟨hh.1, hh.2.1, by rw [hut]; omega⟩
        refine (c18 h8 hnu l).mono ?_
        rintro e w10 ⟨v, rfl, rfl, b10⟩
        have z10 := b10.size
        rw [show lookP u l = u.s l.toNat by unfold lookP; rw [if_pos hasu], hself]
        refine ⟨_, rfl, keepP fun c11 w11 k11 l11 b11 => ?_⟩
        have z11 := b11.size
        have y11 := k11.lt
        have b911 := b10.trans (b11.mono z10)
        have k711 := below_blk b911 y78 k78
        simp only [Addr.add_lit, Nat.zero_add]
        refine c_ne (fun h => absurd rfl h) (fun _ => ⟨3, k11.cell rfl, c_ne (fun h => absurd rfl h) (fun _ => ⟨st, k11.cell rfl, c_ne (fun h => absurd rfl h) (fun _ => ⟨(t.s l.toNat).pid, k11.cell rfl, (t.s l.toNat).pid, k711.cell rfl, c_ne (fun h => absurd rfl h) (fun _ => ?_)⟩)⟩)⟩)
        refine ⟨(t.s l.toNat).par, k11.cell rfl, (t.s l.toNat).par, k711.cell rfl, c_ne (fun h => absurd rfl h) (fun _ => ?_)⟩
        refine ⟨#[.int .i64 0, .int .i64 0], rfl, row_blk k11 fun j hj => ?_, _, bld26, _, eq_Chan _ _ _ _, c_ndec (fun h => absurd ⟨rfl, rfl⟩ h) (fun _ => ?_)⟩
        · match j, hj with
          | 0, _ => rfl
          | 1, _ => rfl
        have h11 := below_tab b911 y8 h8
        have k511 : TabAt 31 w11 c5 t := below_blk b911 y58 k58
        have b011 := b38.trans (b911.mono b38.size)
        have y511 := tab_lt k511
        have y811 := tab_lt h11
        have y711 := k711.lt
        refine ⟨fun x w12 => ∃ i : Nat, x = (fnd t l st i, (i : Int), ()) ∧ 1 ≤ i ∧ i ≤ 64 ∧ Below w11.heap.size w11 w12, fun x _ => (64 - x.2.1).toNat, ⟨(false, 1, ()), rfl, 1, by rw [fnd_one]; rfl, by omega, by omega, Below.refl _ _⟩, ?_⟩
        rintro _ x w12 ⟨i, rfl, hi1, hi, b12⟩
        dsimp only
        have z12 := b12.size
        have h12 := below_tab b12 y811 h11
        have k512 : TabAt 31 w12 c5 t := below_blk b12 y511 k511
        refine c_dec (fun hlt => ?_) (fun hge => ?_)
        · have hi' : i < 64 := by omega
          have nx : IntKind.i64.wrap ((i : Int) + 1) = ((i + 1 : Nat) : Int) := by rw [wrap_in (by omega) (by omega)]; omega
          have go : ∀ (f : Bool) (w13 : World), f = fnd t l st (i + 1) → Below w11.heap.size w11 w13 → ∃ t' : Bool × Int × Unit, ([.bool f, .int .i64 (IntKind.i64.wrap ((i : Int) + (1 : Int)))] : List Value) = tv [(15, .bool), (16, .int .i64)] t' ∧ (∃ i : Nat, t' = (fnd t l st i, (i : Int), ()) ∧ 1 ≤ i ∧ i ≤ 64 ∧ Below w11.heap.size w11 w13) ∧ (64 - t'.2.1).toNat < (64 - (i : Int)).toNat :=
            fun f w13 hf hb => ⟨(fnd t l st (i + 1), ((i + 1 : Nat) : Int), ()), by rw [nx, hf]; rfl, ⟨i + 1, rfl, by omega, by omega, hb⟩, by dsimp only; omega⟩
          simp only [Addr.add_lit, Int.toNat_natCast]
          refine ⟨⟨by omega, by omega⟩, (t.s i).a, rfl, k512.row hi', keepP fun d w13 k13 l13 b13 => ?_⟩
          have z13 := b13.size
          have y13 := k13.lt
          refine (c18 (below_tab b13 (tab_lt h12) h12) hnu i).mono ?_
          rintro e w14 ⟨v, rfl, rfl, b14⟩
          have z14 := b14.size
          rw [look_ok hk8 hi']
          refine ⟨_, rfl, keepP fun d2 w15 k15 l15 b15 => ?_⟩
          have z15 := b15.size
          have y15 := k15.lt
          have b1315 := b14.trans (b15.mono z14)
          have kd15 := below_blk b1315 y13 k13
          have b1215 : Below w11.heap.size w11 w15 := b12.trans ((b13.mono (by omega)).trans (b1315.mono (by omega)))
          simp only [Addr.add_lit, Nat.zero_add]
          refine c_eq (fun he => ?_) (fun he => ?_)
          · refine go _ _ ?_ b1215
            have : i = l.toNat := by omega
            rw [this, fnd_self st hl0]
          have hne : i ≠ l.toNat := by omega
          have hfs := fnd_succ (t := t) st hne
          have hui := hoth i hi' hne
          refine ⟨(t.s i).st, kd15.cell rfl, c_eq (fun hs => go _ _ ?_ b1215) (fun hs => ?_)⟩
          · rw [hfs, if_neg]; intro h; have := h.2; simp [chB, hs] at this
          have hch : (l ≠ 0 ∧ chB t l i = true) ↔ (l ≠ 0 ∧ (t.s i).par = l) := by
            unfold chB
            simp only [decide_eq_true_eq]
            constructor
            · intro h; exact ⟨h.1, h.2.2.2.2⟩
            · intro h; exact ⟨h.1, he, by omega, hs, h.2⟩
          refine ⟨fun x w16 => x = (fnd t l st (i + 1), ()) ∧ Blk w16 d (u.s i).a 28 ∧ Blk w16 d2 (u.s i).a 28 ∧ Below w11.heap.size w11 w16, ?_, ?_⟩
          · rintro _ _ w16 ⟨rfl, q1, q2, q3⟩
            exact ⟨_, rfl, row_whole q2, _, rfl, row_whole q1, _, eq_Pr _ _, c_ndec (fun h => absurd rfl h) (fun _ => go _ _ rfl q3)⟩
          · refine ⟨fun x w16 => x = (decide (l ≠ 0 ∧ (t.s i).par = l), ()) ∧ w16 = w15, ?_, ?_⟩
            · rintro _ _ w16 ⟨rfl, rfl⟩
              refine c_dec (fun hp => ?_) (fun hp => ?_)
              · rw [if_pos (hch.2 hp)] at hfs hui
                rw [hfs, hui]
                refine c_b (fun hf => ?_) (fun hf => ?_)
                · refine par_kept kd15 fun w17 k17 m17 s17 => ⟨(true, ()), rfl, by rw [hf]; rfl, k17, ?_, b1215.trans (m17.below (by omega) (by omega))⟩
                  rw [← hui]; exact m17.blk (by omega) k15
                · refine ⟨(t.s i).st, kd15.cell rfl, par_kept kd15 fun w17 k17 m17 s17 => ⟨(_, ()), rfl, ?_, k17, ?_, b1215.trans (m17.below (by omega) (by omega))⟩⟩
                  · rw [hf, Bool.false_or]
                    congr 1
                  · rw [← hui]; exact m17.blk (by omega) k15
              · rw [if_neg (fun h => hp (hch.1 h))] at hfs hui
                rw [hfs]
                exact ⟨(fnd t l st i, ()), rfl, rfl, by rw [hui]; exact kd15, k15, b1215⟩
            · refine c_ne (fun h0 => ⟨(t.s i).par, kd15.cell rfl, ((t.s i).par == l, ()), rfl, ?_, by trivial⟩) (fun h0 => ⟨(false, ()), rfl, by simp [h0], by trivial⟩)
              congr 1
              rw [Bool.eq_iff_iff]; simp [h0]
        · have hi64 : i = 64 := by omega
          subst hi64
          have b012 := b011.trans (b12.mono b011.size)
          have k712 := below_blk b12 y711 k711
          refine c_nb (fun h => by simp at h) (fun _ => ?_)
          refine c_eq (fun h0 => ?_) (fun h0 => ?_)
          · refine (c21 h12 hnu 0).mono ?_
            rintro e w13 ⟨v, rfl, rfl, h13, m13⟩
            refine ⟨_, rfl, ?_, b012.trans (m13.below (by omega) (by omega))⟩
            unfold tFree; rw [if_pos (Or.inr rfl)]; rfl
          · obtain ⟨p, hp, g1, g2, g3, g4⟩ := hk.par l.toNat hl (by omega) hh.2.2
            have hpl : p ≠ l.toNat := fun h => by rw [h] at g3; omega
            have hup : (u.s p).st ≠ 0 := by
              rw [hoth p hp hpl]; split <;> exact g2
            have hasp : u.has (p : Int) := ⟨by omega, by omega, by simpa using hup⟩
            have hchl : (chB u (p : Int) l.toNat && decide ((u.s l.toNat).st = 3)) = true := by
              have hpar : (u.s l.toNat).par = p := by rw [hself]; exact g1
              unfold chB
              simp only [hut, hpar]
              simp
              omega
            have hfz : ∃ z, (fs fun i => chB u (p : Int) i && decide ((u.s i).st = 3)) = some z ∧ z ≤ l.toNat := by
              cases e : fs fun i => chB u (p : Int) i && decide ((u.s i).st = 3) with
              | none => have := fs_spec_none e l.toNat hl; rw [hchl] at this; cases this
              | some z =>
                refine ⟨z, rfl, Classical.byContradiction fun hlt => ?_⟩
                have := (fs_spec e).2.2 l.toNat (by omega)
                rw [hchl] at this; cases this
            obtain ⟨z, hz, hzl⟩ := hfz
            have hzs := fs_spec hz
            have hzc : z ≠ 0 ∧ (u.s z).par = p ∧ (u.s z).st = 3 := by
              have := hzs.2.1
              unfold chB at this
              simp at this
              omega
            have hzom : tZom u (p : Int) = ((z : Int), true) := by
              unfold tZom; rw [if_neg (by simpa using hasp), hz]
            refine ⟨(p : Int), by rw [← g1]; exact k712.cell rfl, (c22 h12 hnu p).mono ?_⟩
            rintro e w13 ⟨v, rfl, rfl, b13⟩
            rw [hzom]
            have z13 := b13.size
            have y712 := k712.lt
            have h13 := below_tab b13 (tab_lt h12) h12
            have k713 := below_blk b13 y712 k712
            have b013 := b012.trans (b13.mono b012.size)
            refine ⟨_, _, rfl, fun w => Blk w c7 (t.s l.toNat).a 28, k713, c_nb (fun h => by cases h) (fun _ => c_dec (fun h => by omega) (fun _ => c_dec (fun h => by omega) (fun _ => ?_)))⟩
            refine (c18 (w := w13.drew) h13 hnu z).mono ?_
            rintro e w14 ⟨v, rfl, rfl, b14⟩
            have b14 : Below w13.heap.size w13 w14 := ⟨b14.os, b14.tape, b14.output, b14.size, b14.block⟩
            have z14 := b14.size
            have y713 := k713.lt
            have h14 := below_tab b14 (tab_lt h13) h13
            have k714 := below_blk b14 y713 k713
            rw [look_ok hk8 hzs.1]
            refine ⟨_, rfl, k714, (u.s z).st, rfl, c_ne (fun h => absurd hzc.2.2 h) (fun _ => ⟨(p : Int), fun w' q => by rw [← g1]; exact Blk.cell q rfl, (c18 h14 hnu z).mono ?_⟩)⟩
            rintro e w15 ⟨v, rfl, rfl, b15⟩
            have z15 := b15.size
            have y714 := k714.lt
            have h15 := below_tab b15 (tab_lt h14) h14
            have k715 := below_blk b15 y714 k714
            rw [look_ok hk8 hzs.1]
            refine ⟨_, rfl, k715, (u.s z).par, rfl, c_ne (fun h => absurd hzc.2.1 h) (fun _ => (c21 h15 hnu l).mono ?_)⟩
            rintro e w16 ⟨v, rfl, rfl, h16, m16⟩
            have hfr : tFree u l = (0, u.set l.toNat Pr.zero) := by
              unfold tFree; rw [if_neg (by simp [hasu, h0]), if_neg (by simpa using hut)]
            rw [hfr] at h16
            have z16 := m16.size
            have k716 := m16.blk (by omega) k715
            have y716 := k716.lt
            refine ⟨_, rfl, c_eq (fun _ => ?_) (fun h => absurd (by rw [hfr]) h)⟩
            refine (c18 h16 (by rw [set_next]; exact hnu) l).mono ?_
            rintro e w17 ⟨v, rfl, rfl, b17⟩
            have hlz : lookP (u.set l.toNat Pr.zero) l = Pr.zero := by
              unfold lookP; rw [if_neg]; intro h; have := h.2.2; rw [set_same] at this; exact this rfl
            rw [hlz]
            have z17 := b17.size
            refine ⟨_, rfl, _, bld28, _, eq_Pr _ _, c_dec (fun _ => ?_) (fun h => absurd rfl h)⟩
            refine ⟨(t.s l.toNat).pid, (below_blk b17 y716 k716).cell rfl, (c23 (below_tab b17 (tab_lt h16) h16) (by rw [set_next]; exact hnu) _).mono ?_⟩
            rintro e w18 ⟨v, rfl, rfl, h18, m18⟩
            have hkl : (tKill (u.set l.toNat Pr.zero) (t.s l.toNat).pid).1 = 266 := by
              unfold tKill
              rw [fs_none]
              intro j hj
              by_cases e : j = l.toNat
              · subst e; rw [set_same]; simp [Pr.zero]
              · rw [set_s, if_neg e]
                simp only [decide_eq_false_iff_not]
                rintro ⟨hs, hpid⟩
                apply e
                have hsl : (u.s l.toNat).pid = (t.s l.toNat).pid := by rw [hself]; rfl
                exact hk8.inj j l.toNat hj hl hs (by rw [hut]; omega) (by rw [hpid, hsl])
            refine ⟨_, rfl, by rw [hkl]; rfl, ?_⟩
            have b015 := b013.trans ((b14.mono b013.size).trans (b15.mono (by omega)))
            exact ((b015.trans (m16.below (by omega) (by omega))).trans (b17.mono (by omega))).trans (m18.below (by omega) (by omega))
    · refine ⟨(lookP t l).st, k78.cell rfl, c_eq (fun h => ⟨(true, ()), rfl, by simp [h], by trivial⟩) (fun h => ⟨(lookP t l).st, k78.cell rfl, ((lookP t l).st == 3, ()), rfl, ?_, by trivial⟩)⟩
      congr 1
      rw [Bool.eq_iff_iff]; simp [h]
  · refine ⟨fun y w3 => ∃ (i : Nat) (t : Tab), y = ((i : Int), ()) ∧ i ≤ 400 ∧ Ok t ∧ TabAt 63 w3 b t ∧ Below w.heap.size w w3, fun y _ => (400 - y.1).toNat,
      ⟨(0, ()), rfl, 0, tNew, rfl, by omega, ok_new, h2, b2⟩, ?_⟩
    rintro _ y w3 ⟨i, t, rfl, hi, hk, h3, b3⟩
    dsimp only
    refine c_dec (fun hl => ?_) (fun _ => ⟨(), rfl, t, hk, h3, b3⟩)
    refine c_dec (fun hl2 => ?_) (fun _ => ⟨(), rfl, t, hk, h3, b3⟩)
    obtain ⟨a, rfl, ha, o, hr⟩ := (ho.below b3) i (by omega)
    have nx : IntKind.i64.wrap ((i : Int) + 1) = ((i + 1 : Nat) : Int) := by rw [wrap_in (by omega) (by omega)]; omega
    refine ⟨⟨by omega, by omega⟩, o.a, rfl, by rw [Int.toNat_natCast]; exact hr, (c15 h3 hk o).mono ?_⟩
    rintro e w4 ⟨v, rfl, rfl, h4, m4⟩
    have z3 := b3.size
    have z4 := m4.size
    exact ⟨rfl, (((i + 1 : Nat) : Int), ()), by rw [nx]; rfl, ⟨i + 1, _, rfl, by omega, ok_do hk o, h4, b3.trans (m4.below z3 (by omega))⟩, by dsimp only; omega⟩
end Go.Proofs.Ythihjppjollekaa
