/- A step of both tables answers alike; no condition. -/
import Derived.Test.YthihjppjollekaaFe
set_option linter.unusedVariables false
namespace Go.Proofs.Ythihjppjollekaa
open Go.RowKit Go.Hx

theorem blk_ne {w : World} {b c : Nat} {cs ds : Array Value} {t u : TypeId} (h : Blk w b cs t) (k : Blk w c ds u) (hne : t ≠ u) : b ≠ c := fun e => by
  subst e
  unfold Blk at h k
  rw [h] at k
  simp at k
  exact hne k.2
theorem _root_.Go.Hx.Mod.undrew {b : Nat} {w w' : World} (h : Mod b w.drew w') : Mod b w w' := ⟨h.os, h.tape, h.output, h.size, h.block⟩
theorem below_undrew {B : Nat} {w w' : World} (h : Below B w.drew w') : Below B w w' := ⟨h.os, h.tape, h.output, h.size, h.block⟩
/-- The two tables of a pair, alike. -/
structure PairAt (w : World) (pb b r : Nat) (t : Tab) : Prop where
  pr : Blk w pb #[.pointer (some ⟨b, 0, none⟩), .pointer (some ⟨r, 0, none⟩)] 39
  hb : TabAt 63 w b t
  hr : TabAt 102 w r t
theorem PairAt.pb {w : World} {pb b r : Nat} {t : Tab} (h : PairAt w pb b r t) : pb ≠ b := blk_ne h.pr h.hb (by decide)
theorem PairAt.pr' {w : World} {pb b r : Nat} {t : Tab} (h : PairAt w pb b r t) : pb ≠ r := blk_ne h.pr h.hr (by decide)
theorem PairAt.br {w : World} {pb b r : Nat} {t : Tab} (h : PairAt w pb b r t) : b ≠ r := blk_ne h.hb h.hr (by decide)
theorem PairAt.below {w w' : World} {B pb b r : Nat} {t : Tab} (h : PairAt w pb b r t) (hb : Below w.heap.size w w') : PairAt w' pb b r t :=
  ⟨below_blk hb h.pr.lt h.pr, below_blk hb (Blk.lt h.hb) h.hb, below_blk hb (Blk.lt h.hr) h.hr⟩
/-- Behind a call on each. -/
theorem fin2 {F pb b r : Nat} {t t' : Tab} {w w1 w2 w3 : World} (hp : PairAt w1 pb b r t) (hk : Ok t') (hF : F ≤ pb ∧ F ≤ b ∧ F ≤ r) (h0 : F ≤ w1.heap.size) (b1 : Below F w w1)
    (m2 : Mod b w1 w2) (h2 : TabAt 63 w2 b t') (m3 : Mod r w2 w3) (h3 : TabAt 102 w3 r t') : ∃ b' t', Ok t' ∧ PairAt w3 pb b' r t' ∧ F ≤ b' ∧ Below F w w3 := by
  have z2 := m2.size
  refine ⟨b, t', hk, ⟨m3.blk hp.pr' (m2.blk hp.pb hp.pr), m3.blk hp.br h2, h3⟩, hF.2.1, (b1.trans (m2.below h0 hF.2.1)).trans (m3.below (by omega) hF.2.2)⟩
theorem pick_t (t : Tab) (l : Int) : ∃ n b, pick t l = .tuple #[.int .i64 n, .bool b] := by
  unfold pick
  split
  · exact ⟨_, _, rfl⟩
  · exact ⟨_, _, rfl⟩
theorem c28 {F pb b r : Nat} {t : Tab} {w : World} (hp : PairAt w pb b r t) (hk : Ok t) (hF : F ≤ pb ∧ F ≤ b ∧ F ≤ r) (h0 : F ≤ w.heap.size) (o : OpD) :
    Calls Try.prog 28 #[.pointer (some ⟨pb, 0, none⟩), .agg o.a] w (Ret fun v w' => v = .bool true ∧ ∃ b' t', Ok t' ∧ PairAt w' pb b' r t' ∧ F ≤ b' ∧ Below F w w') := by
  refine W28_ok _ _ w _ ?_
  refine newW_intro fun a w1 k1 l1 b1 => ?_
  have z1 := b1.size
  have hp1 := hp.below (B := 0) b1
  have hn := hk.ne0
  have hn1 := hk.n1
  have hn2 := hk.n2
  have hb1 : Below F w w1 := b1.mono h0
  have h01 : F ≤ w1.heap.size := by omega
  have hab : a ≠ b := blk_ne k1 hp1.hb (by decide)
  have har : a ≠ r := blk_ne k1 hp1.hr (by decide)
  have hself : ∃ b' t', Ok t' ∧ PairAt w1 pb b' r t' ∧ F ≤ b' ∧ Below F w w1 := ⟨b, t, hk, hp1, hF.2.1, hb1⟩
  have row : ∀ w', Blk w' a o.a 46 → RowAt w' ⟨a, 2, none⟩ #[.int .i64 o.ck, .int .i64 o.cn] := fun w' q => row_blk q fun j hj => by
    match j, hj with
    | 0, _ => rfl
    | 1, _ => rfl
  let S : World → Prop := fun w => Blk w pb #[.pointer (some ⟨b, 0, none⟩), .pointer (some ⟨r, 0, none⟩)] 39 ∧ Blk w a o.a 46
  have s1 : S w1 := ⟨hp1.pr, k1⟩
  have sb : ∀ w' w'', S w' → Mod b w' w'' → S w'' := fun w' w'' q m => ⟨m.blk hp1.pb q.1, m.blk hab q.2⟩
  have sr : ∀ w' w'', S w' → Mod r w' w'' → S w'' := fun w' w'' q m => ⟨m.blk hp1.pr' q.1, m.blk har q.2⟩
  have pB : ∀ w', S w' → w'.cell? ⟨pb, 0, none⟩ = some (.pointer (some ⟨b, 0, none⟩)) := fun w' q => q.1.cell rfl
  have pR : ∀ w', S w' → w'.cell? ⟨pb, 1, none⟩ = some (.pointer (some ⟨r, 0, none⟩)) := fun w' q => q.1.cell rfl
  have oS : ∀ w', S w' → w'.cell? ⟨a, 1, none⟩ = some (.int .i64 o.slot) := fun w' q => q.2.cell rfl
  have oT : ∀ w', S w' → w'.cell? ⟨a, 4, none⟩ = some (.int .i32 o.sts) := fun w' q => q.2.cell rfl
  have oR : ∀ w', S w' → RowAt w' ⟨a, 2, none⟩ #[.int .i64 o.ck, .int .i64 o.cn] := fun w' q => row w' q.2
  have hr2 : ∀ w', Mod b w1 w' → TabAt 102 w' r t := fun w' m => m.blk hp1.br.symm hp1.hr
  refine ⟨o.kind, k1.cell rfl, ?_⟩
  simp only [nlW, Addr.add_lit, Nat.zero_add]
  refine c_eq (fun e => ?_) fun e => ?_
  · refine ⟨S, s1, _, pB, _, oS, (c24 (w := w1.drew) hp1.hb hn (by omega) (by omega) o.slot).mono ?_⟩
    rintro e w2 ⟨v, rfl, rfl, h2, m2⟩
    have m2 := m2.undrew
    have s2 := sb _ _ s1 m2
    refine ⟨_, _, _, rfl, s2, S, s2, _, pR, _, oS, (c48 (w := w2.drew) (hr2 _ m2.drew) hk o.slot).mono ?_⟩
    rintro e w3 ⟨v, rfl, rfl, h3, m3⟩
    have m3 := m3.undrew
    refine ⟨_, _, _, rfl, sr _ _ s2 m3, c_eq (fun _ => c_eq (fun _ => ⟨by simp, fin2 hp1 (ok_add hk _) hF h01 hb1 m2 h2 m3 h3⟩) (fun h => absurd rfl h)) (fun h => absurd rfl h)⟩
  refine c_eq (fun e => ?_) fun e => ?_
  · obtain ⟨n, bb, hpick⟩ := pick_t t o.slot
    refine ⟨S, s1, _, pB, _, oS, (c19 (w := w1.drew) hp1.hb hn o.slot).mono ?_⟩
    rintro e w2 ⟨v, rfl, rfl, m2⟩
    rw [hpick]
    have m2 : Mod b w1 w2 := Mod.of_below (below_undrew m2)
    have s2 := sb _ _ s1 m2
    refine ⟨_, _, rfl, s2, S, s2, _, pR, _, oS, (c49 (w := w2.drew) (hr2 _ m2.drew) hn o.slot).mono ?_⟩
    rintro e w3 ⟨v, rfl, rfl, rfl⟩
    rw [hpick]
    have m3 : Mod r w2 w2.drew := ⟨rfl, rfl, rfl, Nat.le_refl _, fun _ _ _ => rfl⟩
    have h2 : TabAt 63 w2 b t := by rename_i hb2; exact below_blk (below_undrew hb2) (Blk.lt hp1.hb) hp1.hb
    exact ⟨_, _, rfl, sr _ _ s2 m3, c_eq (fun _ => ⟨by simp, fin2 hp1 hk hF h01 hb1 m2 h2 m3 (hr2 _ m2.drew)⟩) (fun h => absurd rfl h)⟩
  refine c_eq (fun e => ?_) fun e => ?_
  · refine ⟨S, s1, _, pB, _, oS, _, rfl, oR, _, pR, _, oS, _, rfl, oR, (c25 (w := w1.drew) hp1.hb hn o.slot o.ck o.cn).mono ?_⟩
    rintro e w2 ⟨v, rfl, rfl, h2, m2⟩
    have m2 := m2.undrew
    have s2 := sb _ _ s1 m2
    refine ⟨_, rfl, s2, (c50 (hr2 _ m2) hn o.slot o.ck o.cn).mono ?_⟩
    rintro e w3 ⟨v, rfl, rfl, h3, m3⟩
    exact ⟨_, rfl, sr _ _ s2 m3, by simp, fin2 hp1 (ok_sleep hk _ _ _) hF h01 hb1 m2 h2 m3 h3⟩
  refine c_eq (fun e => ?_) fun e => ?_
  · refine ⟨S, s1, _, pB, _, rfl, oR, _, pR, _, rfl, oR, (c16 (w := w1.drew) hp1.hb hn o.ck o.cn).mono ?_⟩
    rintro e w2 ⟨v, rfl, rfl, h2, m2⟩
    have m2 := m2.undrew
    have s2 := sb _ _ s1 m2
    refine ⟨_, rfl, s2, (c51 (hr2 _ m2) hn o.ck o.cn).mono ?_⟩
    rintro e w3 ⟨v, rfl, rfl, h3, m3⟩
    exact ⟨_, rfl, sr _ _ s2 m3, by simp, fin2 hp1 (ok_wk hk _ _ 64 (Nat.le_refl _)) hF h01 hb1 m2 h2 m3 h3⟩
  refine c_eq (fun e => ?_) fun e => ?_
  · refine ⟨S, s1, _, pB, _, oS, _, pR, _, oS, (c26 (w := w1.drew) hp1.hb hn o.slot).mono ?_⟩
    rintro e w2 ⟨v, rfl, rfl, h2, m2⟩
    have m2 := m2.undrew
    have s2 := sb _ _ s1 m2
    refine ⟨_, rfl, s2, (c52 (hr2 _ m2) hn o.slot).mono ?_⟩
    rintro e w3 ⟨v, rfl, rfl, h3, m3⟩
    exact ⟨_, rfl, sr _ _ s2 m3, by simp, fin2 hp1 (ok_one hk _) hF h01 hb1 m2 h2 m3 h3⟩
  refine c_eq (fun e => ?_) fun e => ?_
  · refine ⟨S, s1, _, pB, _, oS, _, pR, _, oS, (c23 (w := w1.drew) hp1.hb hn o.slot).mono ?_⟩
    rintro e w2 ⟨v, rfl, rfl, h2, m2⟩
    have m2 := m2.undrew
    have s2 := sb _ _ s1 m2
    refine ⟨_, rfl, s2, (c53 (hr2 _ m2) hn o.slot).mono ?_⟩
    rintro e w3 ⟨v, rfl, rfl, h3, m3⟩
    exact ⟨_, rfl, sr _ _ s2 m3, by simp, fin2 hp1 (ok_kill hk _) hF h01 hb1 m2 h2 m3 h3⟩
  refine c_eq (fun e => ?_) fun e => ?_
  · refine ⟨S, s1, _, pB, _, oS, _, oT, (c20 (w := w1.drew) hp1.hb hn o.slot o.sts).mono ?_⟩
    rintro e w2 ⟨v, rfl, rfl, h2, m2⟩
    have m2 := m2.undrew
    have s2 := sb _ _ s1 m2
    refine ⟨_, _, rfl, s2, S, s2, _, pR, _, oS, _, oT, (c54 (w := w2.drew) (hr2 _ m2.drew) hk o.slot o.sts).mono ?_⟩
    rintro e w3 ⟨v, rfl, rfl, h3, m3⟩
    have m3 := m3.undrew
    refine ⟨_, _, rfl, sr _ _ s2 m3, ?_⟩
    rw [beq_self_eq_true]
    exact ⟨by simp, fin2 hp1 (ok_end hk _ _) hF h01 hb1 m2 h2 m3 h3⟩
  refine c_eq (fun e => ?_) fun e => ?_
  · refine ⟨S, s1, _, pB, _, oS, (c22 (w := w1.drew) hp1.hb hn o.slot).mono ?_⟩
    rintro e w2 ⟨v, rfl, rfl, hb2⟩
    have hb2 := below_undrew hb2
    have m2 : Mod b w1 w2 := Mod.of_below hb2
    have s2 := sb _ _ s1 m2
    refine ⟨_, _, rfl, s2, S, s2, _, pR, _, oS, (c55 (w := w2.drew) (hr2 _ m2.drew) hk o.slot).mono ?_⟩
    rintro e w3 ⟨v, rfl, rfl, rfl⟩
    have m3 : Mod r w2 w2.drew := ⟨rfl, rfl, rfl, Nat.le_refl _, fun _ _ _ => rfl⟩
    exact ⟨_, _, rfl, sr _ _ s2 m3, c_eq (fun _ => ⟨by simp, fin2 hp1 hk hF h01 hb1 m2 (below_blk hb2 (Blk.lt hp1.hb) hp1.hb) m3 (hr2 _ m2.drew)⟩) (fun h => absurd rfl h)⟩
  refine c_eq (fun e => ?_) fun e => ?_
  · refine ⟨S, s1, _, pB, _, oS, _, pR, _, oS, (c21 (w := w1.drew) hp1.hb hn o.slot).mono ?_⟩
    rintro e w2 ⟨v, rfl, rfl, h2, m2⟩
    have m2 := m2.undrew
    have s2 := sb _ _ s1 m2
    refine ⟨_, rfl, s2, (c56 (hr2 _ m2) hn o.slot).mono ?_⟩
    rintro e w3 ⟨v, rfl, rfl, h3, m3⟩
    exact ⟨_, rfl, sr _ _ s2 m3, by simp, fin2 hp1 (ok_free hk _) hF h01 hb1 m2 h2 m3 h3⟩
  refine c_eq (fun e => ?_) fun e => ?_
  · refine ⟨S, s1, _, pB, _, oS, _, pR, _, oS, (c18 (w := w1.drew) hp1.hb hn o.slot).mono ?_⟩
    rintro e w2 ⟨v, rfl, rfl, hb2⟩
    have hb2 := below_undrew hb2
    have m2 : Mod b w1 w2 := Mod.of_below hb2
    have s2 := sb _ _ s1 m2
    have z2 := hb2.size
    refine ⟨_, rfl, s2, (c57 (hr2 _ m2) hn o.slot).mono ?_⟩
    rintro e w3 ⟨v, rfl, rfl, hb3⟩
    have b13 := hb2.trans (hb3.mono z2)
    have hp3 := hp1.below (B := 0) b13
    have z3 := hb3.size
    have s3 : S w3 := ⟨hp3.pr, below_blk b13 k1.lt k1⟩
    refine ⟨_, rfl, s3, _, eq_Pr _ _, c_dec (fun _ => ⟨_, pB, _, pR, (c27 hp3.hb hn).mono ?_⟩) (fun h => absurd rfl h)⟩
    rintro e w4 ⟨v, rfl, rfl, hb4⟩
    have hp4 := hp3.below (B := 0) hb4
    have b14 := b13.trans (hb4.mono b13.size)
    have s4 : S w4 := ⟨hp4.pr, below_blk b14 k1.lt k1⟩
    refine ⟨_, rfl, s4, (c58 hp4.hr hk).mono ?_⟩
    rintro e w5 ⟨v, rfl, rfl, rfl⟩
    exact ⟨_, rfl, s4, by simp, b, t, hk, hp4, hF.2.1, hb1.trans (b14.mono h01)⟩
  refine c_eq (fun e => ?_) fun e => ?_
  · refine ⟨_, pB _ s1, (c13 hp1.hb hn).mono ?_⟩
    rintro e w2 ⟨v, rfl, rfl, hb2⟩
    have hp2 := hp1.below (B := 0) hb2
    have z2 := hb2.size
    refine ⟨_, rfl, (c31 t w2).mono ?_⟩
    rintro e w3 ⟨v, rfl, hv, hb3⟩
    unfold FromP at hv
    rw [okFrom hk] at hv
    obtain ⟨b', rfl, h3, l3⟩ := hv
    have hp3 := hp2.below (B := 0) hb3
    refine ⟨_, _, rfl, ?_⟩
    show ∃ _, _
    refine ⟨true, rfl, ?_⟩
    refine c_nb (fun h => by cases h) (fun _ => ?_)
    refine stC_intro hp3.pr (by simp) fun w4 k4 m4 s4 => ⟨trivial, b', t, hk, ⟨k4, m4.blk (blk_ne h3 hp3.pr (by decide)) h3, m4.blk hp3.pr'.symm hp3.hr⟩, by omega, ?_⟩
    have b3 : Below F w w3 := hb1.trans ((hb2.mono h01).trans (hb3.mono (by omega)))
    have z3 := hb3.size
    exact b3.trans (m4.below (by omega) hF.1)
  · exact ⟨by trivial, hself⟩
end Go.Proofs.Ythihjppjollekaa
