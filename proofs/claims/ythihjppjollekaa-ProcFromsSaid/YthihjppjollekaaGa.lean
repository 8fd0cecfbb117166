/- What holds of every table of processes that calls have made; no program in sight but the shape of its data; no condition. -/
import Derived.Test.YthihjppjollekaaCf
set_option linter.unusedVariables false
namespace Go.Proofs.Ythihjppjollekaa
open Go.RowKit Go.Hx

/-- What holds of a process by itself. -/
structure Loc (p : Pr) : Prop where
  slp : p.st = 2 → p.kil = false ∧ chanB p.ck p.cn = true
  chn : p.st ≠ 2 → p.ck = 0 ∧ p.cn = 0
  sts : p.st ≠ 3 → p.sts = 0
structure Ok (t : Tab) : Prop where
  n1 : 1 ≤ t.next
  n2 : t.next ≤ 2147483648
  free : ∀ i, i < 64 → (t.s i).st = 0 → t.s i = Pr.zero
  st : ∀ i, i < 64 → 0 ≤ (t.s i).st ∧ (t.s i).st ≤ 3
  pid : ∀ i, i < 64 → (t.s i).st ≠ 0 → 1 ≤ (t.s i).pid ∧ (t.s i).pid < t.next
  inj : ∀ i j, i < 64 → j < 64 → (t.s i).st ≠ 0 → (t.s j).st ≠ 0 → (t.s i).pid = (t.s j).pid → i = j
  emp : (t.s 0).st = 0 → t.next = 1 ∧ ∀ i, i < 64 → (t.s i).st = 0
  root : (t.s 0).st ≠ 0 → (t.s 0).pid = 1 ∧ (t.s 0).par = 0
  loc : ∀ i, i < 64 → (t.s i).st ≠ 0 → Loc (t.s i)
  par : ∀ i, i < 64 → i ≠ 0 → (t.s i).st ≠ 0 → ∃ p : Nat, p < 64 ∧ (t.s i).par = p ∧ (t.s p).st ≠ 0 ∧ (t.s p).pid < (t.s i).pid ∧ (p = 0 ∨ (t.s p).st ≠ 3)
theorem Ok.ne0 {t : Tab} (h : Ok t) : t.next ≠ 0 := by have := h.n1; omega
theorem Ok.zero0 {t : Tab} (h : Ok t) {i : Nat} (hi : i < 64) (hs : (t.s i).st ≠ 0) : (t.s 0).st ≠ 0 := fun e => hs ((h.emp e).2 i hi)
theorem Ok.pid1 {t : Tab} (h : Ok t) {i : Nat} (hi : i < 64) (h0 : i ≠ 0) (hs : (t.s i).st ≠ 0) : 1 < (t.s i).pid := by
  have h1 := h.zero0 hi hs
  have h2 := (h.root h1).1
  have h3 := (h.pid i hi hs).1
  have h4 : (t.s i).pid ≠ 1 := fun e => h0 (h.inj i 0 hi (by omega) hs h1 (by omega))
  omega
theorem ok_new : Ok tNew :=
  { n1 := by decide, n2 := by decide, free := fun _ _ _ => rfl, st := fun _ _ => ⟨Int.le_refl _, by show (0 : Int) ≤ 3; omega⟩, pid := fun _ _ h => absurd rfl h, inj := fun _ _ _ _ h => absurd rfl h,
    emp := fun _ => ⟨rfl, fun _ _ => rfl⟩, root := fun h => absurd rfl h, loc := fun _ _ h => absurd rfl h, par := fun _ _ _ h => absurd rfl h }
/-- Processes turned where they stand: nobody is made or freed. -/
theorem Ok.map {t t' : Tab} (h : Ok t) (hn : t'.next = t.next) (hz : ∀ j, j < 64 → (t.s j).st = 0 → t'.s j = t.s j)
    (hu : ∀ j, j < 64 → (t.s j).st ≠ 0 → (t'.s j).st ≠ 0 ∧ (0 ≤ (t'.s j).st ∧ (t'.s j).st ≤ 3) ∧ (t'.s j).pid = (t.s j).pid ∧ Loc (t'.s j) ∧ ((t'.s j).par = (t.s j).par ∨ (t'.s j).par = 0))
    (hc : ∀ j p : Nat, j < 64 → j ≠ 0 → (t.s j).st ≠ 0 → p < 64 → p ≠ 0 → (t.s p).st ≠ 0 → (t'.s j).par = p → (t'.s p).st ≠ 3) : Ok t' := by
  have key : ∀ j, j < 64 → ((t'.s j).st = 0 ↔ (t.s j).st = 0) := fun j hj => by
    constructor
    · intro e; apply Classical.byContradiction; intro hh; exact (hu j hj hh).1 e
    · intro e; rw [hz j hj e]; exact e
  have key' : ∀ j, j < 64 → (t'.s j).st ≠ 0 → (t.s j).st ≠ 0 := fun j hj hh e => hh ((key j hj).2 e)
  refine { n1 := by rw [hn]; exact h.n1, n2 := by rw [hn]; exact h.n2, free := ?_, st := ?_, pid := ?_, inj := ?_, emp := ?_, root := ?_, loc := ?_, par := ?_ }
  · intro i hi e
    have := (key i hi).1 e
    rw [hz i hi this]; exact h.free i hi this
  · intro i hi
    by_cases e : (t.s i).st = 0
    · rw [hz i hi e]; exact h.st i hi
    · exact (hu i hi e).2.1
  · intro i hi e
    have h1 := key' i hi e
    rw [(hu i hi h1).2.2.1, hn]; exact h.pid i hi h1
  · intro i j hi hj ei ej e
    have h1 := key' i hi ei
    have h2 := key' j hj ej
    rw [(hu i hi h1).2.2.1, (hu j hj h2).2.2.1] at e
    exact h.inj i j hi hj h1 h2 e
  · intro e
    have := h.emp ((key 0 (by omega)).1 e)
    exact ⟨by rw [hn]; exact this.1, fun i hi => (key i hi).2 (this.2 i hi)⟩
  · intro e
    have h1 := key' 0 (by omega) e
    have h2 := hu 0 (by omega) h1
    have h3 := h.root h1
    refine ⟨by rw [h2.2.2.1]; exact h3.1, ?_⟩
    rcases h2.2.2.2.2 with e1 | e1
    · rw [e1]; exact h3.2
    · exact e1
  · intro i hi e
    exact (hu i hi (key' i hi e)).2.2.2.1
  · intro i hi h0 e
    have h1 := key' i hi e
    have h2 := hu i hi h1
    rcases h2.2.2.2.2 with e1 | e1
    · obtain ⟨p, hp, g1, g2, g3, g4⟩ := h.par i hi h0 h1
      refine ⟨p, hp, by rw [e1]; exact g1, (hu p hp g2).1, by rw [(hu p hp g2).2.2.1, h2.2.2.1]; exact g3, ?_⟩
      by_cases hp0 : p = 0
      · exact Or.inl hp0
      · exact Or.inr (hc i p hi h0 h1 hp hp0 g2 (by rw [e1]; exact g1))
    · have hz0 := h.zero0 hi h1
      refine ⟨0, by omega, e1, (hu 0 (by omega) hz0).1, ?_, Or.inl rfl⟩
      rw [(hu 0 (by omega) hz0).2.2.1, h2.2.2.1, (h.root hz0).1]
      exact h.pid1 hi h0 h1
/-- One process turned. -/
theorem Ok.turn {t : Tab} (h : Ok t) {i : Nat} (hi : i < 64) (hs : (t.s i).st ≠ 0) {p : Pr} (h1 : p.st ≠ 0) (h2 : 0 ≤ p.st ∧ p.st ≤ 3) (h3 : p.pid = (t.s i).pid) (h4 : Loc p) (h5 : p.par = (t.s i).par) (h6 : p.st = 3 → (t.s i).st = 3 ∨ i = 0) : Ok (t.set i p) := by
  refine h.map rfl (fun j hj e => ?_) (fun j hj e => ?_) (fun j q hj h0 e hq hq0 eq ep => ?_)
  · rw [set_s]
    by_cases hh : j = i
    · subst hh; exact absurd e hs
    · rw [if_neg hh]
  · rw [set_s]
    by_cases hh : j = i
    · subst hh; rw [if_pos rfl]; exact ⟨h1, h2, h3, h4, Or.inl h5⟩
    · rw [if_neg hh]; exact ⟨e, h.st j hj, rfl, h.loc j hj e, Or.inl rfl⟩
  · obtain ⟨q', hq', g1, g2, g3, g4⟩ := h.par j hj h0 e
    have hpar : (t.s j).par = (q : Int) := by
      rw [set_s] at ep
      by_cases hh : j = i
      · subst hh; rw [if_pos rfl] at ep; rw [← h5]; exact ep
      · rw [if_neg hh] at ep; exact ep
    have e2 : q' = q := by rw [hpar] at g1; omega
    subst e2
    have g5 : (t.s q').st ≠ 3 := by rcases g4 with e3 | e3; exact absurd e3 hq0; exact e3
    rw [set_s]
    by_cases hh : q' = i
    · subst hh; rw [if_pos rfl]
      intro e3
      rcases h6 e3 with e4 | e4
      · exact g5 e4
      · exact hq0 e4
    · rw [if_neg hh]; exact g5
theorem loc_run {p : Pr} (h1 : p.st = 1) (h2 : p.ck = 0) (h3 : p.cn = 0) (h4 : p.sts = 0) : Loc p :=
  ⟨fun e => by omega, fun _ => ⟨h2, h3⟩, fun _ => h4⟩
theorem ok_sleep {t : Tab} (h : Ok t) (s k n : Int) : Ok (tSleep t s k n).2 := by
  unfold tSleep
  split
  · exact h
  split
  · exact h
  split
  · exact h
  · rename_i h1 h2 h3
    have hh : t.has s := by simpa using h1
    have hs := has_lt hh
    have hst : (t.s s.toNat).st = 1 := Classical.byContradiction fun e => h2 (Or.inl e)
    have hk : (t.s s.toNat).kil = false := by
      cases e : (t.s s.toNat).kil
      · rfl
      · exact absurd (Or.inr e) h2
    have l := h.loc s.toNat hs hh.2.2
    refine h.turn hs hh.2.2 (by dsimp only; omega) (by dsimp only; omega) rfl ⟨fun _ => ⟨hk, by simpa using h3⟩, fun e => absurd rfl e, fun _ => l.sts (by omega)⟩ rfl (fun e => by dsimp only at e; omega)
theorem ok_up {t : Tab} (h : Ok t) {i : Nat} (hi : i < 64) (hs : (t.s i).st = 2) : Ok (t.set i (upP (t.s i))) := by
  have l := h.loc i hi (by omega)
  exact h.turn hi (by omega) (by show (1 : Int) ≠ 0; omega) ⟨by show (0 : Int) ≤ 1; omega, by show (1 : Int) ≤ 3; omega⟩ rfl (loc_run rfl rfl rfl (l.sts (by omega))) rfl (fun e => absurd (show (1 : Int) = 3 from e) (by omega))
theorem ok_wk {t : Tab} (h : Ok t) (k n : Int) : ∀ i, i ≤ 64 → Ok (wk t k n i).2
  | 0, _ => h
  | i + 1, hi => by
    have ih := ok_wk h k n i (by omega)
    rw [wk]
    split
    · rename_i hh
      exact ok_up ih (by omega) hh.1
    · exact ih
theorem ok_one {t : Tab} (h : Ok t) (s : Int) : Ok (tOne t s).2 := by
  unfold tOne
  split
  · exact h
  split
  · exact h
  · rename_i h1 h2
    have hh : t.has s := by simpa using h1
    exact ok_up h (has_lt hh) (by simpa using h2)
theorem ok_kill {t : Tab} (h : Ok t) (n : Int) : Ok (tKill t n).2 := by
  unfold tKill
  split
  · exact h
  · rename_i i hi
    have hs := fs_spec hi
    have hu : (t.s i).st ≠ 0 := by have := hs.2.1; simp at this; exact this.1
    have l := h.loc i hs.1 hu
    have hr := h.st i hs.1
    dsimp only
    split
    · exact h
    · split
      · rename_i h3 h2
        exact h.turn hs.1 hu (by show (1 : Int) ≠ 0; omega) ⟨by show (0 : Int) ≤ 1; omega, by show (1 : Int) ≤ 3; omega⟩ rfl (loc_run rfl rfl rfl (l.sts (by omega))) rfl (fun e => absurd (show (1 : Int) = 3 from e) (by omega))
      · rename_i h3 h2
        exact h.turn hs.1 hu hu hr rfl ⟨fun e => absurd e h2, l.chn, l.sts⟩ rfl (fun e => absurd e h3)
theorem eC_next (t : Tab) (p : Int) : ∀ i, (eC t p i).2.next = t.next
  | 0 => rfl
  | i + 1 => by rw [eC]; split; exact eC_next t p i; exact eC_next t p i
theorem eC_s (t : Tab) (p : Int) : ∀ i j, (eC t p i).2.s j = if j < i ∧ chB t p j = true then { t.s j with par := 0 } else t.s j
  | 0, j => by rw [if_neg (by omega)]; rfl
  | i + 1, j => by
    have ih := eC_s t p i
    have hch : chB (eC t p i).2 p i = chB t p i := by
      unfold chB
      rw [ih i, if_neg (by omega)]
    rw [eC, hch]
    by_cases hc : chB t p i = true
    · rw [if_pos hc]
      dsimp only
      rw [set_s]
      by_cases e : j = i
      · subst e
        rw [if_pos rfl, if_pos ⟨by omega, hc⟩, ih j, if_neg (by omega)]
      · rw [if_neg e, ih j]
        by_cases h2 : j < i ∧ chB t p j = true
        · rw [if_pos h2, if_pos ⟨by omega, h2.2⟩]
        · rw [if_neg h2, if_neg (fun h3 => h2 ⟨by omega, h3.2⟩)]
    · rw [if_neg hc, ih j]
      by_cases h2 : j < i ∧ chB t p j = true
      · rw [if_pos h2, if_pos ⟨by omega, h2.2⟩]
      · rw [if_neg h2, if_neg]
        intro h3
        by_cases e : j = i
        · subst e; exact hc h3.2
        · exact h2 ⟨by omega, h3.2⟩
theorem ok_end {t : Tab} (h : Ok t) (s st : Int) : Ok (tEnd t s st).2.2 := by
  unfold tEnd
  split
  · exact h
  split
  · exact h
  rename_i h1 h3
  have hh : t.has s := by simpa using h1
  have hs := has_lt hh
  have l := h.loc s.toNat hs hh.2.2
  have lz : Loc { t.s s.toNat with st := 3, ck := 0, cn := 0, sts := st } := ⟨fun e => absurd (show (3 : Int) = 2 from e) (by omega), fun _ => ⟨rfl, rfl⟩, fun e => absurd rfl e⟩
  split
  · rename_i h0
    exact h.turn hs hh.2.2 (by show (3 : Int) ≠ 0; omega) ⟨by show (0 : Int) ≤ 3; omega, Int.le_refl _⟩ rfl lz rfl (fun _ => Or.inr (by omega))
  · rename_i h0
    dsimp only
    refine h.map (by rw [eC_next]; rfl) (fun j hj e => ?_) (fun j hj e => ?_) (fun j q hj h0' e hq hq0 eq ep => ?_)
    · rw [eC_s, if_neg, set_s, if_neg]
      · intro e2; subst e2; exact hh.2.2 e
      · rintro ⟨_, hc⟩
        unfold chB at hc
        rw [set_s] at hc
        by_cases e2 : j = s.toNat
        · subst e2; exact hh.2.2 e
        · rw [if_neg e2] at hc; simp [e] at hc
    · rw [eC_s]
      by_cases e2 : j = s.toNat
      · subst e2
        rw [set_same]
        split
        · exact ⟨by show (3 : Int) ≠ 0; omega, ⟨by show (0 : Int) ≤ 3; omega, Int.le_refl _⟩, rfl, ⟨lz.slp, lz.chn, lz.sts⟩, Or.inr rfl⟩
        · exact ⟨by show (3 : Int) ≠ 0; omega, ⟨by show (0 : Int) ≤ 3; omega, Int.le_refl _⟩, rfl, lz, Or.inl rfl⟩
      · have lj := h.loc j hj e
        rw [set_s, if_neg e2]
        split
        · exact ⟨e, h.st j hj, rfl, ⟨lj.slp, lj.chn, lj.sts⟩, Or.inr rfl⟩
        · exact ⟨e, h.st j hj, rfl, lj, Or.inl rfl⟩
    · -- the parent told is not the one that ended
      rw [eC_s] at ep
      by_cases hc : j < 64 ∧ chB (t.set s.toNat { t.s s.toNat with st := 3, ck := 0, cn := 0, sts := st }) s j = true
      · rw [if_pos hc] at ep
        exact absurd (show (0 : Int) = (q : Int) from ep) (by omega)
      · rw [if_neg hc] at ep
        have hpar : (t.s j).par = (q : Int) := by
          rw [set_s] at ep
          by_cases e2 : j = s.toNat
          · rw [if_pos e2] at ep; rw [e2]; exact ep
          · rw [if_neg e2] at ep; exact ep
        obtain ⟨q', hq', g1, g2, g3, g4⟩ := h.par j hj h0' e
        have e3 : q' = q := by rw [hpar] at g1; omega
        subst e3
        have hne : q' ≠ s.toNat := by
          intro e4
          apply hc
          refine ⟨hj, ?_⟩
          have hjs : j ≠ s.toNat := by
            intro e5
            rw [← e4] at e5
            subst e5
            omega
          unfold chB
          rw [set_s, if_neg hjs]
          have := hh.1
          simp only [decide_eq_true_eq]
          exact ⟨by omega, h0', e, by rw [hpar]; omega⟩
        rw [eC_s]
        have g5 : (t.s q').st ≠ 3 := by rcases g4 with e3 | e3; exact absurd e3 hq0; exact e3
        split
        · rw [set_s, if_neg hne]; exact g5
        · rw [set_s, if_neg hne]; exact g5
theorem any_iff {t : Tab} (h : Ok t) : (fs fun i => decide ((t.s i).st ≠ 0)).isSome = decide ((t.s 0).st ≠ 0) := by
  rw [Bool.eq_iff_iff]
  constructor
  · intro e
    obtain ⟨i, hi⟩ := Option.isSome_iff_exists.1 e
    have hs := fs_spec hi
    simpa using h.zero0 hs.1 (by simpa using hs.2.1)
  · intro e
    have e' : (t.s 0).st ≠ 0 := by simpa using e
    rw [fs_some (k := 0) (by omega) (by simpa using e') (fun j hj => by omega)]; rfl
theorem ok_add {t : Tab} (h : Ok t) (parent : Int) : Ok (tAdd t parent).2.2.2 := by
  unfold tAdd
  rw [any_iff h]
  split
  · exact h
  split
  · exact h
  split
  · exact h
  rename_i h1 h2 _ i hi
  have hs := fs_spec hi
  have hz : t.s i = Pr.zero := by simpa using hs.2.1
  have hz0 : (t.s i).st = 0 := by rw [hz]; rfl
  have hn1 := h.n1
  by_cases ha : (t.s 0).st ≠ 0
  · have e : decide ((t.s 0).st ≠ 0) = true := by simpa using ha
    rw [if_pos e]
    have hok : t.has parent ∧ (t.s parent.toNat).st ≠ 3 := by
      constructor
      · exact Classical.byContradiction fun hh => h1 ⟨e, Or.inl hh⟩
      · exact fun hh => h1 ⟨e, Or.inr hh⟩
    have hp := has_lt hok.1
    have hp0 := hok.1.1
    have hi0 : i ≠ 0 := fun e2 => by subst e2; exact ha hz0
    refine { n1 := by dsimp only; omega, n2 := by dsimp only; omega, free := ?_, st := ?_, pid := ?_, inj := ?_, emp := ?_, root := ?_, loc := ?_, par := ?_ }
    · intro j hj e1
      dsimp only at e1 ⊢
      rw [set_s] at e1 ⊢
      by_cases e2 : j = i
      · rw [if_pos e2] at e1; exact absurd e1 (by show (1 : Int) ≠ 0; omega)
      · rw [if_neg e2] at e1 ⊢; exact h.free j hj e1
    · intro j hj
      dsimp only
      rw [set_s]
      split
      · exact ⟨by show (0 : Int) ≤ 1; omega, by show (1 : Int) ≤ 3; omega⟩
      · exact h.st j hj
    · intro j hj e1
      dsimp only at e1 ⊢
      rw [set_s] at e1 ⊢
      by_cases e2 : j = i
      · rw [if_pos e2]; exact ⟨by dsimp only; omega, by dsimp only; omega⟩
      · rw [if_neg e2] at e1 ⊢; have := h.pid j hj e1; exact ⟨this.1, by omega⟩
    · intro j k hj hk ej ek e1
      dsimp only at ej ek e1
      rw [set_s] at ej ek
      rw [set_s, set_s] at e1
      by_cases e2 : j = i
      · by_cases e3 : k = i
        · omega
        · rw [if_neg e3] at ek e1; rw [if_pos e2] at e1
          have := h.pid k hk ek
          dsimp only at e1; omega
      · by_cases e3 : k = i
        · rw [if_neg e2] at ej e1; rw [if_pos e3] at e1
          have := h.pid j hj ej
          dsimp only at e1; omega
        · rw [if_neg e2] at ej e1; rw [if_neg e3] at ek e1
          exact h.inj j k hj hk ej ek e1
    · intro e1
      dsimp only at e1
      rw [set_s, if_neg (by omega)] at e1
      exact absurd e1 ha
    · intro e1
      dsimp only at e1 ⊢
      rw [set_s, if_neg (by omega)] at e1 ⊢
      exact h.root e1
    · intro j hj e1
      dsimp only at e1 ⊢
      rw [set_s] at e1 ⊢
      by_cases e2 : j = i
      · rw [if_pos e2]; exact loc_run rfl rfl rfl rfl
      · rw [if_neg e2] at e1 ⊢; exact h.loc j hj e1
    · intro j hj j0 e1
      dsimp only at e1 ⊢
      rw [set_s] at e1
      by_cases e2 : j = i
      · have hpi : parent.toNat ≠ i := fun e3 => hok.1.2.2 (by rw [e3]; exact hz0)
        refine ⟨parent.toNat, hp, ?_, ?_, ?_, ?_⟩
        · rw [set_s, if_pos e2]; dsimp only; omega
        · rw [set_s, if_neg hpi]; exact hok.1.2.2
        · rw [set_s, if_neg hpi, set_s, if_pos e2]; exact (h.pid _ hp hok.1.2.2).2
        · rw [set_s, if_neg hpi]; exact Or.inr hok.2
      · rw [if_neg e2] at e1
        obtain ⟨p, hp, g1, g2, g3, g4⟩ := h.par j hj j0 e1
        have hpi : p ≠ i := fun e3 => g2 (by rw [e3]; exact hz0)
        exact ⟨p, hp, by rw [set_s, if_neg e2]; exact g1, by rw [set_s, if_neg hpi]; exact g2, by rw [set_s, if_neg hpi, set_s, if_neg e2]; exact g3, by rw [set_s, if_neg hpi]; exact g4⟩
  · have ha' : (t.s 0).st = 0 := Classical.byContradiction ha
    have e : ¬ decide ((t.s 0).st ≠ 0) = true := by simpa using ha'
    rw [if_neg e]
    obtain ⟨hn, hall⟩ := h.emp ha'
    have hi0 : i = 0 := by
      apply Classical.byContradiction
      intro e2
      have := hs.2.2 0 (by omega)
      rw [h.free 0 (by omega) ha'] at this
      simp at this
    subst hi0
    have hz1 : ∀ j, j < 64 → j ≠ 0 → (((t.set 0 ⟨t.next, 1, 0, 0, 0, false, 0⟩).s j).st = 0) := fun j hj e2 => by rw [set_s, if_neg e2]; exact hall j hj
    refine { n1 := by dsimp only; omega, n2 := by dsimp only; omega, free := ?_, st := ?_, pid := ?_, inj := ?_, emp := ?_, root := ?_, loc := ?_, par := ?_ }
    · intro j hj e1
      dsimp only at e1 ⊢
      by_cases e2 : j = 0
      · subst e2; rw [set_same] at e1; exact absurd e1 (by show (1 : Int) ≠ 0; omega)
      · rw [set_s, if_neg e2]; exact h.free j hj (hall j hj)
    · intro j hj
      dsimp only
      rw [set_s]
      split
      · exact ⟨by show (0 : Int) ≤ 1; omega, by show (1 : Int) ≤ 3; omega⟩
      · exact h.st j hj
    · intro j hj e1
      dsimp only at e1 ⊢
      by_cases e2 : j = 0
      · subst e2; rw [set_same]; dsimp only; omega
      · exact absurd (hz1 j hj e2) e1
    · intro j k hj hk ej ek _
      dsimp only at ej ek
      by_cases e2 : j = 0
      · by_cases e3 : k = 0
        · omega
        · exact absurd (hz1 k hk e3) ek
      · exact absurd (hz1 j hj e2) ej
    · intro e1
      dsimp only at e1
      rw [set_same] at e1
      exact absurd e1 (by show (1 : Int) ≠ 0; omega)
    · intro _
      dsimp only
      rw [set_same]; exact ⟨hn, rfl⟩
    · intro j hj e1
      dsimp only at e1 ⊢
      by_cases e2 : j = 0
      · subst e2; rw [set_same]; exact loc_run rfl rfl rfl rfl
      · exact absurd (hz1 j hj e2) e1
    · intro j hj j0 e1
      dsimp only at e1
      exact absurd (hz1 j hj j0) e1
theorem ok_free {t : Tab} (h : Ok t) (s : Int) : Ok (tFree t s).2 := by
  unfold tFree
  split
  · exact h
  split
  · exact h
  rename_i h1 h2
  have hh : t.has s := Classical.byContradiction fun e => h1 (Or.inl e)
  have h0 : s ≠ 0 := fun e => h1 (Or.inr e)
  have h3 : (t.s s.toNat).st = 3 := by simpa using h2
  have hs := has_lt hh
  have hge := hh.1
  have ha := h.zero0 hs hh.2.2
  have hne : (0 : Nat) ≠ s.toNat := by omega
  refine { n1 := h.n1, n2 := h.n2, free := ?_, st := ?_, pid := ?_, inj := ?_, emp := ?_, root := ?_, loc := ?_, par := ?_ }
  · intro j hj e1
    dsimp only at e1 ⊢
    rw [set_s] at e1 ⊢
    split
    · rfl
    · rename_i e2; rw [if_neg e2] at e1; exact h.free j hj e1
  · intro j hj
    dsimp only
    rw [set_s]
    split
    · exact ⟨Int.le_refl _, by show (0 : Int) ≤ 3; omega⟩
    · exact h.st j hj
  · intro j hj e1
    dsimp only at e1 ⊢
    rw [set_s] at e1 ⊢
    by_cases e2 : j = s.toNat
    · rw [if_pos e2] at e1; exact absurd rfl e1
    · rw [if_neg e2] at e1 ⊢; exact h.pid j hj e1
  · intro j k hj hk ej ek e1
    dsimp only at ej ek e1
    rw [set_s] at ej ek
    rw [set_s, set_s] at e1
    by_cases e2 : j = s.toNat
    · rw [if_pos e2] at ej; exact absurd rfl ej
    · by_cases e3 : k = s.toNat
      · rw [if_pos e3] at ek; exact absurd rfl ek
      · rw [if_neg e2] at ej e1; rw [if_neg e3] at ek e1
        exact h.inj j k hj hk ej ek e1
  · intro e1
    dsimp only at e1
    rw [set_s, if_neg hne] at e1
    exact absurd e1 ha
  · intro e1
    dsimp only at e1 ⊢
    rw [set_s, if_neg hne] at e1 ⊢
    exact h.root e1
  · intro j hj e1
    dsimp only at e1 ⊢
    rw [set_s] at e1 ⊢
    by_cases e2 : j = s.toNat
    · rw [if_pos e2] at e1; exact absurd rfl e1
    · rw [if_neg e2] at e1 ⊢; exact h.loc j hj e1
  · intro j hj j0 e1
    dsimp only at e1 ⊢
    rw [set_s] at e1
    by_cases e2 : j = s.toNat
    · rw [if_pos e2] at e1; exact absurd rfl e1
    · rw [if_neg e2] at e1
      obtain ⟨p, hp, g1, g2, g3, g4⟩ := h.par j hj j0 e1
      have hps : p ≠ s.toNat := fun e3 => by
        rcases g4 with e4 | e4
        · omega
        · exact e4 (by rw [e3]; exact h3)
      exact ⟨p, hp, by rw [set_s, if_neg e2]; exact g1, by rw [set_s, if_neg hps]; exact g2, by rw [set_s, if_neg hps, set_s, if_neg e2]; exact g3, by rw [set_s, if_neg hps]; exact g4⟩

/-- A call as data. -/
structure OpD where
  kind : Int
  slot : Int
  ck : Int
  cn : Int
  sts : Int
def OpD.a (o : OpD) : Array Value := #[.int .i64 o.kind, .int .i64 o.slot, .int .i64 o.ck, .int .i64 o.cn, .int .i32 o.sts]
/-- What a call leaves of the table. -/
def tDo (t : Tab) (o : OpD) : Tab :=
  if o.kind = 1 then (tAdd t o.slot).2.2.2 else
  if o.kind = 3 then (tSleep t o.slot o.ck o.cn).2 else
  if o.kind = 4 then (wk t o.ck o.cn 64).2 else
  if o.kind = 5 then (tOne t o.slot).2 else
  if o.kind = 6 then (tKill t o.slot).2 else
  if o.kind = 7 then (tEnd t o.slot o.sts).2.2 else
  if o.kind = 9 then (tFree t o.slot).2 else t
theorem ok_do {t : Tab} (h : Ok t) (o : OpD) : Ok (tDo t o) := by
  unfold tDo
  split
  · exact ok_add h _
  split
  · exact ok_sleep h _ _ _
  split
  · exact ok_wk h _ _ 64 (Nat.le_refl _)
  split
  · exact ok_one h _
  split
  · exact ok_kill h _
  split
  · exact ok_end h _ _
  split
  · exact ok_free h _
  · exact h
end Go.Proofs.Ythihjppjollekaa
