/- Contracts of the program's calls that turn the table of processes; no condition. -/
import Derived.Test.YthihjppjollekaaCb
set_option linter.unusedVariables false
namespace Go.Proofs.Ythihjppjollekaa
open Go.RowKit Go.Hx

/-- A new table's data. -/
def tNew : Tab := { s := fun _ => Pr.zero, next := 1 }
def tZero : Tab := { s := fun _ => Pr.zero, next := 0 }
set_option maxRecDepth 100000 in
theorem bld63 : bldP Try.prog 63 [(1, .int .i64 (1 : Int))] (.agg tNew.enc) := fun w => by kernel_rfl
set_option maxRecDepth 100000 in
theorem bld31 : bldP Try.prog 31 [] (.agg tZero.enc) := fun w => by kernel_rfl
theorem c14 (w : World) : Calls Try.prog 14 #[] w (Ret fun v w' => ∃ b, v = .pointer (some ⟨b, 0, none⟩) ∧ TabAt 63 w' b tNew ∧ w.heap.size ≤ b ∧ Below w.heap.size w w') :=
  W14_ok w _ ⟨_, bld63, newW_intro fun b w1 h1 h2 h3 => ⟨b, rfl, h1, h2, h3⟩⟩

theorem bld28a (p s r : Int) : bldP Try.prog 28 [(0, .int .i64 p), (1, .int .i64 s), (2, .int .i64 r)] (.agg (Pr.a ⟨p, s, r, 0, 0, false, 0⟩)) := fun w => by kernel_rfl

theorem c45 {b bt : Nat} {t : Tab} {w : World} (h : TabAt 63 w b t) (ht : Blk w bt #[.pointer (some ⟨b, 0, none⟩)] 36) {i : Nat} (hi : i < 64) :
    Calls Try.prog 45 #[.int .i64 i, .pointer (some ⟨bt, 0, none⟩)] w (Ret fun v w' => v = .bool (decide ((t.s i).st ≠ 0)) ∧ Below w.heap.size w w') := by
  refine W45_ok _ _ w _ ?_
  refine ⟨_, ht.cell rfl, (c38 h i).mono ?_⟩
  rintro e w' ⟨v, rfl, rfl, rfl⟩
  refine ⟨_, rfl, ?_, Below.refl _ _⟩
  unfold atA Tab.has
  by_cases hs : (t.s i).st = 0
  · simp [hs]
  · simp [hs]; omega

/-- Add: the slot, the pid, the number of the reason; and the table. -/
def tAdd (t : Tab) (parent : Int) : Int × Int × Int × Tab :=
  if (fs fun i => decide ((t.s i).st ≠ 0)).isSome ∧ (¬ t.has parent ∨ (t.s parent.toNat).st = 3) then (-1, -1, 261, t) else
  if t.next > 2147483647 then (-1, -1, 262, t) else
  match fs fun i => decide (t.s i = Pr.zero) with
  | none => (-1, -1, 263, t)
  | some i => ((i : Int), t.next, 0, { (t.set i ⟨t.next, 1, if (fs fun i => decide ((t.s i).st ≠ 0)).isSome then parent else 0, 0, 0, false, 0⟩) with next := t.next + 1 })
def v3 (r : Int × Int × Int × Tab) : Value := .tuple #[.int .i64 r.1, .int .i64 r.2.1, .int .i64 r.2.2.1]
theorem c24 {b : Nat} {t : Tab} {w : World} (h : TabAt 63 w b t) (hn : t.next ≠ 0) (hn1 : 0 ≤ t.next) (hn2 : t.next ≤ 2147483648) (parent : Int) :
    Calls Try.prog 24 #[.pointer (some ⟨b, 0, none⟩), .int .i64 parent] w (Ret fun v w' => v = v3 (tAdd t parent) ∧ TabAt 63 w' b (tAdd t parent).2.2.2 ∧ Mod b w w') := by
  refine W24_ok _ _ w _ ?_
  refine newW_intro fun c w1 k1 l1 b1 => ?_
  have h1 := below_tab b1 (tab_lt h) h
  have hlt := tab_lt h
  refine ⟨_, k1.cell rfl, (c35 h1).mono ?_⟩
  rintro e w' ⟨v, rfl, rfl, rfl⟩
  refine ⟨_, rfl, c_eq (fun e => absurd e hn) (fun _ => ?_)⟩
  -- what is behind the parent's test
  refine ⟨fun x w3 => x = (if (fs fun i => decide ((t.s i).st ≠ 0)).isSome then parent else 0, ()) ∧ ¬ ((fs fun i => decide ((t.s i).st ≠ 0)).isSome ∧ (¬ t.has parent ∨ (t.s parent.toNat).st = 3)) ∧ TabAt 63 w3 b t ∧ Blk w3 c #[.pointer (some ⟨b, 0, none⟩)] 36 ∧ Below w.heap.size w w3, ?_, ?_⟩
  · rintro _ _ w3 ⟨rfl, hok, q1, q2, q3⟩
    refine ⟨_, q2.cell rfl, t.next, by simp only [Addr.add_lit, Nat.zero_add]; exact q1.next, c_dec (fun hp => ?_) (fun hp => ?_)⟩
    · have hp' : t.next > 2147483647 := hp
      have e : tAdd t parent = (-1, -1, 262, t) := by unfold tAdd; rw [if_neg hok, if_pos hp']
      rw [e]
      exact ⟨rfl, q1, Mod.of_below q3⟩
    · have hp' : ¬ t.next > 2147483647 := hp
      refine ⟨_, q2.cell rfl, (c46 q1).mono ?_⟩
      rintro e w4 ⟨v, rfl, rfl, b4⟩
      have q1' := below_tab b4 (tab_lt q1) q1
      have q2' := below_blk b4 q2.lt q2
      have q3' := q3.trans (b4.mono q3.size)
      unfold fsV
      split
      · rename_i i hi
        have hi' := (fs_spec hi).1
        have e : tAdd t parent = ((i : Int), t.next, 0, { (t.set i ⟨t.next, 1, if (fs fun i => decide ((t.s i).st ≠ 0)).isSome then parent else 0, 0, 0, false, 0⟩) with next := t.next + 1 }) := by
          unfold tAdd; rw [if_neg hok, if_neg hp', hi]
        rw [e]
        refine ⟨_, _, rfl, ?_⟩
        refine ⟨_, q2'.cell rfl, t.next, by simp only [Addr.add_lit, Nat.zero_add]; exact q1'.next, _, q2'.cell rfl, _, bld28a _ _ _, ⟨by omega, by omega⟩, ?_⟩
        simp only [Addr.add_lit, Nat.zero_add, Int.toNat_natCast]
        refine tab_stA q1' hi' _ fun w5 h5 m5 s5 => ?_
        have k5 := m5.blk (by omega) q2'
        refine ⟨_, k5.cell rfl, t.next, h5.next, ?_⟩
        rw [wrap_in (by omega) (by omega)]
        simp only [nlW, Addr.add_lit, Nat.zero_add]
        refine tab_stN h5 fun w6 h6 m6 s6 => ⟨rfl, h6, (Mod.of_below q3').trans (m5.trans m6)⟩
      · rename_i hi
        have e : tAdd t parent = (-1, -1, 263, t) := by unfold tAdd; rw [if_neg hok, if_neg hp', hi]
        rw [e]
        exact ⟨_, _, rfl, rfl, q1', Mod.of_below q3'⟩
  · refine (c39 (p := fun i => decide ((t.s i).st ≠ 0)) (fun i w' hi hb' => calV_of (by kernel_rfl) (c45 (below_tab hb' (tab_lt h1) h1) (below_blk hb' k1.lt k1) hi))).mono ?_
    rintro e w2 ⟨v, rfl, rfl, b2⟩
    have h2 := below_tab b2 (tab_lt h1) h1
    have k2 := below_blk b2 k1.lt k1
    have b12 := b1.trans (b2.mono b1.size)
    unfold fsV
    split
    · rename_i i hi
      refine ⟨_, _, rfl, ?_⟩
      refine ⟨_, k2.cell rfl, (c38 h2 parent).mono ?_⟩
      rintro e w3 ⟨v, rfl, rfl, rfl⟩
      refine ⟨_, rfl, ?_⟩
      refine ⟨fun x w4 => x = (decide (¬ t.has parent ∨ (t.s parent.toNat).st = 3), ()) ∧ w4 = w3, ?_, ?_⟩
      · rintro _ _ w4 ⟨rfl, rfl⟩
        refine c_dec (fun hb => ?_) (fun hb => ?_)
        · have e : tAdd t parent = (-1, -1, 261, t) := by unfold tAdd; rw [hi]; simp [hb]
          rw [e]
          exact ⟨rfl, h2, Mod.of_below b12⟩
        · exact ⟨(parent, ()), rfl, by rw [hi]; rfl, by rw [hi]; simpa using hb, h2, k2, b12⟩
      · unfold atA
        by_cases hh : t.has parent
        · rw [if_pos hh]
          obtain ⟨g1, g2, g3⟩ := hh
          refine ⟨(t.s parent.toNat).st, by simp only [Addr.add_lit]; exact h2.st (by omega), (decide ((t.s parent.toNat).st = 3), ()), rfl, ?_, rfl⟩
          have : t.has parent := ⟨g1, g2, g3⟩
          simp [this]
        · rw [if_neg hh]
          exact ⟨(true, ()), rfl, by simp [hh], rfl⟩
    · rename_i hi
      exact ⟨_, _, rfl, (0, ()), rfl, by rw [hi]; rfl, by rw [hi]; simp, h2, k2, b12⟩
end Go.Proofs.Ythihjppjollekaa
