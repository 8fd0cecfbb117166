/- AsmLoads: the document's Load, and the law. No condition. -/
import Derived.Test.YtceciiemnagdoaaDoorLc
set_option linter.unusedVariables false
namespace Go.Proofs.YtceciiemnagdoaaDoor
open Go.RowKit Go.Hx
theorem small12 {v : Int} : (-2048 ≤ v ∧ v ≤ 2047) ↔ v = lo v := by unfold lo; omega
theorem sub_wrap (x l v : Int) (hx : IntKind.i64.wrap x = v) (h1 : -9223372036854775808 ≤ l) (h2 : l < 9223372036854775808) : IntKind.i64.wrap (IntKind.u64.wrap (x - IntKind.u64.wrap l)) = IntKind.i64.wrap (v - l) := by
  subst hx
  simp only [wrap_u64, wrap_i64]
  omega
theorem c_refStep (d : Nat) (x rd v : Int) (w : World) (hd : d ≤ 3) (hv : InB d v) (hx : IntKind.i64.wrap x = v)
    (rec : ∀ d', d = d' + 1 → ∀ (x v : Int) (w : World), InB d' v → IntKind.i64.wrap x = v → Calls Tryd.prog 6 #[.int .u64 x, .int .i64 rd] w (Ret (LQ w rd v d'))) :
    Calls Tryd.prog 6 #[.int .u64 x, .int .i64 rd] w (Ret (LQ w rd v d)) := by
  refine W6_ok _ _ w _ ?_
  unfold W6
  rw [hx]
  have nil : rd < 0 ∨ rd > 31 → LQ w rd v d (.slice none 0 0) w := fun hr => ⟨none, 0, 0, rfl, by unfold ldR; rw [if_pos hr]; exact Ow.nil _ _ _ _, fun _ => rfl, Below.refl _ _⟩
  refine c_dec (fun h => nil (.inl h)) (fun h1 => c_dec (fun h => nil (.inr h)) (fun h2 => ?_))
  have hr : ¬ (rd < 0 ∨ rd > 31) := fun h => by omega
  refine ⟨fun t w' => t = (decide (v = lo v), ()) ∧ w = w', ?_, ?_⟩
  · rintro _ _ _ ⟨rfl, rfl⟩
    refine c_dec (fun he => ⟨_, bI3 _ _ _, lit1 (Nat.le_refl _) 22 rd 0 v fun q w' o b => ?_⟩) (fun hne => ?_)
    · refine LQ.of o hr ?_ b
      rw [small32 (lo_i32 he)]
      unfold small
      rw [if_pos he]
    · refine (c_lower' hv.up).mono ?_
      rintro _ _ ⟨_, rfl, rfl, rfl⟩
      refine ⟨_, rfl, fun t w' => t = (isI32 v, ()) ∧ w = w', ?_, ?_⟩
      · rintro _ _ _ ⟨rfl, rfl⟩
        refine c_b (fun h32 => ⟨_, bI3 _ _ _, lit1 (Nat.le_refl _) 1 rd 0 _ fun q w1 o1 b1 => ?_⟩) (fun h32 => ⟨by decide, ?_⟩)
        · have e := small32 (d := d) (rd := rd) h32
          unfold small at e
          rw [if_neg hne] at e
          refine c_ne (fun h0 => ⟨_, bI4 _ _ _ _, o1.push b1.size kIs kI rfl (by decide) (ins_one _ _ _ _) (by decide) (by decide) fun q' c' w5 o5 b5 _ => ?_⟩) (fun h0 => ?_)
          · refine LQ.of o5 hr ?_ (b1.trans b5)
            rw [e, if_neg h0]
            rfl
          · refine LQ.of o1 hr ?_ b1
            rw [e, if_pos h0, List.append_nil]
        · obtain ⟨d', rfl⟩ := not32 hv h32
          obtain ⟨⟨m, hm1, hm2⟩, hlt, hb1, hb2, hb3, hb4⟩ := deep hd hv h32
          have eh : (IntKind.i64.wrap (IntKind.u64.wrap (x - IntKind.u64.wrap (lo v)))).fdiv (2 ^ min (12 : Int).toNat IntKind.i64.bits) = hi v := by
            rw [sub_wrap x (lo v) v hx (by unfold lo; omega) (by unfold lo; omega), fdiv12]
            try rfl
          rw [eh]
          have em : hi v / 2 ^ tz (hi v) = m := by
            have hp : (0 : Int) < 2 ^ tz (hi v) := by exact_mod_cast Nat.two_pow_pos (tz (hi v))
            conv => lhs; lhs; rw [hm1]
            exact Int.mul_ediv_cancel_left _ (by omega)
          generalize ez : tz (hi v) = z at *
          refine ⟨fun t w' => ∃ s : Nat, t = (2 ^ (z - s) * m, (s : Int), ()) ∧ s ≤ z ∧ w = w', fun t _ => z - t.2.1.toNat, ⟨(hi v, ((0 : Nat) : Int), ()), rfl, 0, by rw [Nat.sub_zero, ← hm1], Nat.zero_le _, rfl⟩, ?_⟩
          rintro _ _ _ ⟨s, rfl, hs, rfl⟩
          simp only [and1]
          by_cases hsz : s < z
          · have e2 : (2 : Int) ^ (z - s) * m = 2 * (2 ^ (z - (s + 1)) * m) := by
              rw [show z - s = (z - (s + 1)) + 1 by omega, Int.pow_succ, Int.mul_comm (2 ^ _) 2, Int.mul_assoc]
            refine c_eq (fun _ => ⟨by decide, (2 ^ (z - (s + 1)) * m, ((s + 1 : Nat) : Int), ()), ?_, ⟨s + 1, rfl, hsz, by trivial⟩, ?_⟩) (fun h => absurd (by rw [e2]; omega) h)
            · have e1 : (2 : Int) ^ min (1 : Int).toNat IntKind.i64.bits = 2 := by decide
              rw [e1, Int.fdiv_eq_ediv_of_nonneg _ (by omega), wrap_in (by omega) (by omega), e2, Int.mul_ediv_cancel_left _ (by omega)]
              rfl
            · show z - (((s + 1 : Nat) : Int)).toNat < z - (s : Int).toNat
              omega
          · have e0 : s = z := by omega
            subst e0
            have e2 : (2 : Int) ^ (s - s) * m = m := by rw [Nat.sub_self, Int.pow_zero, Int.one_mul]
            rw [e2]
            refine c_eq (fun h => by omega) (fun _ => ?_)
            rw [em] at hb2
            refine (rec d' rfl _ _ w hb2 (wrap_wrap hb2.big.1 hb2.big.2)).mono ?_
            rintro _ w4 ⟨_, rfl, q, n, c, rfl, o4, _, b4⟩
            have hn := ow_le o4
            unfold ldR at o4
            rw [if_neg hr] at o4
            have el := ld_deep (d := d') (rd := rd) h32
            rw [ez, em] at el
            have e12 : IntKind.i64.wrap (12 + ((s : Nat) : Int)) = 12 + ((s : Nat) : Int) := by rw [wrap_i64]; omega
            rw [e12]
            refine ⟨q, n, c, rfl, _, bI4 _ _ _ _, o4.push b4.size kIs kI rfl (by decide) (ins_one _ _ _ _) (by omega) (by unfold maxLen; omega) fun q' c' w5 o5 b5 g5 => ?_⟩
            refine c_ne (fun h0 => ⟨_, bI4 _ _ _ _, o5.push (b4.trans b5).size kIs kI rfl (by decide) (ins_one _ _ _ _) (by omega) (by unfold maxLen; omega) fun q' c' w6 o6 b6 _ => ?_⟩) (fun h0 => ?_)
            · refine LQ.of o6 hr ?_ ((b4.trans b5).trans b6)
              rw [el, if_neg h0]
              rfl
            · refine LQ.of o5 hr ?_ (b4.trans b5)
              rw [el, if_pos h0, List.append_nil]
              rfl
      · refine c_dec (fun h => ⟨(decide (v ≤ 2147483647), ()), rfl, ?_, rfl⟩) (fun h => ⟨(false, ()), rfl, ?_, rfl⟩)
        · unfold isI32
          congr 1
          rw [decide_eq_decide]; omega
        · unfold isI32
          rw [decide_eq_false (by omega)]
  · refine c_dec (fun h => ⟨(decide (v ≤ 2047), ()), rfl, ?_, rfl⟩) (fun h => ⟨(false, ()), rfl, ?_, rfl⟩)
    · congr 1
      rw [decide_eq_decide, ← small12]; omega
    · rw [decide_eq_false (by rw [← small12]; omega)]
theorem c_refLoad : ∀ (d : Nat), d ≤ 3 → ∀ (x rd v : Int) (w : World), InB d v → IntKind.i64.wrap x = v → Calls Tryd.prog 6 #[.int .u64 x, .int .i64 rd] w (Ret (LQ w rd v d))
  | 0, hd, x, rd, v, w, h1, h2 => c_refStep 0 x rd v w hd h1 h2 fun d' h => by omega
  | d + 1, hd, x, rd, v, w, h1, h2 => c_refStep (d + 1) x rd v w hd h1 h2 fun d' h x v w h4 h5 => by
    have : d' = d := by omega
    subst this
    exact c_refLoad d' (by omega) x rd v w h4 h5
theorem ins_ints {a b r c : Int} : ∀ u ∈ (insV a b r c).toList, ∃ n, u = Value.int .i64 n := by
  intro u hu
  simp [insV] at hu
  rcases hu with rfl | rfl | rfl | rfl | rfl | rfl <;> exact ⟨_, rfl⟩
theorem small_ints (rd v : Int) : ∀ u ∈ small rd v, ∃ n, u = Value.int .i64 n := by
  intro u hu
  unfold small at hu
  split at hu
  · exact ins_ints u hu
  · split at hu
    · rw [List.append_nil] at hu
      exact ins_ints u hu
    · exact (List.mem_append.1 hu).elim (ins_ints u) (ins_ints u)
theorem ld_ints : ∀ (d : Nat) (rd v : Int), ∀ u ∈ ld d rd v, ∃ n, u = Value.int .i64 n
  | 0, rd, v => small_ints rd v
  | d + 1, rd, v => by
    intro u hu
    unfold ld at hu
    split at hu
    · exact small_ints rd v u hu
    · rcases List.mem_append.1 hu with h | h
      · rcases List.mem_append.1 h with h | h
        · exact ld_ints d _ _ u h
        · exact ins_ints u h
      · split at h
        · cases h
        · exact ins_ints u h
theorem wrap_big (x : Int) : InB 3 (IntKind.i64.wrap x) := by
  rw [wrap_i64]
  unfold InB
  simp only [Bd]
  omega
/-- The law. -/
theorem c_law (x rd : Int) (w : World) (ht : TabAt w) : Calls Tryd.prog 3 #[.int .u64 x, .int .i64 rd] w (Ret fun v w' => v = .bool true ∧ Below w.heap.size w w') := by
  refine W3_ok _ _ w _ ?_
  have hv := wrap_big x
  refine (c_Load 3 (Nat.le_refl _) x rd _ w hv rfl ht).mono ?_
  rintro _ w1 ⟨_, rfl, q1, n1, c1, rfl, o1, hq, b1⟩
  refine ⟨_, _, _, rfl, (c_refLoad 3 (Nat.le_refl _) x rd _ w1 hv rfl).mono ?_⟩
  rintro _ w2 ⟨_, rfl, q2, n2, c2, rfl, o2, _, b2⟩
  have z1 := b1.size
  have hn : n1 ≤ 8 := ow_le o1
  have e : n1 = n2 := by
    have h1 := o1.len
    have h2 := o2.len
    omega
  subst e
  refine ⟨_, _, _, rfl, (c_same (o1.below b2).rd o2.rd (by unfold maxLen; omega) ?_).mono ?_⟩
  · intro u hu
    unfold ldR at hu
    split at hu
    · cases hu
    · exact ld_ints _ _ _ u hu
  · rintro _ w3 ⟨_, rfl, rfl, b3⟩
    have b := b1.trans (b2.mono z1)
    have B := b.trans (b3.mono b.size)
    refine ⟨true, rfl, ?_⟩
    show cond _ _ _
    refine c_dec (fun _ => c_dec (fun _ => ⟨rfl, B⟩) (fun h => ⟨?_, B⟩)) (fun h => by omega)
    rw [hq (by omega)]
    rfl
end Go.Proofs.YtceciiemnagdoaaDoor
