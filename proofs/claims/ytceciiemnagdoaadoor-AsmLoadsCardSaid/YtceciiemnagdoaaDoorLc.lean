/- AsmLoads: both Loads hand back the same, and the law returns true. No condition. -/
import Derived.Test.YtceciiemnagdoaaDoorLb
set_option linter.unusedVariables false
namespace Go.Proofs.YtceciiemnagdoaaDoor
open Go.RowKit Go.Hx
def ldR (d : Nat) (rd v : Int) : List Value := if rd < 0 ∨ rd > 31 then [] else ld d rd v
def LQ (w : World) (rd v : Int) (d : Nat) (r : Value) (w' : World) : Prop :=
  ∃ (q : Option Addr) (n c : Nat), r = .slice q n c ∧ Ow 29 6 w.heap.size w' q n c (ldR d rd v) ∧ (n = 0 → q = none) ∧ Below w.heap.size w w'
theorem LQ.of {w w' : World} {rd v : Int} {d : Nat} {q : Option Addr} {n c : Nat} {vs : List Value} (h : Ow 29 6 w.heap.size w' q n c vs) (hr : ¬ (rd < 0 ∨ rd > 31)) (hv : vs = ld d rd v) (hb : Below w.heap.size w w') : LQ w rd v d (.slice q n c) w' := by
  subst hv
  refine ⟨q, n, c, rfl, by unfold ldR; rw [if_neg hr]; exact h, fun h0 => ?_, hb⟩
  have h1 := h.len
  rw [h0, Nat.zero_mul] at h1
  exact absurd (List.length_eq_zero_iff.1 h1) (ld_len d rd v).2
theorem ow_le {d : Nat} {rd v : Int} {w : World} {N : Nat} {q : Option Addr} {n c : Nat} (h : Ow 29 6 N w q n c (ldR d rd v)) : n ≤ 2 * (d + 1) := by
  have h1 := h.len
  unfold ldR at h1
  split at h1
  · simp at h1; omega
  · have := (ld_len d rd v).1
    omega
theorem pow_min {n : Nat} (h : n < 64) : (2 : Int) ^ min ((n : Nat) : Int).toNat IntKind.i64.bits = 2 ^ n := by
  have : min ((n : Nat) : Int).toNat IntKind.i64.bits = n := by
    show min _ 64 = n
    omega
  rw [this]
theorem oddP.nat {n : Nat} {h : Int} (o : oddP n h) (hn : n < 64) : ∃ M : Nat, (IntKind.u64.wrap h).toNat = 2 ^ n * M ∧ M % 2 = 1 := by
  obtain ⟨m, rfl, hm⟩ := o
  have hp : (18446744073709551616 : Int) = 2 ^ n * 2 ^ (64 - n) := by
    rw [← Int.pow_add, show n + (64 - n) = 64 by omega]; rfl
  have hp2 : (0 : Int) < 2 ^ n := by exact_mod_cast Nat.two_pow_pos n
  have hq : (2 : Int) ^ (64 - n) = 2 * 2 ^ (63 - n) := by
    rw [show 64 - n = (63 - n) + 1 by omega, Int.pow_succ, Int.mul_comm]
  have hp3 : (0 : Int) < 2 ^ (63 - n) := by exact_mod_cast Nat.two_pow_pos (63 - n)
  refine ⟨(m % 2 ^ (64 - n)).toNat, ?_, ?_⟩
  · rw [wrap_u64, hp, Int.mul_emod_mul_of_pos _ _ hp2]
    have h0 : 0 ≤ m % 2 ^ (64 - n) := Int.emod_nonneg _ (by omega)
    have e : (2 : Int) ^ n = ((2 ^ n : Nat) : Int) := by norm_cast
    rw [e, Int.toNat_mul (by omega) h0, Int.toNat_natCast]
  · have h0 : 0 ≤ m % 2 ^ (64 - n) := Int.emod_nonneg _ (by omega)
    have h1 : m % 2 ^ (64 - n) % 2 = m % 2 := by
      rw [hq]
      exact Int.emod_emod_of_dvd _ ⟨_, rfl⟩
    omega
theorem wrap_wrap {v : Int} (h1 : -9223372036854775808 ≤ v) (h2 : v < 9223372036854775808) : IntKind.i64.wrap (IntKind.u64.wrap v) = v := by
  rw [wrap_u64, wrap_i64]; omega
theorem fdiv12 (n : Int) : n.fdiv (2 ^ min (12 : Int).toNat IntKind.i64.bits) = n / 4096 := by
  have e : (2 : Int) ^ min (12 : Int).toNat IntKind.i64.bits = 4096 := by decide
  rw [e, Int.fdiv_eq_ediv_of_nonneg _ (by omega)]
theorem InB.up {d : Nat} {v : Int} (h : InB d v) : InB 3 v := by
  have := h.big
  unfold InB
  simp only [Bd]
  omega
theorem small32 {d : Nat} {rd v : Int} (h : isI32 v = true) : ld d rd v = small rd v := by
  cases d with
  | zero => rfl
  | succ d => unfold ld; rw [if_pos h]
theorem ld_deep {d : Nat} {rd v : Int} (h : isI32 v = false) : ld (d + 1) rd v = ld d rd (hi v / 2 ^ tz (hi v)) ++ (insV 28 rd rd (12 + (tz (hi v) : Int))).toList ++ (if lo v = 0 then [] else (insV 22 rd rd (lo v)).toList) := by
  show (if isI32 v = true then _ else _) = _
  rw [if_neg (by rw [h]; decide)]
theorem lo_i32 {v : Int} (h : v = lo v) : isI32 v = true := by
  unfold isI32
  unfold lo at h
  rw [decide_eq_true_eq]; omega
theorem i32_iff (v : Int) : v = IntKind.i64.wrap (IntKind.i32.wrap v) ↔ isI32 v = true := by
  unfold isI32
  rw [decide_eq_true_eq, wrap_i64, wrap_i32]; omega
theorem not32 {d : Nat} {v : Int} (h : InB d v) (hn : isI32 v = false) : ∃ d', d = d' + 1 := by
  cases d with
  | zero =>
    unfold isI32 at hn
    have hn := of_decide_eq_false hn
    unfold InB at h
    simp only [Bd] at h
    omega
  | succ d => exact ⟨d, rfl⟩
/-- The deep way: what the halves have in common. -/
theorem deep {d : Nat} {v : Int} (hd : d + 1 ≤ 3) (h : InB (d + 1) v) (hn : isI32 v = false) : oddP (tz (hi v)) (hi v) ∧ tz (hi v) < 64 ∧ InB d (hi v) ∧ InB d (hi v / 2 ^ tz (hi v)) ∧ (-9223372036854775808 ≤ hi v ∧ hi v < 9223372036854775808) ∧ -9223372036854775808 ≤ v - lo v ∧ v - lo v ≤ 9223372036854775808 := by
  have h1 := hi_in (by omega) h
  have h2 := h1.big
  have h3 := tz_odd (hi_ne h.big.1 h.big.2 hn) h2.1 h2.2
  have h4 := h.big
  exact ⟨h3, h3.lt h2.1 h2.2, h1, div_in _ h1, h2, by unfold lo; omega, by unfold lo; omega⟩
theorem c_LoadStep (d : Nat) (x rd v : Int) (w : World) (hd : d ≤ 3) (hv : InB d v) (hx : IntKind.i64.wrap x = v) (ht : TabAt w)
    (rec : ∀ d', d = d' + 1 → ∀ (x v : Int) (w : World), InB d' v → IntKind.i64.wrap x = v → TabAt w → Calls Tryd.prog 4 #[.int .u64 x, .int .i64 rd] w (Ret (LQ w rd v d'))) :
    Calls Tryd.prog 4 #[.int .u64 x, .int .i64 rd] w (Ret (LQ w rd v d)) := by
  refine W4_ok _ _ w _ ?_
  unfold W4
  rw [hx]
  refine (c_lower hv.up).mono ?_
  rintro _ _ ⟨_, rfl, rfl, rfl⟩
  have hsz := ht.size
  refine ⟨_, rfl, fun t w' => t = (decide (rd < 0 ∨ rd > 31), ()) ∧ w = w', ?_, ?_⟩
  · rintro _ _ _ ⟨rfl, rfl⟩
    refine c_dec (fun hr => ⟨none, 0, 0, rfl, by unfold ldR; rw [if_pos hr]; exact Ow.nil _ _ _ _, fun _ => rfl, Below.refl _ _⟩) (fun hr => c_eq (fun he => ⟨_, bI3 _ _ _, lit1 (Nat.le_refl _) 22 rd 0 v fun q w' o b => ?_⟩) (fun hne => ⟨_, bI4 _ _ _ _, newW_intro fun a8 w2 k2 l2 b2 => stW_intro k2 fun w3 k3 m3 s3 => ?_⟩))
    · refine LQ.of o hr ?_ b
      rw [small32 (lo_i32 he)]
      unfold small
      rw [if_pos he]
    · have z2 := b2.size
      have b3 : Below w.heap.size w w3 := b2.trans (m3.below (by omega) l2)
      refine ⟨fun t w' => ∃ (q : Option Addr) (n c : Nat) (op : Int) (vs : List Value), t = ((q, n, c), ()) ∧ Ow 29 6 w.heap.size w' q n c vs ∧ Blk w' a8 (insV op rd rd (lo v)) 29 ∧
        vs ++ (if lo v = 0 then [] else (insV op rd rd (lo v)).toList) = ld d rd v ∧ Below w.heap.size w w' ∧ n ≤ 20, ?_, ?_⟩
      · rintro _ _ w4 ⟨q, n, c, op, vs, rfl, o, k, e, b4, hn⟩
        refine c_ne (fun h0 => ⟨_, rfl, row_whole k, o.push b4.size kIs kI rfl (by decide) (ins_one _ _ _ _) (by omega) (by unfold maxLen; omega) fun q' c' w5 o5 b5 _ => ?_⟩) (fun h0 => ?_)
        · refine LQ.of o5 hr ?_ (b4.trans b5)
          rw [if_neg h0] at e
          exact e
        · refine LQ.of o hr ?_ b4
          rw [if_pos h0, List.append_nil] at e
          exact e
      · refine c_eq (fun h32 => ⟨_, bI3 _ _ _, lit1 (Nat.le_refl _) _ _ _ _ fun q w4 o4 b4 => ?_⟩) (fun h32 => ⟨by decide, ?_⟩)
        · have h32' := (i32_iff v).1 h32
          have z3 := b3.size
          refine stC_intro (below_blk b4 k3.lt k3) (show 0 < 6 by decide) fun w5 k5 m5 s5 => ?_
          have hq : ∀ a, some q = some a → a.block ≠ a8 := fun a ha => by
            have := (o4.lt ha).2
            have := k3.lt
            omega
          refine ⟨_, rfl, some q, 1, 1, 41, _, rfl, (o4.mono z3).keep fun a ha => m5.block _ (o4.lt ha).1 (hq a ha), k5, ?_, (b3.trans (b4.mono z3)).trans (m5.below (by have := b4.size; omega) l2), by omega⟩
          rw [small32 h32']
          unfold small
          rw [if_neg hne]
        · have h32' : isI32 v = false := by
            cases hh : isI32 v
            · rfl
            · exact absurd ((i32_iff v).2 hh) h32
          obtain ⟨d', rfl⟩ := not32 hv h32'
          obtain ⟨ho, hlt, hb1, hb2, hb3, _⟩ := deep hd hv h32'
          have z3 := b3.size
          have eh : (IntKind.i64.wrap (v - lo v)).fdiv (2 ^ min (12 : Int).toNat IntKind.i64.bits) = hi v := fdiv12 _
          rw [eh]
          obtain ⟨M, hM1, hM2⟩ := ho.nat hlt
          have ht3 := ht.below b3 hsz
          refine (c_tz ht3 (by rw [wrap_u64]; omega) (by rw [wrap_u64]; omega) hM1 hM2 hlt).mono ?_
          rintro _ _ ⟨_, rfl, rfl, rfl⟩
          refine ⟨_, rfl, by omega, ?_⟩
          rw [pow_min hlt, Int.fdiv_eq_ediv_of_nonneg _ (by have := Nat.two_pow_pos (tz (hi v)); exact_mod_cast Nat.le_of_lt this)]
          refine (rec d' rfl _ _ w3 hb2 (wrap_wrap hb2.big.1 hb2.big.2) ht3).mono ?_
          rintro _ w4 ⟨_, rfl, q, n, c, rfl, o4, _, b4⟩
          have hn := ow_le o4
          unfold ldR at o4
          rw [if_neg hr] at o4
          refine ⟨q, n, c, rfl, _, bI4 _ _ _ _, (o4.mono z3).push (by have := b4.size; omega) kIs kI rfl (by decide) (ins_one _ _ _ _) (by omega) (by unfold maxLen; omega) fun q' c' w5 o5 b5 g5 => ?_⟩
          refine ⟨_, rfl, q', n + 1, c', 22, _, rfl, o5, g5.blk (below_blk b4 k3.lt k3) (fun a ha => ?_), ?_, (b3.trans (b4.mono z3)).trans b5, by omega⟩
          · have := (o4.lt ha).2
            have := k3.lt
            omega
          · rw [show IntKind.i64.wrap (12 + ((tz (hi v) : Nat) : Int)) = 12 + ((tz (hi v) : Nat) : Int) by rw [wrap_i64]; omega]
            rw [ld_deep h32']
            rfl
  · refine c_dec (fun h => ⟨(true, ()), rfl, ?_, rfl⟩) (fun h => ⟨(decide (rd > 31), ()), rfl, ?_, rfl⟩)
    · rw [decide_eq_true (Or.inl h)]
    · congr 1
      simp [h]
theorem c_Load : ∀ (d : Nat), d ≤ 3 → ∀ (x rd v : Int) (w : World), InB d v → IntKind.i64.wrap x = v → TabAt w → Calls Tryd.prog 4 #[.int .u64 x, .int .i64 rd] w (Ret (LQ w rd v d))
  | 0, hd, x, rd, v, w, h1, h2, h3 => c_LoadStep 0 x rd v w hd h1 h2 h3 fun d' h => by omega
  | d + 1, hd, x, rd, v, w, h1, h2, h3 => c_LoadStep (d + 1) x rd v w hd h1 h2 h3 fun d' h x v w h4 h5 h6 => by
    have : d' = d := by omega
    subst this
    exact c_Load d' (by omega) x rd v w h4 h5 h6
end Go.Proofs.YtceciiemnagdoaaDoor
