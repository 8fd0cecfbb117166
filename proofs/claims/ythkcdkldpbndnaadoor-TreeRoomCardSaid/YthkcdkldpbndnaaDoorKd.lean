/- The memory of frames: reach, Read, Write, New. No condition. -/
import Derived.Test.YthkcdkldpbndnaaDoorKc
set_option linter.unusedVariables false
namespace Go.Proofs.YthkcdkldpbndnaaDoor
open Go.RowKit Go.Hx
section
variable {N : Nat} {w : World} {r mb hb F : Nat} {fl : List Nat} {bs : List UInt8}
theorem nat_lt {a b : Nat} : (((a : Nat) : Int) < ((b : Nat) : Int)) ↔ a < b := by omega
set_option maxRecDepth 100000 in
/-- reach: bytes within one held frame. -/
theorem c_reach (h : RamAt N w r mb hb F fl bs) {i o n : Nat} (hi : i < F) (hf : i ∉ fl) (hn : 1 ≤ n) (ho : o + n ≤ 4096) : Calls Tryd.prog 146 #[rp r, .int .u64 ((fa i + o : Nat) : Int), .int .i64 ((n : Nat) : Int)] w
    (Ret fun v w' => v = .tuple #[.slice (some ⟨mb, i * 4096 + o, none⟩) n (F * 4096 - (i * 4096 + o)), .bool true] ∧ Below w.heap.size w w') := by
  have hF := h.F2
  have hfa : fa i + o = 2147483648 + (i * 4096 + o) := by unfold fa; omega
  have e1 : IntKind.u64.wrap (((fa i + o : Nat) : Int) - 2147483648) = ((i * 4096 + o : Nat) : Int) := by rw [wuI (by omega) (by omega)]; omega
  have e2 : IntKind.u64.wrap ((n : Nat) : Int) = ((n : Nat) : Int) := wu64 _ (by omega)
  have e3 : IntKind.u64.wrap ((F * 4096 : Nat) : Int) = ((F * 4096 : Nat) : Int) := wu64 _ (by omega)
  refine W146_ok _ _ _ w _ ?_
  unfold W146
  rw [e1, e2]
  refine ⟨fun t w' => t = (false, ()) ∧ w = w', ?_, ?_⟩
  · rintro _ _ _ ⟨rfl, rfl⟩
    refine c_eq (fun hz => absurd hz (by omega)) (fun _ => ⟨fun t w' => t = (false, ()) ∧ w = w', ?_, ?_⟩)
    · rintro _ _ _ ⟨rfl, rfl⟩
      have e4 : IntKind.u64.wrap (((fa i + o : Nat) : Int).tdiv 4096) = ((524288 + i : Nat) : Int) := by
        rw [Int.tdiv_eq_ediv_of_nonneg (by omega), wuI (by omega) (by omega)]; omega
      have e5 : IntKind.u64.wrap ((IntKind.u64.wrap (IntKind.u64.wrap (((fa i + o : Nat) : Int) + ((n : Nat) : Int)) - 1)).tdiv 4096) = ((524288 + i : Nat) : Int) := by
        rw [wuI (n := ((fa i + o : Nat) : Int) + ((n : Nat) : Int)) (by omega) (by omega), wuI (n := ((fa i + o : Nat) : Int) + ((n : Nat) : Int) - 1) (by omega) (by omega), Int.tdiv_eq_ediv_of_nonneg (by omega), wuI (by omega) (by omega)]; omega
      rw [e4, e5]
      refine ⟨by decide, by decide, fun t w' => ∃ k : Nat, t = (((524288 + i + k : Nat) : Int), ()) ∧ k ≤ 1 ∧ Below w.heap.size w w', fun t _ => 524289 + i - t.1.toNat, ⟨(((524288 + i : Nat) : Int), ()), rfl, 0, rfl, by omega, Below.refl _ _⟩, ?_⟩
      rintro _ _ w1 ⟨k, rfl, hk, b1⟩
      have h1 := h.below b1
      have z1 := b1.size
      refine c_dec (fun hle => ?_) (fun hgt => ?_)
      · have hk0 : k = 0 := by
          have : ((524288 + i + k : Nat) : Int) ≤ ((524288 + i : Nat) : Int) := hle
          omega
        subst hk0
        obtain ⟨ks, hkk, hm⟩ := h1.kh
        have e6 : IntKind.u64.wrap (((524288 + i + 0 : Nat) : Int) * 4096) = ((fa i : Nat) : Int) := by rw [wuI (by omega) (by omega)]; unfold fa; omega
        dsimp only
        rw [e6]
        have hh := mp_has hkk mapT keyT zU ((fa i : Nat) : Int)
        rw [decide_eq_true ((mem_held hm hi).2 hf)] at hh
        refine ⟨.map (some hb), h1.kr.at rfl, #[], true, hh, newW_intro fun a w2 k2 l2 b2 => stW_intro k2 fun w3 k3 m3 s3 => ?_⟩
        have b3 : Below w.heap.size w w3 := (b1.trans (b2.mono z1)).trans (m3.below (by have := b2.size; omega) (by omega))
        refine ⟨(((524288 + i + 1 : Nat) : Int), ()), ?_, ⟨1, rfl, by omega, b3⟩, ?_⟩
        · have e7 : IntKind.u64.wrap (((524288 + i + 0 : Nat) : Int) + 1) = ((524288 + i + 1 : Nat) : Int) := by rw [wuI (by omega) (by omega)]; omega
          rw [e7]; rfl
        · show 524289 + i - (((524288 + i + 1 : Nat) : Int)).toNat < 524289 + i - (((524288 + i + 0 : Nat) : Int)).toNat
          omega
      · have e8 : IntKind.u64.wrap (((i * 4096 + o : Nat) : Int) + ((n : Nat) : Int)) = ((i * 4096 + o + n : Nat) : Int) := by rw [wuI (by omega) (by omega)]; omega
        refine ⟨_, _, _, h1.kr.cell rfl, ?_⟩
        rw [e8, Int.toNat_natCast, Int.toNat_natCast, slB_frame (by omega), show i * 4096 + o + n - (i * 4096 + o) = n by omega]
        exact ⟨⟨by omega, by omega⟩, ⟨by omega, by omega⟩, rfl, b1⟩
    · have hbig : ¬ ((fa i + o : Nat) : Int) < 2147483648 := by omega
      rw [decide_eq_false hbig]
      refine ⟨some ⟨mb, 0, none⟩, F * 4096, F * 4096, h.kr.cell rfl, ?_⟩
      rw [e3]
      refine c_dec (fun hge => absurd hge (by omega)) (fun _ => ⟨_, _, _, h.kr.cell rfl, (false, ()), ?_, rfl, rfl⟩)
      have e9 : IntKind.u64.wrap (((F * 4096 : Nat) : Int) - ((i * 4096 + o : Nat) : Int)) = ((F * 4096 - (i * 4096 + o) : Nat) : Int) := by rw [wuI (by omega) (by omega)]; omega
      rw [e3, e9, decide_eq_false (by omega)]; rfl
  · refine (c_rnone h).mono ?_
    rintro _ _ ⟨_, rfl, rfl, rfl⟩
    refine ⟨_, rfl, (false, ()), ?_, rfl, rfl⟩
    rw [decide_eq_false (by omega)]; rfl
theorem ram_rd (h : RamAt N w r mb hb F fl bs) {a n : Nat} (ha : a + n ≤ F * 4096) : Rd 1 w (some ⟨mb, a, none⟩) n (bv (win bs a n)) := by
  have hl := h.len
  refine ⟨by rw [bv_length, win_len (by omega), Nat.mul_one], fun e => (by cases e), fun p hp => ?_⟩
  cases hp
  intro j v hv
  rw [List.getElem?_toArray, bv_get, win_get] at hv
  by_cases hj : j < n
  · rw [if_pos hj] at hv
    rw [Addr.add_lit]
    exact h.km.cell (by rw [List.getElem?_toArray, bv_get]; exact hv)
  · rw [if_neg hj] at hv; cases hv
set_option maxRecDepth 100000 in
theorem c_rRead (h : RamAt N w r mb hb F fl bs) {i o n : Nat} (hi : i < F) (hf : i ∉ fl) (hn : 1 ≤ n) (ho : o + n ≤ 4096) : Calls Tryd.prog 123 #[rp r, .int .u64 ((fa i + o : Nat) : Int), .int .i64 ((n : Nat) : Int)] w
    (Ret fun v w' => ∃ q c, v = .tuple #[.slice q n c, .bool true] ∧ Ow 5 1 w.heap.size w' q n c (bv (win bs (i * 4096 + o) n)) ∧ Below w.heap.size w w') := by
  refine W123_ok _ _ _ w _ ((c_reach h hi hf hn ho).mono ?_)
  rintro _ w1 ⟨_, rfl, rfl, b1⟩
  have z1 := b1.size
  have hF := h.F2
  refine ⟨_, _, _, _, rfl, apn_copy (ram_rd (h.below b1) (by omega)) (.inl rfl) kBs kB (fun u hu => ?_) (by omega) (by unfold maxLen; omega) (fun h0 => by omega) fun q c w2 o2 b2 _ => ⟨q, c, rfl, o2.mono z1, b1.trans (b2.mono z1)⟩⟩
  simp only [bv, List.mem_map] at hu
  obtain ⟨b, _, rfl⟩ := hu
  rfl
theorem first_rd {P : Program} {q : Option Addr} {n c k : Nat} {xs : List UInt8} (hx : Rd 1 w q n (bv xs)) (hk : k ≤ n) : (Builtin.firstCells 1 k (.slice q n c)).run P w = .ok (bv (xs.take k)).toArray w := by
  have lx : xs.length = n := by have := hx.len; rw [bv_length, Nat.mul_one] at this; exact this
  cases q with
  | none =>
    have h0 := hx.nil rfl
    have : k = 0 := by omega
    subst this
    rw [List.take_zero]; rfl
  | some a =>
    show (loadCells a (k * 1)).run P w = _
    have hl := run_loadCells_list (P := P) w a (bv (xs.take k)) (fun j v hv => hx.cell rfl (by
      rw [bv_get] at hv ⊢
      have hj : j < k := by
        cases e : (xs.take k)[j]? with
        | none => rw [e] at hv; cases hv
        | some b =>
          have := (List.getElem?_eq_some_iff.1 e).1
          rw [List.length_take] at this; omega
      rw [List.getElem?_take_of_lt hj] at hv
      exact hv))
    rw [bv_length, List.length_take, Nat.min_eq_left (by omega)] at hl
    rw [Nat.mul_one]
    exact hl
set_option maxRecDepth 100000 in
theorem c_rWrite (h : RamAt N w r mb hb F fl bs) {i o n c : Nat} {q : Option Addr} {xs : List UInt8} (hx : Rd 1 w q n (bv xs)) (hi : i < F) (hf : i ∉ fl) (hn : 1 ≤ n) (ho : o + n ≤ 4096) : Calls Tryd.prog 122 #[rp r, .int .u64 ((fa i + o : Nat) : Int), .slice q n c] w
    (Ret fun v w' => v = .bool true ∧ RamAt N w' r mb hb F fl (ovl bs (i * 4096 + o) xs) ∧ Kp (RS r mb hb) w.heap.size w w') := by
  have lx : xs.length = n := by have := hx.len; rw [bv_length, Nat.mul_one] at this; exact this
  have hF := h.F2
  have hlen := h.len
  have rmb := h.r_mb
  have mhb := h.mb_hb
  refine W122_ok _ _ _ _ _ w _ ((c_reach h hi hf hn ho).mono ?_)
  rintro _ w1 ⟨_, rfl, rfl, b1⟩
  have h1 := h.below b1
  refine ⟨_, _, _, _, rfl, n, bv xs, fun w' => rfl, ?_, bv_one _, .inr ⟨_, rfl, ?_, ?_⟩⟩
  · have := first_rd (P := Tryd.prog) (c := c) (hx.below b1) (Nat.le_refl n)
    rw [List.take_of_length_le (by omega)] at this
    rw [show Nat.min n n = n from Nat.min_self n]
    exact this
  · exact room_blk h1.km (by rw [List.size_toArray, bv_length, bv_length]; omega)
  · obtain ⟨k2, m2, s2⟩ := stoL_blk (i * 4096 + o) (bv xs) 0 w1 _ h1.km
    rw [Nat.add_zero, ovl_cells (by omega)] at k2
    generalize stoL ⟨mb, i * 4096 + o, none⟩ (bv xs) 0 w1 = w2 at k2 m2 s2
    obtain ⟨ks, hk, hm⟩ := h1.kh
    refine ⟨rfl, ⟨h.F1, h.F2, by rw [ovl_len (by omega)]; exact hlen, m2.blk rmb h1.kr, k2, ⟨ks, hk.keep (m2.block hb hk.lt mhb.symm), hm⟩, h.nd, h.low, h.ch.keep fun j hj => win_off (by omega) ?_, h.lo⟩, kp_then (Kp.of_below b1 (Nat.le_refl _)) (kp_of_mod m2 (.inr (.inl rfl)))⟩
    have hij : j ≠ i := fun e => hf (e ▸ hj)
    omega
end
end Go.Proofs.YthkcdkldpbndnaaDoor
