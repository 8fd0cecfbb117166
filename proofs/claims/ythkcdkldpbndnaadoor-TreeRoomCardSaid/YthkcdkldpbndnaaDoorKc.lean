/- The memory of frames: thread, Alloc, Free, New. No condition. -/
import Derived.Test.YthkcdkldpbndnaaDoorKb
set_option linter.unusedVariables false
namespace Go.Proofs.YthkcdkldpbndnaaDoor
open Go.RowKit Go.Hx
section
variable {N : Nat} {w : World} {r mb hb F : Nat} {fl : List Nat} {bs : List UInt8}
theorem thrB_len {i : Nat} (h : i * 4096 + 4096 ≤ bs.length) : (thrB bs i fl).length = bs.length := by
  unfold thrB
  rw [ovl_len]
  rw [List.length_append, leN_len, List.length_replicate]; omega
theorem thr_len (fl : List Nat) : (leN 8 (nx fl) ++ List.replicate 4088 (5 : UInt8)).length = 4096 := by rw [List.length_append, leN_len, List.length_replicate]
theorem win_thr {i j n : Nat} (h : i * 4096 + 4096 ≤ bs.length) (hn : n ≤ 4096) (hij : i ≠ j) : win (thrB bs i fl) (j * 4096) n = win bs (j * 4096) n := by
  unfold thrB
  exact win_off (by rw [thr_len]; exact h) (by rw [thr_len]; omega)
set_option maxRecDepth 100000 in
theorem chain_thr {i : Nat} (h : i * 4096 + 4096 ≤ bs.length) (hc : Chain bs fl) (hi : i ∉ fl) (hl : nx fl < 18446744073709551616) : Chain (thrB bs i fl) (i :: fl) := by
  refine ⟨?_, hc.keep fun j hj => win_thr h (by decide) fun e => hi (e ▸ hj)⟩
  have e : win (thrB bs i fl) (i * 4096) 8 = leN 8 (nx fl) := by
    unfold thrB
    rw [win_in (by rw [thr_len]; exact h) (Nat.le_refl _) (by rw [thr_len]; omega), Nat.sub_self]
    unfold win
    rw [List.drop_zero, List.take_append_of_le_length (by rw [leN_len]; omega), List.take_of_length_le (by rw [leN_len]; omega)]
  rw [e, unle_leN 8 _ hl]
theorem RamAt.nxlt (h : RamAt N w r mb hb F fl bs) : nx fl < 18446744073709551616 := nx_lt fun i hi => by have := (h.low i hi).2; have := h.F2; omega
theorem nodup_len : ∀ (F : Nat) (l : List Nat), l.Nodup → (∀ i ∈ l, i < F) → l.length ≤ F
  | 0, l, _, h => by
    cases l with
    | nil => exact Nat.le_refl _
    | cons a r => exact absurd (h a (List.mem_cons_self ..)) (by omega)
  | F + 1, l, hn, h => by
    have h1 := nodup_len F (l.erase F) (hn.erase F) fun i hi => by
      have h2 := (hn.mem_erase_iff).1 hi
      have := h i h2.2
      omega
    rw [List.length_erase] at h1
    split at h1 <;> omega
theorem RamAt.fl_len (h : RamAt N w r mb hb F fl bs) : fl.length ≤ 4096 := by
  have hF := h.F2
  have h1 := nodup_len F fl h.nd fun i hi => (h.low i hi).2
  omega
set_option maxRecDepth 100000 in
theorem c_thread (h : RamAt N w r mb hb F fl bs) {i : Nat} (h1 : 1 ≤ i) (hi : i < F) (hf : i ∉ fl) : Calls Tryd.prog 98 #[rp r, .int .u64 ((fa i : Nat) : Int)] w (Ret fun v w' => v = .tuple #[] ∧ RamAt N w' r mb hb F (i :: fl) (thrB bs i fl) ∧ Kp (RS r mb hb) w.heap.size w w') := by
  have hF := h.F2
  have hlen := h.len
  have hnx := h.nxlt
  have hfl := h.fl_len
  have hil : i * 4096 + 4096 ≤ bs.length := by omega
  obtain ⟨ks, hk, hm⟩ := h.kh
  have hmi := mem_held hm hi
  have rmb := h.r_mb
  have rhb := h.r_hb
  have mhb := h.mb_hb
  refine W98_ok _ _ w _ ⟨_, by rw [Addr.add_lit]; exact h.kr.cell rfl, mp_del hk mapT keyT _ fun w1 hk1 m1 s1 => ?_⟩
  have kr1 := m1.blk rhb h.kr
  have km1 := m1.blk mhb h.km
  -- the memory with the frame taken out of what is held; its bytes may be read all the same
  have hb1 : Calls Tryd.prog 128 #[rp r, .int .u64 ((fa i : Nat) : Int)] w1 (Ret fun v w' => v = .slice (fp mb i) 4096 (F * 4096 - i * 4096) ∧ w1 = w') := by
    refine W128_ok _ _ w1 _ ⟨_, _, _, kr1.cell rfl, ?_⟩
    rw [fa_sub i (by omega), fa_end i (by omega), Int.toNat_natCast, Int.toNat_natCast]
    refine ⟨⟨by omega, by omega⟩, ⟨by omega, by omega⟩, ?_, rfl⟩
    rw [slB_frame (by omega), show i * 4096 + 4096 - i * 4096 = 4096 by omega]
    rfl
  refine hb1.mono ?_
  rintro _ _ ⟨_, rfl, rfl, rfl⟩
  refine ⟨_, _, _, rfl, fun t w' => ∃ k : Nat, t = ((k : Int), ()) ∧ k ≤ 4096 ∧ Blk w' mb (bv (ovl bs (i * 4096) (List.replicate k 5))).toArray 5 ∧ Mod mb w1 w' ∧ w'.heap.size = w1.heap.size, fun t _ => 4096 - t.1.toNat,
    ⟨(((0 : Nat) : Int), ()), rfl, 0, rfl, Nat.zero_le _, by rw [List.replicate_zero, ovl_nil]; exact km1, Mod.refl _ _, rfl⟩, ?_⟩
  rintro _ _ w2 ⟨k, rfl, hkl, k2, m2, s2⟩
  refine c_dec (fun hlt => ?_) (fun hge => ?_)
  · have hlt : k < 4096 := by
      have : (k : Int) < ((4096 : Nat) : Int) := hlt
      omega
    refine ⟨⟨Int.natCast_nonneg k, by show (k : Int) < ((4096 : Nat) : Int); omega⟩, ?_⟩
    dsimp only
    rw [Int.toNat_natCast, Addr.add_lit, Nat.mul_one]
    refine stC_intro k2 (by rw [List.size_toArray, bv_length, ovl_len (by rw [List.length_replicate]; omega)]; omega) fun w3 k3 m3 s3 => ?_
    refine ⟨(((k + 1 : Nat) : Int), ()), by rw [step1 hlt (by omega)]; rfl, ⟨k + 1, rfl, hlt, ?_, m2.trans m3, by omega⟩, ?_⟩
    · have e := bv_set (ovl bs (i * 4096) (List.replicate k 5)) (i * 4096 + k) 5
      have e2 := ovl_snoc (bs := bs) (o := i * 4096) (x := List.replicate k 5) (b := 5) (by rw [List.length_replicate]; omega)
      rw [List.length_replicate] at e2
      rw [List.setIfInBounds_toArray] at k3
      have e3 : (bv (ovl bs (i * 4096) (List.replicate k 5))).set (i * 4096 + k) (.int .u8 (5 : Int)) = bv (ovl bs (i * 4096) (List.replicate (k + 1) 5)) := by
        rw [List.replicate_succ', ← e2, ← e]; rfl
      rw [e3] at k3
      exact k3
    · show 4096 - (((k + 1 : Nat) : Int)).toNat < 4096 - (k : Int).toNat
      omega
  · have hk4 : k = 4096 := by
      have : ¬ (k : Int) < ((4096 : Nat) : Int) := hge
      omega
    subst hk4
    have kr2 := m2.blk rmb kr1
    refine ⟨⟨by decide, by show (8 : Int) ≤ ((F * 4096 - i * 4096 : Nat) : Int); omega⟩, _, by rw [Addr.add_lit]; exact kr2.drew.cell rfl, ?_⟩
    rw [slB0]
    have hp := c_put8 (c := F * 4096 - i * 4096) (v := nx fl) k2.drew (show i * 4096 + 8 ≤ _ by rw [ovl_len (by rw [List.length_replicate]; exact hil)]; omega)
    refine hp.mono ?_
    rintro _ w3 ⟨_, rfl, rfl, k3, m3, s3⟩
    have s3 : w3.heap.size = w2.heap.size := s3
    have kr3 := m3.blk rmb kr2.drew
    have hbs : ovl (ovl bs (i * 4096) (List.replicate 4096 5)) (i * 4096) (leN 8 (nx fl)) = thrB bs i fl := by
      rw [ovl_ovl (by rw [List.length_replicate]; exact hil) (by rw [leN_len, List.length_replicate]; decide), leN_len, List.drop_replicate]
      rfl
    rw [hbs] at k3
    refine ⟨rfl, nl (stC_at kr3 (show 2 < 4 by decide) fun w4 kr4 m4 s4 => ⟨_, kr4.at rfl, nl (stC_at kr4 (show 3 < 4 by decide) fun w5 kr5 m5 s5 => ⟨rfl, ?_, ?_⟩)⟩)⟩
    · have k5 := m5.blk rmb.symm (m4.blk rmb.symm k3)
      have hk5 : MpAt .u64 (.agg #[]) w5 hb (ks.erase ((fa i : Nat) : Int)) := by
        have hl1 := hk1.lt
        refine hk1.keep ?_
        rw [m5.block hb (by omega) rhb.symm, m4.block hb (by omega) rhb.symm, m3.block hb (by show hb < w2.heap.size; omega) mhb.symm]
        exact m2.block hb (by omega) mhb.symm
      refine ⟨h.F1, h.F2, by rw [thrB_len hil]; exact hlen, ?_, k5, ⟨_, hk5, fun x => ?_⟩, List.nodup_cons.2 ⟨hf, h.nd⟩, fun j hj => ?_, chain_thr hil h.ch hf hnx, h.lo⟩
      · have e : IntKind.i64.wrap (((fl.length : Nat) : Int) + 1) = (((i :: fl).length : Nat) : Int) := by rw [List.length_cons, wrap_in (by omega) (by omega)]; omega
        rw [e] at kr5
        exact kr5
      · rw [(hk.nodup).mem_erase_iff, hm]
        constructor
        · rintro ⟨hx, j, hj, hjf, rfl⟩
          exact ⟨j, hj, fun hc => (List.mem_cons.1 hc).elim (fun e => hx (by rw [e])) hjf, rfl⟩
        · rintro ⟨j, hj, hjf, rfl⟩
          exact ⟨fun e => hjf (List.mem_cons.2 (.inl (fa_inj (by omega)))), j, hj, fun hc => hjf (List.mem_cons_of_mem _ hc), rfl⟩
      · rcases List.mem_cons.1 hj with rfl | hj
        · exact ⟨h1, hi⟩
        · exact h.low j hj
    · refine kp_then (kp_of_mod m1 (.inr (.inr rfl))) (kp_then (kp_of_mod m2 (.inr (.inl rfl))) (kp_then kp_drew (kp_then (kp_of_mod m3 (.inr (.inl rfl))) (kp_then (kp_of_mod m4 (.inl rfl)) (kp_of_mod m5 (.inl rfl))))))
/-- Free of a held frame that is not the first. -/
theorem c_rFree (h : RamAt N w r mb hb F fl bs) {i : Nat} (h1 : 1 ≤ i) (hi : i < F) (hf : i ∉ fl) : Calls Tryd.prog 138 #[rp r, .int .u64 ((fa i : Nat) : Int)] w (Ret fun v w' => v = .int .i64 0 ∧ RamAt N w' r mb hb F (i :: fl) (thrB bs i fl) ∧ Kp (RS r mb hb) w.heap.size w w') := by
  refine W138_ok _ _ w _ ((c_rnone h).mono ?_)
  rintro _ _ ⟨_, rfl, rfl, rfl⟩
  refine ⟨_, rfl, fun t w' => t = (false, ()) ∧ w = w', ?_, ?_⟩
  · rintro _ _ _ ⟨rfl, rfl⟩
    refine (c_IsFree h hi).mono ?_
    rintro _ w1 ⟨_, rfl, rfl, b1⟩
    refine ⟨_, rfl, ?_⟩
    rw [decide_eq_false hf]
    refine (c_thread (h.below b1) h1 hi hf).mono ?_
    rintro _ w2 ⟨_, rfl, rfl, h2, kp⟩
    exact ⟨rfl, rfl, h2, kp_then (Kp.of_below b1 (Nat.le_refl _)) kp⟩
  · refine (c_rframe h hi).mono ?_
    rintro _ _ ⟨_, rfl, rfl, rfl⟩
    refine ⟨_, rfl, (false, ()), ?_, rfl, rfl⟩
    have : (((fa i : Nat) : Int) == (2147483648 : Int)) = false := by
      rw [beq_eq_false_iff_ne]
      unfold fa; omega
    rw [this]; rfl
/-- Alloc: the first free frame, all zero. -/
def alB (bs : List UInt8) (i : Nat) : List UInt8 := ovl bs (i * 4096) (List.replicate 4096 0)
theorem bv_rep (n : Nat) (b : UInt8) : bv (List.replicate n b) = List.replicate n (.int .u8 ((b.toNat : Nat) : Int)) := by simp [bv]
theorem c_Alloc0 (h : RamAt N w r mb hb F [] bs) : Calls Tryd.prog 121 #[rp r] w (Ret fun v w' => v = .tuple #[.int .u64 0, .bool false] ∧ w = w') := by
  refine W121_ok _ w _ ⟨fun t w' => t = (true, ()) ∧ w = w', ?_, ?_⟩
  · rintro _ _ _ ⟨rfl, rfl⟩
    exact ⟨rfl, rfl⟩
  · refine (c_rnone h).mono ?_
    rintro _ _ ⟨_, rfl, rfl, rfl⟩
    exact ⟨_, rfl, ⟨_, h.kr.at rfl, (true, ()), rfl, rfl, rfl⟩⟩
set_option maxRecDepth 100000 in
theorem c_Alloc {i : Nat} (h : RamAt N w r mb hb F (i :: fl) bs) : Calls Tryd.prog 121 #[rp r] w (Ret fun v w' => v = .tuple #[.int .u64 ((fa i : Nat) : Int), .bool true] ∧ RamAt N w' r mb hb F fl (alB bs i) ∧ Kp (RS r mb hb) w.heap.size w w') := by
  have hF := h.F2
  have hlen := h.len
  have hfl := h.fl_len
  have hi := (h.low i (List.mem_cons_self ..)).2
  have hnf : i ∉ fl := (List.nodup_cons.1 h.nd).1
  have hil : i * 4096 + 4096 ≤ bs.length := by omega
  have rmb := h.r_mb
  have rhb := h.r_hb
  have mhb := h.mb_hb
  obtain ⟨ks, hk, hm⟩ := h.kh
  refine W121_ok _ w _ ⟨fun t w' => t = (false, ()) ∧ w = w', ?_, ?_⟩
  · rintro _ _ _ ⟨rfl, rfl⟩
    refine ⟨((fa i : Nat) : Int), h.kr.at rfl, (c_rbytes h hi).mono ?_⟩
    rintro _ _ ⟨_, rfl, rfl, rfl⟩
    refine ⟨_, _, _, rfl, ⟨by decide, by show (8 : Int) ≤ ((F * 4096 - i * 4096 : Nat) : Int); omega⟩, ?_⟩
    rw [slB0]
    have hrd : Rd 1 w (fp mb i) 8 (bv (win bs (i * 4096) 8)) := by
      refine ⟨by rw [bv_length, win_len (by omega)], fun e => (by cases e), fun a ha => ?_⟩
      cases ha
      intro j v hv
      rw [List.getElem?_toArray, bv_get, win_get] at hv
      by_cases hj : j < 8
      · rw [if_pos hj] at hv
        rw [Addr.add_lit]
        exact h.km.cell (by rw [List.getElem?_toArray, bv_get]; exact hv)
      · rw [if_neg hj] at hv; cases hv
    refine (c_get8 hrd).mono ?_
    rintro _ _ ⟨_, rfl, rfl, rfl⟩
    rw [h.ch.1]
    refine ⟨_, rfl, nl (stC_at h.kr (show 2 < 4 by decide) fun w1 kr1 m1 s1 => ?_)⟩
    have km1 := m1.blk rmb.symm h.km
    have hk1 : MpAt .u64 (.agg #[]) w1 hb ks := hk.keep (m1.block hb hk.lt rhb.symm)
    refine .inr (.inr ⟨⟨mb, i * 4096, none⟩, rfl, by decide, fun u hu => by simp at hu; subst hu; rfl, ?_, ?_⟩)
    · exact room_blk km1 (show i * 4096 + 4096 ≤ (bv bs).toArray.size by rw [List.size_toArray, bv_length]; exact hil)
    · have ez : (Builtin.zeroCells (#[.int .u8 0] : Array Value) 4096).toList = bv (List.replicate 4096 0) := by
        have e := zarr 4096 (.int .u8 0)
        unfold Builtin.zeroCells
        rw [show 4096 * (#[Value.int .u8 0] : Array Value).size = 4096 from rfl, e, bv_rep]
        rfl
      rw [ez]
      obtain ⟨k2, m2, s2⟩ := stoL_blk (i * 4096) (bv (List.replicate 4096 0)) 0 w1 _ km1
      rw [Nat.add_zero, ovl_cells (by rw [List.length_replicate]; exact hil)] at k2
      generalize stoL ⟨mb, i * 4096, none⟩ (bv (List.replicate 4096 0)) 0 w1 = w2 at k2 m2 s2
      have kr2 := m2.blk rmb kr1
      have hk2 : MpAt .u64 (.agg #[]) w2 hb ks := hk1.keep (m2.block hb hk1.lt mhb.symm)
      refine ⟨.map (some hb), kr2.at rfl, #[], bU, mp_put hk2 mapT keyT _ fun w3 hk3 m3 s3 => ?_⟩
      have kr3 := m3.blk rhb kr2
      have km3 := m3.blk mhb k2
      refine ⟨_, kr3.at rfl, nl (stC_at kr3 (show 3 < 4 by decide) fun w4 kr4 m4 s4 => ⟨rfl, ?_, ?_⟩)⟩
      · have hni : ((fa i : Nat) : Int) ∉ ks := fun hc => (mem_held hm hi).1 hc (List.mem_cons_self ..)
        rw [if_neg hni] at hk3
        have hk4 := hk3.keep (m4.block hb hk3.lt rhb.symm)
        refine ⟨h.F1, h.F2, ?_, ?_, m4.blk rmb.symm km3, ⟨_, hk4, fun x => ?_⟩, (List.nodup_cons.1 h.nd).2, fun j hj => h.low j (List.mem_cons_of_mem _ hj), h.ch.2.keep fun j hj => ?_, h.lo⟩
        · unfold alB
          rw [ovl_len (by rw [List.length_replicate]; exact hil)]; exact hlen
        · have e : IntKind.i64.wrap ((((i :: fl).length : Nat) : Int) - 1) = ((fl.length : Nat) : Int) := by
            rw [List.length_cons] at hfl ⊢
            rw [wrap_in (by omega) (by omega)]; omega
          rw [e] at kr4
          exact kr4
        · rw [List.mem_append, hm, List.mem_singleton]
          constructor
          · rintro (⟨j, hj, hjf, rfl⟩ | rfl)
            · exact ⟨j, hj, fun hc => hjf (List.mem_cons_of_mem _ hc), rfl⟩
            · exact ⟨i, hi, hnf, rfl⟩
          · rintro ⟨j, hj, hjf, rfl⟩
            by_cases hji : j = i
            · subst hji; exact .inr rfl
            · exact .inl ⟨j, hj, fun hc => (List.mem_cons.1 hc).elim hji hjf, rfl⟩
        · unfold alB
          have hji : j ≠ i := fun e => hnf (e ▸ hj)
          exact win_off (by rw [List.length_replicate]; exact hil) (by rw [List.length_replicate]; omega)
      · exact kp_then (kp_of_mod m1 (.inl rfl)) (kp_then (kp_of_mod m2 (.inr (.inl rfl))) (kp_then (kp_of_mod m3 (.inr (.inr rfl))) (kp_of_mod m4 (.inl rfl))))
  · refine (c_rnone h).mono ?_
    rintro _ _ ⟨_, rfl, rfl, rfl⟩
    refine ⟨_, rfl, ⟨((fa i : Nat) : Int), h.kr.at rfl, (false, ()), ?_, rfl, rfl⟩⟩
    have : (((fa i : Nat) : Int) == (0 : Int)) = false := by
      rw [beq_eq_false_iff_ne]
      unfold fa; omega
    rw [this]; rfl
end
end Go.Proofs.YthkcdkldpbndnaaDoor
