/- The memory of frames: New. No condition. -/
import Derived.Test.YthkcdkldpbndnaaDoorKd
set_option linter.unusedVariables false
namespace Go.Proofs.YthkcdkldpbndnaaDoor
open Go.RowKit Go.Hx
theorem bRamL (q : Option Addr) (n c : Nat) (m : Option Nat) : bldP Tryd.prog 137 [(0, .slice q n c), (1, .map m)] (.agg #[.slice q n c, .map m, .int .u64 0, .int .i64 0]) := fun w => by kernel_rfl
def fas (n : Nat) : List Int := (List.range n).map fun j => ((fa j : Nat) : Int)
theorem mem_fas {n : Nat} {x : Int} : x ∈ fas n ↔ ∃ i, i < n ∧ x = ((fa i : Nat) : Int) := by
  unfold fas
  rw [List.mem_map]
  constructor
  · rintro ⟨i, hi, rfl⟩
    exact ⟨i, List.mem_range.1 hi, rfl⟩
  · rintro ⟨i, hi, rfl⟩
    exact ⟨i, List.mem_range.2 hi, rfl⟩
theorem fa_wrap {i : Nat} (h : i < 4096) : IntKind.u64.wrap ((2147483648 : Int) + (IntKind.u64.wrap ((IntKind.u64.wrap ((i : Nat) : Int)) * (4096 : Int)))) = ((fa i : Nat) : Int) := by
  rw [wu64 i (by omega), wuI (n := ((i : Nat) : Int) * 4096) (by omega) (by omega), wuI (by omega) (by omega)]
  unfold fa; omega
set_option maxRecDepth 100000 in
theorem c_bare {w : World} {F : Nat} (h1 : 1 ≤ F) (h2 : F ≤ 4096) : Calls Tryd.prog 96 #[.int .i64 ((F : Nat) : Int)] w (Ret fun v w' => ∃ r mb hb, v = rp r ∧ RamAt w.heap.size w' r mb hb F [] (List.replicate (F * 4096) 0) ∧ Below w.heap.size w w') := by
  have e1 : IntKind.i64.wrap (((F : Nat) : Int) * 4096) = ((F * 4096 : Nat) : Int) := by rw [wrap_in (by omega) (by omega)]; omega
  refine W96_ok _ w _ ?_
  unfold W96
  rw [e1, Int.toNat_natCast, Nat.mul_one, zarr]
  refine ⟨⟨by omega, by omega, by omega, by omega⟩, newW_intro fun mb w1 k1 l1 b1 => mp_new (.agg #[]) .u64 fun hb w2 hk2 l2 b2 => ⟨_, bRamL _ _ _ _, newW_intro fun r w3 k3 l3 b3 => ?_⟩⟩
  have z1 := b1.size
  have z2 := b2.size
  have z3 := b3.size
  have hbl := hk2.lt
  have mbl := k1.lt
  have km3 : Blk w3 mb (bv (List.replicate (F * 4096) 0)).toArray 5 := by
    rw [bv_rep]
    exact below_blk b3 (by omega) (below_blk b2 mbl k1)
  have hk3 : MpAt .u64 (.agg #[]) w3 hb [] := hk2.keep (b3.block _ hbl)
  have b03 : Below w.heap.size w w3 := (b1.trans (b2.mono z1)).trans (b3.mono (by omega))
  refine ⟨fun t w' => ∃ i : Nat, t = ((i : Int), ()) ∧ i ≤ F ∧ MpAt .u64 (.agg #[]) w' hb (fas i) ∧ Mod hb w3 w', fun t _ => F - t.1.toNat, ⟨(((0 : Nat) : Int), ()), rfl, 0, rfl, Nat.zero_le _, hk3, Mod.refl _ _⟩, ?_⟩
  rintro _ _ w4 ⟨i, rfl, hi, hk4, m4⟩
  have k4 := m4.blk (mp_ne hk3 k3) k3
  have km4 := m4.blk (mp_ne hk3 km3) km3
  refine c_dec (fun hlt => ?_) (fun hge => ?_)
  · have hlt : i < F := by
      have : (i : Int) < ((F : Nat) : Int) := hlt
      omega
    refine ⟨.map (some hb), k4.at rfl, #[], bU, ?_⟩
    dsimp only
    rw [fa_wrap (by omega)]
    refine mp_put hk4 mapT keyT _ fun w5 hk5 m5 s5 => ?_
    have hni : ((fa i : Nat) : Int) ∉ fas i := fun hc => by
      obtain ⟨j, hj, e⟩ := mem_fas.1 hc
      have : i = j := fa_inj (by omega)
      omega
    rw [if_neg hni] at hk5
    refine ⟨(((i + 1 : Nat) : Int), ()), by rw [step1 hlt (by omega)]; rfl, ⟨i + 1, rfl, hlt, ?_, m4.trans m5⟩, ?_⟩
    · have e : fas (i + 1) = fas i ++ [((fa i : Nat) : Int)] := by
        unfold fas
        rw [List.range_succ, List.map_append]; rfl
      rw [e]
      exact hk5
    · show F - (((i + 1 : Nat) : Int)).toNat < F - (i : Int).toNat
      omega
  · have hiF : i = F := by
      have : ¬ (i : Int) < ((F : Nat) : Int) := hge
      omega
    subst hiF
    refine ⟨r, mb, hb, rfl, ⟨h1, h2, List.length_replicate .., k4, km4, ⟨_, hk4, fun x => ?_⟩, List.nodup_nil, fun j hj => (by cases hj), trivial, by omega, by omega, by omega⟩, b03.trans (m4.below (by omega) (by omega))⟩
    rw [mem_fas]
    exact ⟨fun ⟨j, hj, e⟩ => ⟨j, hj, by simp, e⟩, fun ⟨j, hj, _, e⟩ => ⟨j, hj, e⟩⟩
set_option maxRecDepth 100000 in
theorem c_ramNew {w : World} {F : Nat} (h1 : 1 ≤ F) (h2 : F ≤ 4096) : Calls Tryd.prog 44 #[.int .i64 ((F : Nat) : Int)] w
    (Ret fun v w' => ∃ r mb hb fl bs, v = .tuple #[rp r, .nilIface] ∧ RamAt w.heap.size w' r mb hb F fl bs ∧ fl.length + 1 = F ∧ Below w.heap.size w w') := by
  refine W44_ok _ w _ ⟨fun t w' => t = (false, ()) ∧ w = w', ?_, ?_⟩
  · rintro _ _ _ ⟨rfl, rfl⟩
    refine (c_bare h1 h2).mono ?_
    rintro _ w1 ⟨_, rfl, r, mb, hb, rfl, hr, b1⟩
    have z1 := b1.size
    have hl := hr.len
    refine ⟨_, rfl, some ⟨mb, 0, none⟩, F * 4096, F * 4096, hr.kr.cell rfl, ⟨by decide, by show (4 : Int) ≤ ((F * 4096 : Nat) : Int); omega⟩, ?_⟩
    rw [slB0]
    refine (c_put4 (v := 270532723) (by decide) hr.km (by omega)).mono ?_
    rintro _ w2 ⟨_, rfl, rfl, k2, m2, s2⟩
    have hr2 : RamAt w.heap.size w2 r mb hb F [] (ovl (List.replicate (F * 4096) 0) 0 (leN 4 270532723)) := by
      obtain ⟨ks, hk, hm⟩ := hr.kh
      exact ⟨h1, h2, by rw [ovl_len (by rw [leN_len]; omega)]; exact hl, m2.blk hr.r_mb hr.kr, k2, ⟨ks, hk.keep (m2.block hb hk.lt hr.mb_hb.symm), hm⟩, List.nodup_nil, fun j hj => (by cases hj), trivial, hr.lo⟩
    have b2 : Below w.heap.size w w2 := b1.trans (m2.below z1 hr.lo.2.1)
    refine ⟨rfl, fun t w' => ∃ i : Nat, t = ((i : Int), ()) ∧ 1 ≤ i ∧ i ≤ F ∧ (∃ fl bs, RamAt w.heap.size w' r mb hb F fl bs ∧ fl.length + 1 = i ∧ ∀ j ∈ fl, j < i) ∧ Below w.heap.size w w', fun t _ => F - t.1.toNat, ⟨(((1 : Nat) : Int), ()), rfl, 1, rfl, Nat.le_refl _, h1, ⟨[], _, hr2, rfl, fun j hj => (by cases hj)⟩, b2⟩, ?_⟩
    rintro _ _ w3 ⟨i, rfl, hi1, hi, ⟨fl, bs, hr3, hfl, hlow⟩, b3⟩
    refine c_dec (fun hlt => ?_) (fun hge => ?_)
    · have hlt : i < F := by
        have : (i : Int) < ((F : Nat) : Int) := hlt
        omega
      dsimp only
      rw [fa_wrap (by omega)]
      refine (c_thread hr3 hi1 hlt (fun hc => by have := hlow i hc; omega)).mono ?_
      rintro _ w4 ⟨_, rfl, rfl, hr4, kp4⟩
      refine ⟨rfl, (((i + 1 : Nat) : Int), ()), by rw [step1 hlt (by omega)]; rfl, ⟨i + 1, rfl, by omega, hlt, ⟨_, _, hr4, by rw [List.length_cons]; omega, fun j hj => ?_⟩, b3.trans (kp4.below b3.size fun k hk hs => ?_)⟩, ?_⟩
      · rcases List.mem_cons.1 hj with rfl | hj
        · omega
        · have := hlow j hj; omega
      · obtain ⟨a, b, c⟩ := hr3.lo
        rcases hs with rfl | rfl | rfl <;> omega
      · show F - (((i + 1 : Nat) : Int)).toNat < F - (i : Int).toNat
        omega
    · have hiF : i = F := by
        have : ¬ (i : Int) < ((F : Nat) : Int) := hge
        omega
      subst hiF
      exact ⟨r, mb, hb, fl, bs, rfl, hr3, hfl, b3⟩
  · refine c_dec (fun h => absurd h (by omega)) (fun _ => ⟨(false, ()), ?_, rfl, rfl⟩)
    rw [decide_eq_false (by omega)]; rfl
end Go.Proofs.YthkcdkldpbndnaaDoor
