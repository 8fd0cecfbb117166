/- AsmLoads: what the functions hand back. No condition. -/
import Derived.Test.YtceciiemnagdoaaDoorLa
import Derived.Test.YtceciiemnagdoaaDoorHv
import Derived.Test.YtceciiemnagdoaaDoorWa
set_option linter.unusedVariables false
namespace Go.Proofs.YtceciiemnagdoaaDoor
open Go.RowKit Go.Hx
/-- It comes back with a value, and Q holds of it and the world. -/
def Ret (Q : Value → World → Prop) (e : Ending) (w' : World) : Prop := ∃ v, e = .returned v ∧ Q v w'
theorem kIs : slT Tryd.prog 23 29 = true := by kernel_rfl
theorem kI : infB Tryd.prog 29 6 48 = true := by kernel_rfl
theorem bI3 (a b c : Int) : bldP Tryd.prog 29 [(0, .int .i64 a), (1, .int .i64 b), (4, .int .i64 c)] (.agg (insV a b 0 c)) := fun w => by kernel_rfl
theorem bI4 (a b r c : Int) : bldP Tryd.prog 29 [(0, .int .i64 a), (1, .int .i64 b), (2, .int .i64 r), (4, .int .i64 c)] (.agg (insV a b r c)) := fun w => by kernel_rfl
theorem ins_one (a b r c : Int) : ∀ u ∈ (Value.agg (insV a b r c)).cells.toList, u.oneCell' = true := by
  intro u hu
  have hu : u ∈ (insV a b r c).toList := hu
  simp [insV] at hu
  rcases hu with rfl | rfl | rfl | rfl | rfl | rfl <;> rfl
theorem step1 {i n : Nat} (h : i < n) (hn : n ≤ 9223372036854775807) : IntKind.i64.wrap ((i : Int) + 1) = ((i + 1 : Nat) : Int) := by rw [wrap_in (by omega) (by omega)]; omega
/-- A literal of one instruction. -/
theorem lit1 {w : World} {N : Nat} {K : Addr → World → Prop} (hN : N ≤ w.heap.size) (a b r c : Int) (hK : ∀ q w', Ow 29 6 w.heap.size w' (some q) 1 1 (insV a b r c).toList → Below w.heap.size w w' → K q w') :
    ∃ g : Array Value, bslP Tryd.prog 23 1 [(0, .agg (insV a b r c))] g 29 ∧ newW g 29 w K :=
  ⟨_, bsl1 kIs kI rfl (by decide), newW_intro fun m w' h1 h2 h3 => hK _ _ ⟨rfl, Nat.le_refl _, by decide, .inr ⟨m, _, rfl, h2, h1, rfl, rfl⟩⟩ h3⟩
theorem ins_conf {x : Value} {l : List Value} {k : Kd} {ks : List Kd} (h : celK k x) (hl : conf ks l) : conf (k :: ks) (x :: l) := ⟨h, hl⟩
def k6 : List Kd := [.int .i64, .int .i64, .int .i64, .int .i64, .int .i64, .int .i64]
theorem conf6 : ∀ (ks : List Kd) (vs : List Value), (∀ k ∈ ks, k = .int .i64) → vs.length = ks.length → (∀ u ∈ vs, ∃ n, u = Value.int .i64 n) → conf ks vs
  | [], [], _, _, _ => trivial
  | k :: ks, v :: vs, hk, hl, hv => by
    refine ⟨?_, conf6 ks vs (fun k h => hk k (List.mem_cons_of_mem _ h)) (by simpa using hl) fun u h => hv u (List.mem_cons_of_mem _ h)⟩
    rw [hk k (List.mem_cons_self ..)]
    exact hv v (List.mem_cons_self ..)
  | [], _ :: _, _, hl, _ => by simp at hl
  | _ :: _, [], _, hl, _ => by simp at hl
theorem c_same {xb yb : Option Addr} {n xc yc : Nat} {vs : List Value} {w : World} (hx : Rd 6 w xb n vs) (hy : Rd 6 w yb n vs) (hm : n ≤ maxLen) (hi : ∀ u ∈ vs, ∃ n, u = Value.int .i64 n) :
    Calls Tryd.prog 5 #[.slice xb n xc, .slice yb n yc] w (Ret fun v w' => v = .bool true ∧ Below w.heap.size w w') := by
  refine W5_ok _ _ _ _ _ _ w _ ?_
  refine c_ne (fun h => absurd rfl h) (fun _ => ?_)
  refine ⟨fun t w' => ∃ i : Nat, t = ((i : Int), ()) ∧ i ≤ n ∧ Below w.heap.size w w', fun t _ => n - t.1.toNat, ⟨(((0 : Nat) : Int), ()), rfl, 0, rfl, Nat.zero_le _, Below.refl _ _⟩, ?_⟩
  rintro _ _ w1 ⟨i, rfl, hle, hb⟩
  refine c_dec (fun hlt => ?_) (fun _ => ⟨rfl, hb⟩)
  have hlt : i < n := by simpa using hlt
  have b1 : Below w.heap.size w w1.drew := hb.trans (below_drew _ _)
  refine (hx.below b1).atK hlt fun a _ ra la => ⟨_, by simpa using la, ra, ?_⟩
  refine (hy.below b1).atK hlt fun b _ rb lb => ⟨_, by simpa using lb, rb, ?_⟩
  have hc : conf k6 ((vs.drop (i * 6)).take 6) := conf6 _ _ (by simp [k6]) (by rw [la]; rfl) fun u hu => hi u (List.mem_of_mem_drop (List.mem_of_mem_take hu))
  refine ⟨true, ?_, ?_⟩
  · have h1 := aggEq_of (P := Tryd.prog) (t := 29) (ks := k6) (D := 3) (by decide) (by kernel_rfl) (by kernel_rfl) hc hc
    rwa [(leq_iff hc hc).2 rfl] at h1
  · refine ⟨(((i + 1 : Nat) : Int), ()), by (try dsimp only); rw [step1 hlt (by unfold maxLen at hm; omega)]; rfl, ⟨i + 1, rfl, hlt, b1⟩, ?_⟩
    show n - (((i + 1 : Nat) : Int)).toNat < n - (i : Int).toNat
    omega
theorem c_lower {v : Int} {w : World} (h : InB 3 v) : Calls Tryd.prog 7 #[.int .i64 v] w (Ret fun r w' => r = .int .i64 (lo v) ∧ w = w') := by
  obtain ⟨h1, h2⟩ := h.big
  refine W7_ok _ w _ ⟨by decide, by decide, ?_⟩
  rw [lo_shift h1 h2]
  exact ⟨rfl, rfl⟩
theorem c_lower' {v : Int} {w : World} (h : InB 3 v) : Calls Tryd.prog 9 #[.int .i64 v] w (Ret fun r w' => r = .int .i64 (lo v) ∧ w = w') := by
  refine W9_ok _ w _ ?_
  unfold W9
  rw [and4095]
  refine c_dec (fun h => ⟨?_, rfl⟩) (fun h => ⟨?_, rfl⟩)
  · rw [wrap_in (by omega) (by omega)]
    congr 1
    unfold lo; omega
  · congr 1
    unfold lo; omega
/-- The table. -/
def tabV : List Int := [0, 1, 56, 2, 57, 49, 28, 3, 61, 58, 42, 50, 38, 29, 17, 4, 62, 47, 59, 36, 45, 43, 51, 22, 53, 39, 33, 30, 24, 18, 12, 5, 63, 55, 48, 27, 60, 41, 37, 16, 46, 35, 44, 21, 52, 32, 23, 11, 54, 26, 40, 15, 34, 20, 31, 10, 25, 14, 19, 9, 13, 8, 7, 6]
def TabAt (w : World) : Prop := ∀ (i : Nat) (n : Int), tabV[i]? = some n → w.cell? ⟨0, i, none⟩ = some (.int .u8 n)
theorem TabAt.size {w : World} (h : TabAt w) : 1 ≤ w.heap.size := by
  have := h 0 0 rfl
  unfold World.cell? at this
  cases e : w.heap[0]? with
  | none => simp only [e] at this; cases this
  | some o => exact (Array.getElem?_eq_some_iff.1 e).1
theorem TabAt.below {w w' : World} {N : Nat} (h : TabAt w) (b : Below N w w') (hN : 1 ≤ N) : TabAt w' := fun i n hi => by
  have := h i n hi
  unfold World.cell? at *
  rw [b.block 0 (by omega)]
  exact this
theorem tab_ok : ∀ n < 64, tabV[2 ^ n * 285870213051353865 % 18446744073709551616 / 288230376151711744]? = some ((n : Nat) : Int) := by decide +kernel
theorem c_tz {x : Int} {n M : Nat} {w : World} (ht : TabAt w) (h1 : 0 ≤ x) (h2 : x < 18446744073709551616) (hx : x.toNat = 2 ^ n * M) (hM : M % 2 = 1) (hn : n < 64) :
    Calls Tryd.prog 8 #[.int .u64 x] w (Ret fun r w' => r = .int .i64 ((n : Nat) : Int) ∧ w = w') := by
  refine W8_ok _ w _ ?_
  have x0 : x ≠ 0 := by
    rintro rfl
    have hp := Nat.two_pow_pos n
    have : 0 < 2 ^ n * M := Nat.mul_pos hp (by omega)
    simp at hx
    omega
  refine c_eq (fun h => absurd h x0) (fun _ => ?_)
  rw [neg_and h1 h2 hx hM hn]
  have hlt : 2 ^ n < 18446744073709551616 := Nat.pow_lt_pow_right (n := 64) (by omega) hn
  have e58 : (2 : Int) ^ min (58 : Int).toNat IntKind.u64.bits = 288230376151711744 := by decide
  have gen : ∀ p : Nat, p < 18446744073709551616 → (IntKind.u64.wrap ((IntKind.u64.wrap ((p : Nat) : Int)) * (285870213051353865 : Int))).fdiv (2 ^ min (58 : Int).toNat IntKind.u64.bits) = ((p * 285870213051353865 % 18446744073709551616 / 288230376151711744 : Nat) : Int) := fun p hp => by
    rw [e58, Int.fdiv_eq_ediv_of_nonneg _ (by omega), wrap_u64, wrap_u64, show ((p : Nat) : Int) % 18446744073709551616 = ((p : Nat) : Int) by omega]
    omega
  have hidx := gen (2 ^ n) hlt
  rw [hidx]
  refine ⟨by decide, ⟨by omega, by omega⟩, ((n : Nat) : Int), ?_, ?_⟩
  · rw [Addr.add_lit, Int.toNat_natCast, Nat.zero_add, Nat.mul_one]
    exact ht _ _ (tab_ok n hn)
  · exact ⟨by rw [wrap_in (by omega) (by omega)], rfl⟩
end Go.Proofs.YtceciiemnagdoaaDoor
