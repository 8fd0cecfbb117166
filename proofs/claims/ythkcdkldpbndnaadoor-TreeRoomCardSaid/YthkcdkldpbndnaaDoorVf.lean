/- Is what is seen one tree: rooted, counted, right. No condition. -/
import Derived.Test.YthkcdkldpbndnaaDoorVe
set_option linter.unusedVariables false
namespace Go.Proofs.YthkcdkldpbndnaaDoor
open Go.RowKit Go.Hx
theorem rd_ent {w : World} {q : Option Addr} {n : Nat} {l : List Ent} (h : Rd 2 w q n (dvs l)) (hl : l.length = n) {i : Nat} (hi : i < n) {K : Addr → Prop}
    (hK : ∀ a e, l[i]? = some e → w.cell? (a.add ((i : Int).toNat * 2)) = some (.int .i64 e.1) → w.cell? ((a.add ((i : Int).toNat * 2)).add 1) = some (.string (str e.2)) → K a) : nlW q fun a => (0 ≤ (i : Int) ∧ (i : Int) < ((n : Nat) : Int)) ∧ K a :=
  rd_flat dirC_len h hl hi fun a e _ he hr => hK a e he (by
    have := hr 0 (.int .i64 e.1) rfl
    rw [Addr.add_add] at this
    exact this) (hr 1 (.string (str e.2)) rfl)
/-- 200 numbers. -/
def fnC (f : Nat → Int) : Array Value := ((List.range 200).map fun j => Value.int .i64 (f j)).toArray
theorem fnC_size (f : Nat → Int) : (fnC f).size = 200 := by simp [fnC]
theorem fnC_get (f : Nat → Int) {j : Nat} (hj : j < 200) : (fnC f)[j]? = some (.int .i64 (f j)) := by
  unfold fnC
  rw [List.getElem?_toArray, List.getElem?_map, List.getElem?_range hj]; rfl
theorem fnC_congr {f g : Nat → Int} (h : ∀ j, j < 200 → f j = g j) : fnC f = fnC g := by
  unfold fnC
  congr 1
  refine List.map_congr_left fun j hj => ?_
  rw [h j (List.mem_range.1 hj)]
theorem fnC_set {f f' : Nat → Int} {j : Nat} {v : Int} (hj : j < 200) (h1 : f' j = v) (h2 : ∀ k, k ≠ j → f' k = f k) : (fnC f).setIfInBounds j (.int .i64 v) = fnC f' := by
  apply Array.ext_getElem?
  intro k
  by_cases hk : k < 200
  · rw [Array.getElem?_setIfInBounds, fnC_get f' hk]
    by_cases e : j = k
    · subst e
      rw [if_pos rfl, if_pos (by rw [fnC_size]; exact hj), h1]
    · rw [if_neg e, fnC_get f hk, h2 k (Ne.symm e)]
  · rw [Array.getElem?_eq_none (by rw [Array.size_setIfInBounds, fnC_size]; omega), Array.getElem?_eq_none (by rw [fnC_size]; omega)]
set_option maxRecDepth 100000 in
theorem zc200 : zc Tryd.prog 210 = fnC fun _ => 0 := by kernel_rfl
/-! ### What is counted -/
section
variable {M : List ND}
def isT (M : List ND) (e : Ent) : Bool := decide (tyM M e.1.toNat = 1)
def nmK (M : List ND) (i k j : Nat) : Nat := sumN (fun d => (RM M d).countP (isI j)) i + ((RM M i).take k).countP (isI j)
def nmF (M : List ND) (i k j : Nat) : Int := ((nmK M i k j : Nat) : Int)
def sbF (M : List ND) (i k d : Nat) : Int := if d < i then (((RM M d).countP (isT M) : Nat) : Int) else if d = i then ((((RM M i).take k).countP (isT M) : Nat) : Int) else 0
def ppF (M : List ND) (i k j : Nat) : Int := if (nd M j).typ = 1 ∧ 0 < nmK M i k j then ((upM M j : Nat) : Int) else 0
theorem nmK_next (i j : Nat) : nmK M i (RM M i).length j = nmK M (i + 1) 0 j := by
  unfold nmK
  rw [List.take_length, List.take_zero]; rfl
theorem nmK_step {i k j : Nat} {e : Ent} (he : (RM M i)[k]? = some e) : nmK M i (k + 1) j = nmK M i k j + if isI j e = true then 1 else 0 := by
  unfold nmK
  rw [takeL_snoc he, List.countP_append, List.countP_cons, List.countP_nil]
  omega
theorem VT.cnt200 (j : Nat) : nmK M 200 0 j = cntN (RM M) j := by
  unfold nmK cntN
  rw [List.take_zero, List.countP_nil, Nat.add_zero]
theorem VT.R0 (h : VT M 0) : RM M 0 = [] := h.vp.none 0 (.inl (by
  have := h.vp.z
  rw [this]; decide))
theorem VT.nm1 (h : VT M 0) (j : Nat) : nmK M 1 0 j = 0 := by
  unfold nmK
  rw [List.take_zero]
  show sumN (fun d => (RM M d).countP (isI j)) 0 + (RM M 0).countP (isI j) + 0 = 0
  rw [h.R0]; rfl
/-! ### rooted -/
theorem VP.parent {ty lk rf : Nat → Int} {R : Nat → List Ent} {up : Nat → Nat} {x : Nat} (h : VP ty lk rf R up x) {rk : Nat → Nat} (hr : ∀ i e, e ∈ R i → ty e.1.toNat = 1 → rk i < rk e.1.toNat) {d : Nat} (hd : ty d = 1) (hl : lk d ≠ 0) (h1 : d ≠ 1) : rk (up d) < rk d := by
  have hc := h.one d hd h1
  rw [if_neg hl] at hc
  obtain ⟨i, hi, hp⟩ := sumN_pos (f := fun i => (R i).countP (isI d)) (n := 200) (by unfold cntN at hc; omega)
  obtain ⟨e, he, hI⟩ := List.countP_pos_iff.1 hp
  have e1 : e.1.toNat = d := by rw [isI_eq.1 hI, Int.toNat_natCast]
  have h2 := h.par i e he (by rw [e1]; exact hd)
  have h3 := hr i e he (by rw [e1]; exact hd)
  rw [e1] at h2 h3
  rw [h2]
  exact h3
theorem VT.pp_live (h : VT M 0) {d : Nat} (hl : liveM M d) (h1 : d ≠ 1) : ppF M 200 0 d = ((upM M d : Nat) : Int) := by
  have hc := h.vp.one d hl.1 h1
  have e0 : ¬ lkM M d = 0 := hl.2
  rw [if_neg e0] at hc
  unfold ppF
  rw [if_pos ⟨hl.1, by rw [VT.cnt200, hc]; decide⟩]
set_option maxRecDepth 100000 in
theorem c_rooted {w : World} (h : VT M 0) {i : Nat} (hi : i < 200) (hl : liveM M i) : Calls Tryd.prog 139 #[.agg (fnC (ppF M 200 0)), .int .i64 (i : Int)] w (Ret fun v w' => v = .bool true ∧ Below w.heap.size w w') := by
  obtain ⟨rk, hrk⟩ := h.vp.rank
  refine W139_ok _ _ w _ (newW_intro fun a1 w1 k1 l1 b1 => ⟨fun t' W => ∃ (c k : Nat) (vis : List Nat), t' = ((c : Int), (k : Int), ()) ∧ c < 200 ∧ liveM M c ∧ vis.length = k ∧ vis.Nodup ∧ (∀ v ∈ vis, v < 200 ∧ rk c < rk v) ∧ w1 = W, fun t' _ => 200 - t'.2.1.toNat,
    ⟨((i : Int), ((0 : Nat) : Int), ()), rfl, i, 0, [], rfl, hi, hl, rfl, List.nodup_nil, fun v hv => (by cases hv), rfl⟩, ?_⟩)
  rintro _ _ _ ⟨c, k, vis, rfl, hc, hlc, hvl, hvn, hv, rfl⟩
  have hcn : (c :: vis).Nodup := List.nodup_cons.2 ⟨fun hm => by have := (hv c hm).2; omega, hvn⟩
  have hlen := nodup_len 200 (c :: vis) hcn fun v hv' => by
    rcases List.mem_cons.1 hv' with rfl | hv'
    · exact hc
    · exact (hv v hv').1
  rw [List.length_cons, hvl] at hlen
  refine c_dec (fun hlt => c_eq (fun _ => ⟨rfl, b1⟩) (fun hne => ?_)) (fun hge => ?_)
  · have hc1 : c ≠ 1 := fun e => hne (by rw [e]; rfl)
    have hu := h.vp.up_ok (d := c) hlc.1 hlc.2
    have hpar := h.vp.parent hrk (d := c) hlc.1 hlc.2 hc1
    refine ⟨⟨by omega, by show (c : Int) < ((200 : Nat) : Int); omega⟩, ((upM M c : Nat) : Int), ?_, c_dec (fun hlt1 => by omega) (fun _ => c_dec (fun hge2 => by omega) (fun _ => ?_))⟩
    · rw [Addr.add_lit, Nat.zero_add, Int.toNat_natCast, Nat.mul_one, ← h.pp_live hlc hc1]
      exact k1.cell (fnC_get _ hc)
    · refine ⟨(((upM M c : Nat) : Int), ((k + 1 : Nat) : Int), ()), by rw [step1 (n := 201) (by omega) (by decide)]; rfl, ⟨upM M c, k + 1, c :: vis, rfl, hu.2.1, ⟨hu.2.2.1, hu.2.2.2⟩, by rw [List.length_cons, hvl], hcn, fun v hv' => ?_, rfl⟩, ?_⟩
      · rcases List.mem_cons.1 hv' with rfl | hv'
        · exact ⟨hc, hpar⟩
        · exact ⟨(hv v hv').1, Nat.lt_trans hpar (hv v hv').2⟩
      · show 200 - (((k + 1 : Nat) : Int)).toNat < 200 - ((k : Nat) : Int).toNat
        have hlt : (k : Int) < 200 := hlt
        omega
  · have hge : ¬ (k : Int) < 200 := hge
    omega
end
/-! ### counted -/
section
variable {w : World} {M : List ND} {V : Array Value}
theorem blk_count (s : Nat) (hs : s ≤ 262144) : (if (((s : Nat) : Int)).tmod 4096 ≠ 0 then IntKind.i64.wrap (IntKind.i64.wrap ((((s : Nat) : Int)).tdiv 4096) + 1) else IntKind.i64.wrap ((((s : Nat) : Int)).tdiv 4096)) = ((blkN s : Nat) : Int) := by
  have e1 : (((s : Nat) : Int)).tmod 4096 = ((s % 4096 : Nat) : Int) := by rw [Int.tmod_eq_emod_of_nonneg (by omega)]; omega
  have e2 : (((s : Nat) : Int)).tdiv 4096 = ((s / 4096 : Nat) : Int) := by rw [Int.tdiv_eq_ediv_of_nonneg (by omega)]; omega
  have e3 : IntKind.i64.wrap ((s / 4096 : Nat) : Int) = ((s / 4096 : Nat) : Int) := wrap_in (by omega) (by omega)
  rw [e1, e2, e3]
  unfold blkN
  by_cases h : s % 4096 = 0
  · rw [if_neg (by omega)]; omega
  · rw [if_pos (by omega), wrap_in (by omega) (by omega)]; omega
set_option maxRecDepth 100000 in
theorem c_counted (h : CenAt w M V) (vt : VT M 0) : Calls Tryd.prog 115 #[.agg V, .agg (fnC (nmF M 200 0)), .agg (fnC (sbF M 200 0)), .agg (fnC (ppF M 200 0))] w (Ret fun v w' => v = .bool true ∧ Below w.heap.size w w') := by
  refine W115_ok _ _ _ _ w _ (newW_intro fun a1 w1 k1 l1 b1 => newW_intro fun a2 w2 k2 l2 b2 => newW_intro fun a3 w3 k3 l3 b3 => newW_intro fun a4 w4 k4 l4 b4 => ?_)
  have z1 := b1.size
  have z2 := b2.size
  have z3 := b3.size
  have z4 := b4.size
  have y1 := k1.lt
  have y2 := k2.lt
  have y3 := k3.lt
  have b04 := ((b1.trans (b2.mono z1)).trans (b3.mono (by omega))).trans (b4.mono (by omega))
  have k14 := below_blk b4 (by omega) (below_blk b3 (by omega) (below_blk b2 y1 k1))
  have k24 := below_blk b4 (by omega) (below_blk b3 y2 k2)
  have k34 := below_blk b4 y3 k3
  refine ⟨fun t' W => ∃ i : Nat, t' = ((i : Int), ()) ∧ 1 ≤ i ∧ i ≤ 200 ∧ Below w4.heap.size w4 W, fun t' _ => 200 - t'.1.toNat, ⟨(((1 : Nat) : Int), ()), rfl, 1, rfl, Nat.le_refl _, by decide, Below.refl _ _⟩, ?_⟩
  rintro _ _ w5 ⟨i, rfl, hi1, hi2, b5⟩
  have b05 := b04.trans (b5.mono b04.size)
  refine c_dec (fun hlt => ?_) (fun _ => ⟨rfl, b05⟩)
  have hlt : i < 200 := by
    have : (i : Int) < 200 := hlt
    omega
  have hi : 1 ≤ i ∧ i < 200 := ⟨hi1, hlt⟩
  have hbd : 0 ≤ (i : Int) ∧ (i : Int) < ((200 : Nat) : Int) := ⟨by omega, by omega⟩
  have hb1 : 0 ≤ (1 : Int) ∧ (1 : Int) < ((200 : Nat) : Int) := ⟨by omega, by omega⟩
  obtain ⟨lb, lc, hlook⟩ := h.look i hi.1 hi.2
  have k15 := below_blk b5 k14.lt k14
  refine ⟨hbd, lookM M (i : Int) lb lc, lookM_size _ _ _ _, ?_, newW_intro fun a10 w6 k6 l6 b6 => stW_intro k6 (fun w7 k7 m7 s7 => ?_) (lookM_size _ _ _ _) rfl (List.all_eq_true.2 (lookM_one _ _ _ _))⟩
  · rw [Addr.add_lit, Nat.zero_add, Int.toNat_natCast]
    exact row_blk k15 fun j hj => by
      rw [lookM_size] at hj
      exact hlook j hj
  have z5 := b5.size
  have z6 := b6.size
  have b47 : Below w4.heap.size w4 w7 := (b5.trans (b6.mono z5)).trans (m7.below (by omega) (by omega))
  have b07 := b04.trans (b47.mono b04.size)
  have c1 : ∀ {W : World}, Below w7.heap.size w7 W → Blk W a1 V 144 := fun b => below_blk (b47.trans (b.mono b47.size)) k14.lt k14
  have c2 : ∀ {W : World}, Below w7.heap.size w7 W → Blk W a2 (fnC (nmF M 200 0)) 210 := fun b => below_blk (b47.trans (b.mono b47.size)) k24.lt k24
  have c3 : ∀ {W : World}, Below w7.heap.size w7 W → Blk W a3 (fnC (sbF M 200 0)) 210 := fun b => below_blk (b47.trans (b.mono b47.size)) k34.lt k34
  have c4 : ∀ {W : World}, Below w7.heap.size w7 W → Blk W a4 (fnC (ppF M 200 0)) 210 := fun b => below_blk (b47.trans (b.mono b47.size)) k4.lt k4
  have cx : ∀ {W : World}, Below w7.heap.size w7 W → Blk W a10 (lookM M (i : Int) lb lc) 50 := fun b => below_blk b k7.lt k7
  obtain ⟨g1, g4, g5, g6, g7⟩ := lookM_cell vt hi lb lc
  have X : ∀ {W : World} {j : Nat} {v : Value}, Below w7.heap.size w7 W → (lookM M (i : Int) lb lc)[j]? = some v → W.cell? ((⟨a10, 0, none⟩ : Addr).add j) = some v := fun b hv => by
    rw [Addr.add_lit, Nat.zero_add]
    exact (cx b).cell hv
  have A2 : ∀ {W : World} {j : Nat}, Below w7.heap.size w7 W → j < 200 → W.cell? ((⟨a2, 0, none⟩ : Addr).add (j * 1)) = some (.int .i64 (nmF M 200 0 j)) := fun b hj => by
    rw [Addr.add_lit, Nat.zero_add, Nat.mul_one]
    exact (c2 b).cell (fnC_get _ hj)
  have A3 : ∀ {W : World} {j : Nat}, Below w7.heap.size w7 W → j < 200 → W.cell? ((⟨a3, 0, none⟩ : Addr).add (j * 1)) = some (.int .i64 (sbF M 200 0 j)) := fun b hj => by
    rw [Addr.add_lit, Nat.zero_add, Nat.mul_one]
    exact (c3 b).cell (fnC_get _ hj)
  have A4 : ∀ {W : World} {j : Nat}, Below w7.heap.size w7 W → j < 200 → W.cell? ((⟨a4, 0, none⟩ : Addr).add (j * 1)) = some (.int .i64 (ppF M 200 0 j)) := fun b hj => by
    rw [Addr.add_lit, Nat.zero_add, Nat.mul_one]
    exact (c4 b).cell (fnC_get _ hj)
  have enm : ∀ j, nmF M 200 0 j = ((cntN (RM M) j : Nat) : Int) := fun j => by unfold nmF; rw [VT.cnt200]
  have esb : sbF M 200 0 i = (((RM M i).countP (isT M) : Nat) : Int) := by unfold sbF; rw [if_pos hlt]
  have esb1 : sbF M 200 0 1 = (((RM M 1).countP (isT M) : Nat) : Int) := by unfold sbF; rw [if_pos (by decide)]
  have hok := vt.ok.2 i
  -- the next one
  have fin : ∀ {W : World}, Below w7.heap.size w7 W → ∃ t' : Int × Unit, ([.int .i64 (IntKind.i64.wrap (((i : Nat) : Int) + (1 : Int)))] : List Value) = tv [(9, .int .i64)] t' ∧ (∃ i : Nat, t' = ((i : Int), ()) ∧ 1 ≤ i ∧ i ≤ 200 ∧ Below w4.heap.size w4 W) ∧ 200 - t'.1.toNat < 200 - ((i : Nat) : Int).toNat := fun b => by
    refine ⟨(((i + 1 : Nat) : Int), ()), by rw [step1 hlt (by omega)]; rfl, ⟨i + 1, rfl, by omega, hlt, b47.trans (b.mono b47.size)⟩, ?_⟩
    show 200 - (((i + 1 : Nat) : Int)).toNat < 200 - ((i : Nat) : Int).toNat
    omega
  have b77 := Below.refl w7.heap.size w7
  refine ⟨_, X b77 g1, c_eq (fun ht0 => ?_) (fun ht0 => ?_)⟩
  · have hz := hok.zero ht0
    refine ⟨hbd, _, A2 b77 hlt, c_dec (fun hgt => ?_) (fun _ => ⟨_, X b77 g4, c_ne (fun hne => ?_) (fun _ => ⟨_, X b77 g5, c_ne (fun hne => ?_) (fun _ => ⟨_, _, _, X b77 g7, c_ne (fun hne => ?_) (fun _ => fin b77)⟩)⟩)⟩)⟩
    · have hgt : nmF M 200 0 i > 0 := hgt
      rw [enm, vt.vp.cnt_ty0 ht0] at hgt
      exact absurd hgt (by decide)
    · rw [hz] at hne; exact absurd rfl hne
    · rw [hz] at hne; exact absurd rfl hne
    · rw [hz] at hne; exact absurd rfl hne
  · refine ⟨V, h.size, row_whole (c1 b77), (c_entries9 h b07 vt hi).mono ?_⟩
    rintro _ w8 ⟨_, rfl, q, c, rfl, _, _, b8⟩
    refine ⟨_, _, _, _, _, rfl, fun _ W => Below w7.heap.size w7 W, ?_, ?_⟩
    · -- behind the first switch
      rintro _ _ w9 b9
      refine ⟨fun _ W => Below w7.heap.size w7 W, ?_, ?_⟩
      · rintro _ _ w10 b10
        refine ⟨fun _ W => Below w7.heap.size w7 W, ?_, ?_⟩
        · rintro _ _ w11 b11
          refine ⟨_, X b11 g6, by decide, fun t' W => t' = (((blkN (nd M i).size : Nat) : Int), ()) ∧ Below w7.heap.size w7 W, ?_, _, X b11 g6, by decide, ?_⟩
          · rintro _ _ w12 ⟨rfl, b12⟩
            exact ⟨_, _, _, X b12 g7, c_ne (fun hne => absurd rfl hne) (fun _ => fin b12)⟩
          · have hc := blk_count _ hok.size
            refine c_ne (fun hne => ⟨_, ?_, rfl, b11⟩) (fun he => ⟨_, ?_, rfl, b11⟩)
            · rw [if_pos hne] at hc
              rw [hc]; rfl
            · rw [if_neg (by simpa using he)] at hc
              rw [hc]; rfl
        · refine ⟨_, X b10 g1, c_eq (fun ht => ⟨_, X b10 g4, c_dec (fun hgt => ?_) (fun _ => ⟨(), rfl, b10⟩)⟩) (fun _ => ⟨(), rfl, b10⟩)⟩
          refine ⟨fnC (ppF M 200 0), fnC_size _, row_whole (c4 b10), (c_rooted vt hlt ⟨ht, by omega⟩).mono ?_⟩
          rintro _ w11 ⟨_, rfl, rfl, b11⟩
          exact ⟨_, rfl, c_nb (fun hc => absurd hc (by decide)) (fun _ => ⟨(), rfl, b10.trans (b11.mono b10.size)⟩)⟩
      · refine c_ne (fun hne => ⟨_, X b9 g4, c_eq (fun hl0 => ⟨_, X b9 g5, c_dec (fun hr => ?_) (fun _ => ⟨(), rfl, b9⟩)⟩) (fun _ => ⟨(), rfl, b9⟩)⟩) (fun _ => ⟨(), rfl, b9⟩)
        have := vt.vp.held i (fun e => hne (by rw [e]; rfl)) (by omega) ht0 hl0
        have this : 1 ≤ (nd M i).refs := this
        omega
    · -- the first switch
      refine c_eq (fun he => ?_) (fun hne => ?_)
      · have hi1' : i = 1 := by omega
        subst hi1'
        have hr := vt.vp.root
        have hr1 : (nd M 1).typ = 1 := hr.1
        have hr2 : 1 ≤ (nd M 1).links := hr.2.1
        have hd := vt.vp.dirl 1 hr1 (by show (nd M 1).links ≠ 0; omega)
        refine ⟨_, X b8 g1, c_ne (fun h' => absurd hr1 h') (fun _ => ⟨hb1, _, A2 (j := 1) b8 (by decide), c_ne (fun h' => ?_) (fun _ => ⟨_, X b8 g4, hb1, _, A3 (j := 1) b8 (by decide), c_ne (fun h' => ?_) (fun _ => c_ne (fun h' => ?_) (fun _ => ⟨(), rfl, b8⟩))⟩)⟩)⟩
        · have h' : nmF M 200 0 1 ≠ 0 := h'
          rw [enm, vt.vp.cnt_root] at h'
          exact absurd rfl h'
        · refine absurd ?_ h'
          have hcl : (RM M 1).countP (isT M) ≤ 1000000 := by
            have hk := vt.ok.2 1
            have h9 := hk.size
            unfold ND.size at h9
            rw [if_pos hr1] at h9
            have h10 : (RM M 1).countP (isT M) ≤ (RM M 1).length := List.countP_le_length
            have h11 : (RM M 1).length ≤ ((nd M 1).dir.drop 2).length := List.length_filter_le _ _
            rw [List.length_drop] at h11
            omega
          rw [esb1, wrap_in (by omega) (by omega)]
          exact hd
        · rw [if_pos ⟨hr1, by show (nd M 1).links ≠ 0; omega⟩] at h'
          have : upM M 1 = 1 := hr.2.2
          rw [this] at h'
          exact absurd rfl h'
      · have hi1' : i ≠ 1 := fun e => hne (by rw [e]; rfl)
        have b8d : Below w7.heap.size w7 w8.drew := b8.trans ⟨rfl, rfl, rfl, Nat.le_refl _, fun _ _ => rfl⟩
        refine ⟨_, X b8 g1, c_eq (fun ht => ?_) (fun ht => ?_)⟩
        · have hone := vt.vp.one i ht hi1'
          refine ⟨hbd, _, A2 b8d hlt, c_dec (fun h' => ?_) (fun _ => ⟨_, X b8d g4, hbd, _, A2 b8d hlt, c_nb (fun h' => ?_) (fun _ => ⟨_, X b8d g4, c_dec (fun hgt => ?_) (fun _ => ⟨(), rfl, b8d⟩)⟩)⟩)⟩
          · have h' : nmF M 200 0 i > 1 := h'
            rw [enm, hone] at h'
            exfalso
            split at h' <;> omega
          · exfalso
            have h' : (((nd M i).links == (0 : Int)) == (nmF M 200 0 i == (0 : Int))) = false := h'
            rw [enm, hone] at h'
            by_cases hl0 : (nd M i).links = 0
            · have e0 : lkM M i = 0 := hl0
              rw [if_pos e0, hl0] at h'
              exact absurd h' (by decide)
            · have e0 : ¬ lkM M i = 0 := hl0
              rw [if_neg e0] at h'
              have e1 : ((nd M i).links == (0 : Int)) = false := by rw [beq_eq_false_iff_ne]; exact hl0
              rw [e1] at h'
              exact absurd h' (by decide)
          · have hl0 : (nd M i).links ≠ 0 := by omega
            have hd := vt.vp.dirl i ht hl0
            refine ⟨_, X b8d g4, hbd, _, A3 b8d hlt, c_ne (fun h' => ?_) (fun _ => ⟨hbd, _, A4 b8d hlt, c_ne (fun h' => ?_) (fun _ => ⟨(), rfl, b8d⟩)⟩)⟩
            · refine absurd ?_ h'
              have hcl : (RM M i).countP (isT M) ≤ 1000000 := by
                have h9 := hok.size
                unfold ND.size at h9
                rw [if_pos ht] at h9
                have h10 : (RM M i).countP (isT M) ≤ (RM M i).length := List.countP_le_length
                have h11 : (RM M i).length ≤ ((nd M i).dir.drop 2).length := List.length_filter_le _ _
                rw [List.length_drop] at h11
                omega
              show (nd M i).links = IntKind.i64.wrap (1 + sbF M 200 0 i)
              rw [esb, wrap_in (by omega) (by omega)]
              exact hd
            · have h' : (if liveM M i then ((upM M i : Nat) : Int) else 0) ≠ ppF M 200 0 i := h'
              rw [if_pos ⟨ht, hl0⟩, vt.pp_live ⟨ht, hl0⟩ hi1'] at h'
              exact absurd rfl h'
        · refine ⟨_, X b8d g4, hbd, _, A2 b8d hlt, c_ne (fun h' => ?_) (fun _ => ⟨(), rfl, b8d⟩)⟩
          have h' : (nd M i).links ≠ nmF M 200 0 i := h'
          rw [enm] at h'
          exact absurd (vt.vp.file i ht0 ht) h'
end
end Go.Proofs.YthkcdkldpbndnaaDoor
