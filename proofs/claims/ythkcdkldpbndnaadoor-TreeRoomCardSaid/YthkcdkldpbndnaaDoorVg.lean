/- Is what is seen one tree: right. No condition. -/
import Derived.Test.YthkcdkldpbndnaaDoorVf
set_option linter.unusedVariables false
namespace Go.Proofs.YthkcdkldpbndnaaDoor
open Go.RowKit Go.Hx
theorem sumN_bound {f : Nat → Nat} {B : Nat} (h : ∀ k, f k ≤ B) : ∀ n, sumN f n ≤ n * B
  | 0 => by unfold sumN; omega
  | n + 1 => by
    unfold sumN
    have := sumN_bound h n
    have := h n
    rw [Nat.succ_mul]; omega
section
variable {M : List ND}
theorem VT.RM_len (h : VT M 0) (d : Nat) : (RM M d).length ≤ 16384 := by
  have hk := h.ok.2 d
  have h11 : (RM M d).length ≤ ((nd M d).dir.drop 2).length := List.length_filter_le _ _
  rw [List.length_drop] at h11
  by_cases ht : (nd M d).typ = 1
  · have h9 := hk.size
    unfold ND.size at h9
    rw [if_pos ht] at h9
    omega
  · rw [hk.dir ht, List.length_nil] at h11
    omega
theorem VT.nmK_le (h : VT M 0) {i : Nat} (hi : i ≤ 200) (k j : Nat) : nmK M i k j ≤ 4000000 := by
  unfold nmK
  have h1 := sumN_bound (f := fun d => (RM M d).countP (isI j)) (B := 16384) (fun d => Nat.le_trans List.countP_le_length (h.RM_len d)) i
  have h2 : ((RM M i).take k).countP (isI j) ≤ ((RM M i).take k).length := List.countP_le_length
  rw [List.length_take] at h2
  have h3 := h.RM_len i
  have h4 : i * 16384 ≤ 200 * 16384 := Nat.mul_le_mul_right _ hi
  omega
variable {i k x : Nat} {nm : List UInt8}
theorem nmF_set (hx : x < 200) (he : (RM M i)[k]? = some ((x : Int), nm)) : (fnC (nmF M i k)).setIfInBounds x (.int .i64 (nmF M i k x + 1)) = fnC (nmF M i (k + 1)) := by
  refine fnC_set hx ?_ fun j hj => ?_
  · unfold nmF
    rw [nmK_step he, if_pos (isI_eq.2 rfl)]
    omega
  · unfold nmF
    rw [nmK_step he, if_neg fun hc => hj (by have := isI_eq.1 hc; have : (x : Int) = (j : Int) := this; omega)]; rfl
theorem isT_eq : isT M ((x : Int), nm) = decide ((nd M x).typ = 1) := by
  unfold isT tyM
  rw [Int.toNat_natCast]
theorem sbF_set (hi : i < 200) (he : (RM M i)[k]? = some ((x : Int), nm)) (ht : (nd M x).typ = 1) : (fnC (sbF M i k)).setIfInBounds i (.int .i64 (sbF M i k i + 1)) = fnC (sbF M i (k + 1)) := by
  have e1 : ∀ k, sbF M i k i = ((((RM M i).take k).countP (isT M) : Nat) : Int) := fun k => by
    unfold sbF
    rw [if_neg (by omega), if_pos rfl]
  refine fnC_set hi ?_ fun j hj => ?_
  · rw [e1, e1, takeL_snoc he, List.countP_append, List.countP_cons, List.countP_nil, if_pos (by rw [isT_eq]; exact decide_eq_true ht)]
    omega
  · unfold sbF
    by_cases h1 : j < i
    · rw [if_pos h1, if_pos h1]
    · rw [if_neg h1, if_neg h1, if_neg hj, if_neg hj]
theorem sbF_same (he : (RM M i)[k]? = some ((x : Int), nm)) (ht : (nd M x).typ ≠ 1) : fnC (sbF M i k) = fnC (sbF M i (k + 1)) := by
  refine fnC_congr fun j _ => ?_
  unfold sbF
  by_cases h1 : j < i
  · rw [if_pos h1, if_pos h1]
  · rw [if_neg h1, if_neg h1]
    by_cases h2 : j = i
    · rw [if_pos h2, if_pos h2, takeL_snoc he, List.countP_append, List.countP_cons, List.countP_nil, if_neg (by rw [isT_eq]; simpa using ht)]
      simp
    · rw [if_neg h2, if_neg h2]
theorem nmK_other {j : Nat} (he : (RM M i)[k]? = some ((x : Int), nm)) (hj : j ≠ x) : nmK M i (k + 1) j = nmK M i k j := by
  rw [nmK_step he, if_neg fun hc => hj (by have := isI_eq.1 hc; have : (x : Int) = (j : Int) := this; omega)]; rfl
theorem ppF_set (h : VT M 0) (hx : x < 200) (he : (RM M i)[k]? = some ((x : Int), nm)) (ht : (nd M x).typ = 1) : (fnC (ppF M i k)).setIfInBounds x (.int .i64 (i : Int)) = fnC (ppF M i (k + 1)) := by
  refine fnC_set hx ?_ fun j hj => ?_
  · have hp := h.vp.par i _ (List.mem_of_getElem? he) (by
      show tyM M ((x : Int)).toNat = 1
      rw [Int.toNat_natCast]
      exact ht)
    have hp : upM M ((x : Int)).toNat = i := hp
    rw [Int.toNat_natCast] at hp
    unfold ppF
    rw [nmK_step he, if_pos (isI_eq.2 rfl), if_pos ⟨ht, by omega⟩, hp]
  · unfold ppF
    rw [nmK_other he hj]
theorem ppF_same (he : (RM M i)[k]? = some ((x : Int), nm)) (ht : (nd M x).typ ≠ 1) : fnC (ppF M i k) = fnC (ppF M i (k + 1)) := by
  refine fnC_congr fun j _ => ?_
  unfold ppF
  by_cases hj : j = x
  · subst hj
    rw [if_neg fun hc => ht hc.1, if_neg fun hc => ht hc.1]
  · rw [nmK_other he hj]
theorem nmF_next : fnC (nmF M i (RM M i).length) = fnC (nmF M (i + 1) 0) := fnC_congr fun j _ => by unfold nmF; rw [nmK_next]
theorem sbF_next : fnC (sbF M i (RM M i).length) = fnC (sbF M (i + 1) 0) := fnC_congr fun j _ => by
  unfold sbF
  rw [List.take_length, List.take_zero]
  by_cases h1 : j < i
  · rw [if_pos h1, if_pos (by omega)]
  · rw [if_neg h1]
    by_cases h2 : j = i
    · rw [if_pos h2, if_pos (by omega), h2]
    · rw [if_neg h2, if_neg (by omega)]
      split <;> rfl
theorem ppF_next : fnC (ppF M i (RM M i).length) = fnC (ppF M (i + 1) 0) := fnC_congr fun j _ => by unfold ppF; rw [nmK_next]
theorem nmF_zero (h : VT M 0) : fnC (fun _ => 0) = fnC (nmF M 1 0) := fnC_congr fun j _ => by unfold nmF; rw [h.nm1]; rfl
theorem sbF_zero (h : VT M 0) : fnC (fun _ => 0) = fnC (sbF M 1 0) := fnC_congr fun j _ => by
  unfold sbF
  by_cases h1 : j < 1
  · have : j = 0 := by omega
    subst this
    rw [if_pos h1, h.R0]; rfl
  · rw [if_neg h1, List.take_zero]
    split <;> rfl
theorem ppF_zero (h : VT M 0) : fnC (fun _ => 0) = fnC (ppF M 1 0) := fnC_congr fun j _ => by
  unfold ppF
  rw [h.nm1, if_neg fun hc => absurd hc.2 (by decide)]
end
section
variable {w : World} {M : List ND} {V : Array Value}
set_option maxRecDepth 100000 in
theorem c_right (h : CenAt w M V) (vt : VT M 0) : Calls Tryd.prog 60 #[.agg V] w (Ret fun v w' => v = .bool true ∧ Below w.heap.size w w') := by
  refine W60_ok _ w _ (newW_intro fun a1 w1 k1 l1 b1 => newW_intro fun a2 w2 k2 l2 b2 => newW_intro fun a3 w3 k3 l3 b3 => newW_intro fun a4 w4 k4 l4 b4 => ?_)
  have z1 := b1.size
  have z2 := b2.size
  have z3 := b3.size
  have z4 := b4.size
  have y1 := k1.lt
  have y2 := k2.lt
  have y3 := k3.lt
  have y4 := k4.lt
  have b04 := ((b1.trans (b2.mono z1)).trans (b3.mono (by omega))).trans (b4.mono (by omega))
  have k14 := below_blk b4 (by omega) (below_blk b3 (by omega) (below_blk b2 y1 k1))
  have k24 := below_blk b4 (by omega) (below_blk b3 y2 k2)
  have k34 := below_blk b4 y3 k3
  rw [zc200] at k24 k34 k4
  refine ⟨fun t' W => ∃ i : Nat, t' = ((i : Int), ()) ∧ 1 ≤ i ∧ i ≤ 200 ∧ Blk W a1 V 144 ∧ Blk W a2 (fnC (nmF M i 0)) 210 ∧ Blk W a3 (fnC (sbF M i 0)) 210 ∧ Blk W a4 (fnC (ppF M i 0)) 210 ∧ Below w.heap.size w W, fun t' _ => 200 - t'.1.toNat,
    ⟨(((1 : Nat) : Int), ()), rfl, 1, rfl, Nat.le_refl _, by decide, k14, by rw [← nmF_zero vt]; exact k24, by rw [← sbF_zero vt]; exact k34, by rw [← ppF_zero vt]; exact k4, b04⟩, ?_⟩
  rintro _ _ w5 ⟨i, rfl, hi1, hi2, k15, k25, k35, k45, b5⟩
  refine c_dec (fun hlt => ?_) (fun hge => ?_)
  · have hlt : i < 200 := by
      have : (i : Int) < 200 := hlt
      omega
    have hi : 1 ≤ i ∧ i < 200 := ⟨hi1, hlt⟩
    have hbd : 0 ≤ (i : Int) ∧ (i : Int) < ((200 : Nat) : Int) := ⟨by omega, by omega⟩
    refine ⟨V, h.size, row_whole k15, (c_entries9 h b5 vt hi).mono ?_⟩
    rintro _ w6 ⟨_, rfl, q, c, rfl, hc, hrd, b6⟩
    have hRl := vt.RM_len i
    refine ⟨_, _, _, _, _, rfl, c_nb (fun hf => absurd hf (by decide)) (fun _ => ?_)⟩
    refine ⟨fun t' W => ∃ k : Nat, t' = ((k : Int), ()) ∧ k ≤ (RM M i).length ∧ Blk W a1 V 144 ∧ Blk W a2 (fnC (nmF M i k)) 210 ∧ Blk W a3 (fnC (sbF M i k)) 210 ∧ Blk W a4 (fnC (ppF M i k)) 210 ∧ Below w.heap.size w W, fun t' _ => (RM M i).length - t'.1.toNat,
      ⟨(((0 : Nat) : Int), ()), rfl, 0, rfl, Nat.zero_le _, below_blk b6 k15.lt k15, below_blk b6 k25.lt k25, below_blk b6 k35.lt k35, below_blk b6 k45.lt k45, b5.trans (b6.mono b5.size)⟩, ?_⟩
    rintro _ _ w7 ⟨k, rfl, hk, k17, k27, k37, k47, b7⟩
    refine c_dec (fun hkl => ?_) (fun hkg => ?_)
    · have hkl : k < (RM M i).length := by
        have : (k : Int) < (((RM M i).length : Nat) : Int) := hkl
        omega
      obtain ⟨e, he⟩ : ∃ e, (RM M i)[k]? = some e := ⟨_, List.getElem?_eq_getElem hkl⟩
      have hem := List.mem_of_getElem? he
      have hE := vt.vp.ent i e hem
      have hok : EntOk e := (vt.ok.2 i).ents e (List.mem_of_mem_drop (List.mem_filter.1 hem).1)
      obtain ⟨x, nm⟩ := e
      obtain ⟨x, rfl⟩ : ∃ y : Nat, x = (y : Int) := ⟨x.toNat, by have := hE.1; have : (2 : Int) ≤ x ∧ x < 200 := this; omega⟩
      have hx2 : 2 ≤ x ∧ x < 200 := by have : (2 : Int) ≤ (x : Int) ∧ (x : Int) < 200 := hE.1; omega
      have hxt : (nd M x).typ ≠ 0 := by
        have : tyM M ((x : Int)).toNat ≠ 0 := hE.2.1
        rw [Int.toNat_natCast] at this
        exact this
      have hgd : GoodN nm := hE.2.2
      have hnl : nm.length ≤ 14 := hok.len
      have hbx : 0 ≤ (x : Int) ∧ (x : Int) < ((200 : Nat) : Int) := ⟨by omega, by omega⟩
      have vx := h.cell vt (i := x) ⟨by omega, hx2.2⟩
      have A1 : ∀ {W : World}, Blk W a1 V 144 → W.cell? (((⟨a1, 0, none⟩ : Addr).add (x * 8)).add 1) = some (.int .i64 (nd M x).typ) := fun kk => by
        rw [Addr.add_lit, Addr.add_lit, Nat.zero_add]
        exact kk.cell vx.1
      have hr7 := hrd.below b7
      refine rd_ent hr7 rfl hkl fun a e' he' h0 _ => ?_
      rw [he] at he'; cases he'
      refine ⟨_, h0, c_dec (fun hh => by omega) (fun _ => c_dec (fun hh => by omega) (fun _ => ⟨hbx, _, A1 k17, c_eq (fun hh => absurd hh hxt) (fun _ => ?_)⟩))⟩
      refine rd_ent hr7 rfl hkl fun a e' he' _ hs => ?_
      rw [he] at he'; cases he'
      refine ⟨_, hs, ?_⟩
      rw [str_lit #[], strEq_str]
      refine c_dec (fun hh => absurd hh hgd.1) (fun _ => ?_)
      refine rd_ent hr7 rfl hkl fun a e' he' _ hs => ?_
      rw [he] at he'; cases he'
      refine ⟨_, hs, ?_⟩
      rw [str_lit #[46], strEq_str]
      refine c_dec (fun hh => absurd hh hgd.2.1) (fun _ => ?_)
      refine rd_ent hr7 rfl hkl fun a e' he' _ hs => ?_
      rw [he] at he'; cases he'
      refine ⟨_, hs, ?_⟩
      rw [str_lit #[46, 46], strEq_str]
      refine c_dec (fun hh => absurd hh hgd.2.2.1) (fun _ => ?_)
      refine rd_ent hr7 rfl hkl fun a e' he' _ hs => ?_
      rw [he] at he'; cases he'
      refine ⟨_, hs, ?_⟩
      rw [str_size]
      refine c_dec (fun hh => absurd hh (by show ¬ ((nm.length : Nat) : Int) > 14; omega)) (fun _ => ?_)
      refine (c_twice hr7 rfl (by omega) hkl (vt.vp.uniq i)).mono ?_
      rintro _ w8 ⟨_, rfl, rfl, b8⟩
      have z7 := b7.size
      have k18 := below_blk b8 k17.lt k17
      have k28 := below_blk b8 k27.lt k27
      have k38 := below_blk b8 k37.lt k37
      have k48 := below_blk b8 k47.lt k47
      have b08 := b7.trans (b8.mono z7)
      have hnle := vt.nmK_le (i := i) (by omega) k x
      have hn1 : nmF M i k x = ((nmK M i k x : Nat) : Int) := rfl
      refine ⟨_, rfl, c_b (fun hf => absurd hf (by decide)) (fun _ => ⟨hbx, nmF M i k x, ?_, hbx, ?_⟩)⟩
      · rw [Addr.add_lit, Nat.zero_add, Int.toNat_natCast, Nat.mul_one]
        exact k28.cell (fnC_get _ hx2.2)
      rw [Addr.add_lit, Nat.zero_add, Int.toNat_natCast, Nat.mul_one, wrap_in (by omega) (by omega)]
      refine stC_intro k28 (by rw [fnC_size]; exact hx2.2) fun w9 k9 m9 s9 => ?_
      rw [nmF_set hx2.2 he] at k9
      have k19 := m9.blk (show a1 ≠ a2 by omega) k18
      have k39 := m9.blk (show a3 ≠ a2 by omega) k38
      have k49 := m9.blk (show a4 ≠ a2 by omega) k48
      have b09 := b08.trans (m9.below b08.size (by omega))
      refine ⟨hbx, _, A1 k19, c_eq (fun ht => ⟨hbd, sbF M i k i, ?_, hbd, ?_⟩) (fun ht => ?_)⟩
      · rw [Addr.add_lit, Nat.zero_add, Int.toNat_natCast, Nat.mul_one]
        exact k39.cell (fnC_get _ hlt)
      · have hsb : sbF M i k i = ((((RM M i).take k).countP (isT M) : Nat) : Int) := by
          unfold sbF
          rw [if_neg (by omega), if_pos rfl]
        have hsl : ((RM M i).take k).countP (isT M) ≤ ((RM M i).take k).length := List.countP_le_length
        rw [List.length_take] at hsl
        rw [Addr.add_lit, Nat.zero_add, Int.toNat_natCast, Nat.mul_one, wrap_in (by omega) (by omega)]
        refine stC_intro k39 (by rw [fnC_size]; exact hlt) fun w10 k10 m10 s10 => ⟨hbx, ?_⟩
        rw [sbF_set hlt he ht] at k10
        rw [Addr.add_lit, Nat.zero_add]
        refine stC_intro (m10.blk (show a4 ≠ a3 by omega) k49) (by rw [fnC_size]; exact hx2.2) fun w11 k11 m11 s11 => ?_
        have k11 : Blk w11 a4 ((fnC (ppF M i k)).setIfInBounds x (.int .i64 (i : Int))) 210 := k11
        rw [ppF_set vt hx2.2 he ht] at k11
        refine ⟨(((k + 1 : Nat) : Int), ()), by rw [step1 hkl (by omega)]; rfl, ⟨k + 1, rfl, hkl, m11.blk (show a1 ≠ a4 by omega) (m10.blk (show a1 ≠ a3 by omega) k19), m11.blk (show a2 ≠ a4 by omega) (m10.blk (show a2 ≠ a3 by omega) k9), m11.blk (show a3 ≠ a4 by omega) k10, k11, (b09.trans (m10.below b09.size (by omega))).trans (m11.below (by have := b09.size; omega) (by omega))⟩, ?_⟩
        show (RM M i).length - (((k + 1 : Nat) : Int)).toNat < (RM M i).length - ((k : Nat) : Int).toNat
        omega
      · refine ⟨(((k + 1 : Nat) : Int), ()), by rw [step1 hkl (by omega)]; rfl, ⟨k + 1, rfl, hkl, k19, k9, by rw [← sbF_same he ht]; exact k39, by rw [← ppF_same he ht]; exact k49, b09⟩, ?_⟩
        show (RM M i).length - (((k + 1 : Nat) : Int)).toNat < (RM M i).length - ((k : Nat) : Int).toNat
        omega
    · have hkE : k = (RM M i).length := by
        have : ¬ (k : Int) < (((RM M i).length : Nat) : Int) := hkg
        omega
      subst hkE
      rw [nmF_next] at k27
      rw [sbF_next] at k37
      rw [ppF_next] at k47
      have fin : ∃ t' : Int × Unit, ([.int .i64 (IntKind.i64.wrap (((i : Nat) : Int) + (1 : Int)))] : List Value) = tv [(6, .int .i64)] t' ∧ (∃ i : Nat, t' = ((i : Int), ()) ∧ 1 ≤ i ∧ i ≤ 200 ∧ Blk w7 a1 V 144 ∧ Blk w7 a2 (fnC (nmF M i 0)) 210 ∧ Blk w7 a3 (fnC (sbF M i 0)) 210 ∧ Blk w7 a4 (fnC (ppF M i 0)) 210 ∧ Below w.heap.size w w7) ∧ 200 - t'.1.toNat < 200 - ((i : Nat) : Int).toNat := by
        refine ⟨(((i + 1 : Nat) : Int), ()), by rw [step1 hlt (by omega)]; rfl, ⟨i + 1, rfl, by omega, hlt, k17, k27, k37, k47, b7⟩, ?_⟩
        show 200 - (((i + 1 : Nat) : Int)).toNat < 200 - ((i : Nat) : Int).toNat
        omega
      have vi := h.cell vt hi
      refine ⟨hbd, (nd M i).typ, ?_, c_eq (fun ht => ⟨hbd, (nd M i).links, ?_, c_dec (fun hl => c_ne (fun hne => c_eq (fun h0 => ?_) (fun _ => fin)) (fun _ => fin)) (fun _ => fin)⟩) (fun _ => fin)⟩
      · rw [Addr.add_lit, Addr.add_lit, Nat.zero_add, Int.toNat_natCast]
        exact k17.cell vi.1
      · rw [Addr.add_lit, Addr.add_lit, Nat.zero_add, Int.toNat_natCast]
        exact k17.cell vi.2.1
      · exfalso
        have hl0 : (nd M i).links ≠ 0 := by omega
        rw [if_pos ⟨ht, hl0⟩] at h0
        have hu := (vt.vp.up_ok (d := i) ht hl0).1
        have hu : 1 ≤ upM M i := hu
        omega
  · have hE : i = 200 := by
      have : ¬ (i : Int) < 200 := hge
      omega
    subst hE
    refine ⟨V, h.size, row_whole k15, _, fnC_size _, row_whole k25, _, fnC_size _, row_whole k35, _, fnC_size _, row_whole k45, (c_counted (h.below b5) vt).mono ?_⟩
    rintro _ w6 ⟨_, rfl, rfl, b6⟩
    exact ⟨_, rfl, rfl, b5.trans (b6.mono b5.size)⟩
end
end Go.Proofs.YthkcdkldpbndnaaDoor
