/- The law TreeFinds, walked. No condition. -/
import Derived.Test.YthkcdkldpbndnaaDoorVi
set_option linter.unusedVariables false
namespace Go.Proofs.YthkcdkldpbndnaaDoor
open Go.RowKit Go.Hx Go.WideShapes
section
variable {N t r mb hb F : Nat} {H : List Nat} {Q : List SH} {w : World} {M : List ND} {n : Nat} {V : Array Value}
theorem cnt_none {R : Nat → List Ent} {c : Nat} (h : ∀ d, d < 200 → ∀ e ∈ R d, e.1 ≠ (c : Int)) : cntN R c = 0 := by
  unfold cntN
  rw [sumN_same (g := fun _ => 0) fun k hk => List.countP_eq_zero.2 fun e he hc => h k hk e he (isI_eq.1 hc)]
  exact sumN_all0 fun _ => rfl
set_option maxRecDepth 100000 in
theorem c_way (h : TI N t r mb hb F H Q w M n) (vt : VT M 0) (hV : CenAt w M V) {ino : Nat} (hi : 1 ≤ ino ∧ ino < 200) : Calls Tryd.prog 62 #[rp t, .agg V, .int .i64 (ino : Int)] w (Ret fun v w' => v = .bool true ∧ Below w.heap.size w w') := by
  obtain ⟨rk, hrk⟩ := vt.vp.rank
  refine W62_ok _ _ _ w _ (newW_intro fun a1 w1 k1 l1 b1 => ⟨fun t' W => ∃ ns, t' = (str (pathB ns), ()) ∧ (∀ n ∈ ns, NmOk n) ∧ walkM M 1 ns = ((ino : Int), 0) ∧ Below w.heap.size w W, ?_, ?_⟩)
  · rintro _ _ w2 ⟨ns, rfl, hns, hw, b2⟩
    dsimp only
    rw [str_size]
    refine c_dec (fun _ => ⟨rfl, b2⟩) (fun hlt => ?_)
    have hlt : (pathB ns).length < 128 := by
      have : ¬ (((pathB ns).length : Nat) : Int) ≥ 128 := hlt
      omega
    refine (c_MFind (h.below b2) 1 (pathB ns)).mono ?_
    rintro _ w3 ⟨_, rfl, rfl, b3⟩
    have hfr := vt.find_root hns hlt
    rw [hfr, hw]
    exact ⟨_, _, rfl, c_eq (fun _ => c_eq (fun _ => ⟨rfl, b2.trans (b3.mono b2.size)⟩) (fun hne => absurd rfl hne)) (fun hne => absurd rfl hne)⟩
  refine ⟨fun t' W => ∃ (ns : List (List UInt8)) (c k : Nat) (vis : List Nat), t' = (str (pathB ns), (c : Int), (k : Int), ()) ∧ (∀ n ∈ ns, NmOk n) ∧ (pathB ns).length ≤ 15 * k ∧ walkM M c ns = ((ino : Int), 0) ∧ 1 ≤ c ∧ c < 200 ∧ vis.length = k ∧ (c :: vis).Nodup ∧ (∀ v ∈ vis, v < 200 ∧ (tyM M v = 1 → rk c < rk v)) ∧ (vis ≠ [] → tyM M c = 1) ∧ Blk W a1 V 144 ∧ Below w.heap.size w W,
    fun t' _ => 200 - t'.2.2.1.toNat, ⟨(str [], (ino : Int), ((0 : Nat) : Int), ()), rfl, [], ino, 0, [], rfl, fun n hn => (by cases hn), Nat.zero_le _, rfl, hi.1, hi.2, rfl, by simp, fun v hv => (by cases hv), fun hne => absurd rfl hne, k1, b1⟩, ?_⟩
  rintro _ _ w2 ⟨ns, c, k, vis, rfl, hns, hpl, hw, hc1, hc2, hvl, hvn, hv, hvt, k2, b2⟩
  have hlen := nodup_len 200 (c :: vis) hvn fun v hv' => by
    rcases List.mem_cons.1 hv' with rfl | hv'
    · exact hc2
    · exact (hv v hv').1
  rw [List.length_cons, hvl] at hlen
  refine c_dec (fun hlt => c_ne (fun hne => ?_) (fun he => ⟨_, rfl, ns, rfl, hns, by
    have he : (c : Int) = 1 := he
    have : c = 1 := by omega
    rw [← this]; exact hw, b2⟩)) (fun hge => absurd (Int.ofNat_lt.2 (show k < 200 by omega)) hge)
  have hcne : c ≠ 1 := fun e => hne (by rw [e]; rfl)
  -- who names it
  refine ⟨fun t' W => Below w.heap.size w W ∧ Blk W a1 V 144 ∧ ((t' = (str (pathB ns), (0 : Int), ()) ∧ ∀ d, d < 200 → ∀ e ∈ RM M d, e.1 ≠ (c : Int)) ∨ ∃ (f : Nat) (nm : List UInt8), t' = (str (pathB (nm :: ns)), (f : Int), ()) ∧ ((c : Int), nm) ∈ RM M f), ?_, ?_⟩
  · rintro _ _ w3 ⟨b3, k3, ⟨rfl, hnone⟩ | ⟨f, nm, rfl, hm⟩⟩
    · refine c_eq (fun _ => ⟨⟨by show (0 : Int) ≤ (c : Int); omega, by show (c : Int) < ((200 : Nat) : Int); omega⟩, (nd M c).links, ?_, ?_, b3⟩) (fun hne' => absurd rfl hne')
      · rw [Addr.add_lit, Addr.add_lit, Nat.zero_add, Int.toNat_natCast]
        exact k3.cell (hV.cell vt ⟨hc1, hc2⟩).2.1
      · have hcnt := cnt_none hnone
        have hl0 : (nd M c).links = 0 := by
          by_cases h0 : (nd M c).typ = 0
          · rw [(vt.ok.2 c).zero h0]; rfl
          · by_cases h1 : (nd M c).typ = 1
            · have := vt.vp.one c h1 hcne
              rw [hcnt] at this
              refine Classical.byContradiction fun hn => ?_
              have hn : ¬ lkM M c = 0 := hn
              rw [if_neg hn] at this
              exact absurd this (by decide)
            · have := vt.vp.file c h0 h1
              rw [hcnt] at this
              exact this
        rw [hl0]; rfl
    · have hL := vt.vp.live hm
      have hf := vt.vp.lt hm
      have hnm : NmOk nm := vt.nmok hm
      have hf0 : f ≠ 0 := vt.ne0 (by have : (nd M f).typ = 1 := hL.1; rw [this]; decide)
      refine c_eq (fun h0 => by have : (f : Int) = 0 := h0; omega) (fun _ => ⟨(str (pathB (nm :: ns)), (f : Int), ((k + 1 : Nat) : Int), ()), by (try dsimp only); rw [step1 (n := 201) (by omega) (by decide)]; rfl, ⟨nm :: ns, f, k + 1, c :: vis, rfl, fun m hm' => ?_, ?_, ?_, by omega, hf, by rw [List.length_cons, hvl], ?_, fun v hv' => ?_, fun _ => hL.1, k3, b3⟩, ?_⟩)
      · rcases List.mem_cons.1 hm' with rfl | hm'
        · exact hnm
        · exact hns m hm'
      · rw [pathB_cons, List.length_cons, List.length_append]
        have := hnm.len
        omega
      · rw [vt.walk_e hm ns]
        show walkM M ((c : Int)).toNat ns = _
        rw [Int.toNat_natCast]
        exact hw
      · refine List.nodup_cons.2 ⟨fun hmem => ?_, hvn⟩
        rcases List.mem_cons.1 hmem with e | hmem
        · have := (vt.vp.named hm).2
          rw [show ((((c : Int), nm) : Ent)).1.toNat = c from Int.toNat_natCast c] at this
          have htc : tyM M c = 1 := by rw [← e]; exact hL.1
          exact this htc e.symm
        · have h1 := (hv f hmem).2 hL.1
          have htc := hvt (fun e => by rw [e] at hmem; cases hmem)
          have h2 := hrk f _ hm (by rw [show ((((c : Int), nm) : Ent)).1.toNat = c from Int.toNat_natCast c]; exact htc)
          rw [show ((((c : Int), nm) : Ent)).1.toNat = c from Int.toNat_natCast c] at h2
          omega
      · have hfc : tyM M c = 1 → rk f < rk c := fun htc => by
          have h2 := hrk f _ hm (by rw [show ((((c : Int), nm) : Ent)).1.toNat = c from Int.toNat_natCast c]; exact htc)
          rw [show ((((c : Int), nm) : Ent)).1.toNat = c from Int.toNat_natCast c] at h2
          exact h2
        rcases List.mem_cons.1 hv' with rfl | hv'
        · exact ⟨hc2, hfc⟩
        · refine ⟨(hv v hv').1, fun htv => ?_⟩
          have htc := hvt (fun e => by rw [e] at hv'; cases hv')
          have := (hv v hv').2 htv
          have := hfc htc
          omega
      · show 200 - (((k + 1 : Nat) : Int)).toNat < 200 - ((k : Nat) : Int).toNat
        omega
  refine ⟨fun t' W => ∃ d : Nat, 1 ≤ d ∧ d ≤ 200 ∧ Below w.heap.size w W ∧ Blk W a1 V 144 ∧ ((t' = (str (pathB ns), (0 : Int), (d : Int), ()) ∧ ∀ d', d' < d → ∀ e ∈ RM M d', e.1 ≠ (c : Int)) ∨ ∃ (f : Nat) (nm : List UInt8), t' = (str (pathB (nm :: ns)), (f : Int), (d : Int), ()) ∧ ((c : Int), nm) ∈ RM M f), fun t' _ => 200 - t'.2.2.1.toNat,
    ⟨(str (pathB ns), (0 : Int), ((1 : Nat) : Int), ()), rfl, 1, Nat.le_refl _, by decide, b2, k2, .inl ⟨rfl, fun d' hd' e he => ?_⟩⟩, ?_⟩
  · have : d' = 0 := by omega
    subst this
    rw [vt.R0] at he; cases he
  rintro _ _ w3 ⟨d, hd1, hd2, b3, k3, hcase⟩
  rcases hcase with ⟨rfl, hnone⟩ | ⟨f, nm, rfl, hm⟩
  rotate_left
  · have hf0 : f ≠ 0 := vt.ne0 (by have : (nd M f).typ = 1 := (vt.vp.live hm).1; rw [this]; decide)
    have fin : ∃ t : ByteArray × Int × Unit, ([.string (str (pathB (nm :: ns))), .int .i64 (f : Int)] : List Value) = tv [(7, .str), (10, .int .i64)] t ∧ (fun (t' : ByteArray × Int × Unit) W => Below w.heap.size w W ∧ Blk W a1 V 144 ∧ ((t' = (str (pathB ns), (0 : Int), ()) ∧ ∀ d, d < 200 → ∀ e ∈ RM M d, e.1 ≠ (c : Int)) ∨ ∃ (f : Nat) (nm : List UInt8), t' = (str (pathB (nm :: ns)), (f : Int), ()) ∧ ((c : Int), nm) ∈ RM M f)) t w3 := ⟨_, rfl, b3, k3, .inr ⟨f, nm, rfl, hm⟩⟩
    exact c_dec (fun _ => c_eq (fun h0 => by have : (f : Int) = 0 := h0; omega) (fun _ => fin)) (fun _ => fin)
  refine c_dec (fun hlt => c_eq (fun _ => ?_) (fun hne' => absurd rfl hne')) (fun hge => ⟨_, rfl, b3, k3, .inl ⟨rfl, fun d' hd' => hnone d' (by have : ¬ (d : Int) < 200 := hge; omega)⟩⟩)
  have hdlt : d < 200 := by
    have : (d : Int) < 200 := hlt
    omega
  refine ⟨V, hV.size, row_whole k3, (c_entries9 hV b3 vt ⟨hd1, hdlt⟩).mono ?_⟩
  rintro _ w4 ⟨_, rfl, q, qc, rfl, hqc, hrd, b4⟩
  have b04 := b3.trans (b4.mono b3.size)
  have k4 := below_blk b4 k3.lt k3
  have hRl := vt.RM_len d
  refine ⟨_, _, _, _, _, rfl, fun t' W => ∃ i : Nat, i ≤ (RM M d).length ∧ w4 = W ∧ ((t' = (str (pathB ns), (0 : Int), (i : Int), ()) ∧ ∀ j e, j < i → (RM M d)[j]? = some e → e.1 ≠ (c : Int)) ∨ ∃ nm : List UInt8, t' = (str (pathB (nm :: ns)), (d : Int), (i : Int), ()) ∧ ((c : Int), nm) ∈ RM M d), fun t' _ => (RM M d).length - t'.2.2.1.toNat,
    ⟨(str (pathB ns), (0 : Int), ((0 : Nat) : Int), ()), rfl, 0, Nat.zero_le _, rfl, .inl ⟨rfl, fun j e hj => by omega⟩⟩, ?_⟩
  rintro _ _ _ ⟨i, hil, rfl, hcase⟩
  rcases hcase with ⟨rfl, hno⟩ | ⟨nm, rfl, hm⟩
  · refine c_dec (fun hlt2 => ?_) (fun hge2 => ?_)
    · have hilt : i < (RM M d).length := by
        have : (i : Int) < (((RM M d).length : Nat) : Int) := hlt2
        omega
      obtain ⟨e0, he0⟩ : ∃ e, (RM M d)[i]? = some e := ⟨_, List.getElem?_eq_getElem hilt⟩
      refine ⟨fun t' W => t' = (decide (e0.1 = (c : Int)), ()) ∧ w4 = W, ?_, ?_⟩
      · rintro _ _ _ ⟨rfl, rfl⟩
        refine c_dec (fun hyes => ?_) (fun hnot => ?_)
        · refine rd_ent (hrd.below b04) rfl hilt fun a e he _ hs => ?_
          rw [he0] at he; cases he
          have hem := List.mem_of_getElem? he0
          have hnm := vt.nmok hem
          have hnl := hnm.len
          have ee : e0 = ((c : Int), e0.2) := Prod.ext hyes rfl
          refine ⟨_, hs, by rw [str_size]; show 1 + e0.2.length ≤ _; omega, ?_, (str (pathB (e0.2 :: ns)), (d : Int), ((i + 1 : Nat) : Int), ()), ?_, ⟨i + 1, hilt, rfl, .inr ⟨e0.2, rfl, by rw [← ee]; exact hem⟩⟩, ?_⟩
          · rw [str_lit #[47], str_app, str_size, str_size, List.length_append]
            show 1 + e0.2.length + (pathB ns).length ≤ _
            omega
          · dsimp only
            rw [step1 hilt (by omega), str_lit #[47], str_app, str_app]
            rfl
          · show (RM M d).length - (((i + 1 : Nat) : Int)).toNat < (RM M d).length - ((i : Nat) : Int).toNat
            omega
        · refine ⟨(str (pathB ns), (0 : Int), ((i + 1 : Nat) : Int), ()), by (try dsimp only); rw [step1 hilt (by omega)]; rfl, ⟨i + 1, hilt, rfl, .inl ⟨rfl, fun j e hj he => ?_⟩⟩, ?_⟩
          · rcases Nat.lt_or_ge j i with h' | h'
            · exact hno j e h' he
            · have : j = i := by omega
              subst this
              rw [he0] at he; cases he
              exact hnot
          · show (RM M d).length - (((i + 1 : Nat) : Int)).toNat < (RM M d).length - ((i : Nat) : Int).toNat
            omega
      · refine rd_ent (hrd.below b04) rfl hilt fun a e he h0 _ => ?_
        rw [he0] at he; cases he
        refine ⟨_, h0, c_eq (fun heq => ⟨_, ?_, rfl, rfl⟩) (fun hne2 => ⟨_, ?_, rfl, rfl⟩)⟩
        · have heq : e0.1 = (c : Int) := heq
          rw [decide_eq_true heq]; rfl
        · have hne2 : e0.1 ≠ (c : Int) := hne2
          rw [decide_eq_false hne2]; rfl
    · refine ⟨(str (pathB ns), (0 : Int), ((d + 1 : Nat) : Int), ()), by (try dsimp only); rw [step1 hdlt (by omega)]; rfl, ⟨d + 1, by omega, hdlt, b04, k4, .inl ⟨rfl, fun d' hd' e he => ?_⟩⟩, ?_⟩
      · rcases Nat.lt_or_ge d' d with h' | h'
        · exact hnone d' h' e he
        · have : d' = d := by omega
          subst this
          obtain ⟨j, hj⟩ := List.mem_iff_getElem?.1 he
          have hjl := (List.getElem?_eq_some_iff.1 hj).1
          exact hno j e (by have : ¬ (i : Int) < (((RM M d').length : Nat) : Int) := hge2; omega) hj
      · show 200 - (((d + 1 : Nat) : Int)).toNat < 200 - ((d : Nat) : Int).toNat
        omega
  · refine c_dec (fun hlt2 => ?_) (fun hge2 => ?_)
    · have hilt : i < (RM M d).length := by
        have : (i : Int) < (((RM M d).length : Nat) : Int) := hlt2
        omega
      refine ⟨fun t' W => t' = (false, ()) ∧ w4 = W, ?_, ?_⟩
      · rintro _ _ _ ⟨rfl, rfl⟩
        refine ⟨(str (pathB (nm :: ns)), (d : Int), ((i + 1 : Nat) : Int), ()), by (try dsimp only); rw [step1 hilt (by omega)]; rfl, ⟨i + 1, hilt, rfl, .inr ⟨nm, rfl, hm⟩⟩, ?_⟩
        show (RM M d).length - (((i + 1 : Nat) : Int)).toNat < (RM M d).length - ((i : Nat) : Int).toNat
        omega
      · refine rd_ent (hrd.below b04) rfl hilt fun a e he h0 _ => ⟨_, h0, c_eq (fun _ => ⟨_, ?_, rfl, rfl⟩) (fun _ => ⟨_, rfl, rfl, rfl⟩)⟩
        have : (((d : Nat) : Int) == (0 : Int)) = false := by rw [beq_eq_false_iff_ne]; omega
        show [Value.bool (((d : Nat) : Int) == (0 : Int))] = _
        rw [this]; rfl
    · refine ⟨(str (pathB (nm :: ns)), (d : Int), ((d + 1 : Nat) : Int), ()), by (try dsimp only); rw [step1 hdlt (by omega)]; rfl, ⟨d + 1, by omega, hdlt, b04, k4, .inr ⟨d, nm, rfl, hm⟩⟩, ?_⟩
      show 200 - (((d + 1 : Nat) : Int)).toNat < 200 - ((d : Nat) : Int).toNat
      omega
end
set_option maxRecDepth 100000 in
theorem c_treeFinds {xb : Option Addr} {xl xc : Nat} {ops : List OpD} {x0 x2 : Int} {w : World} (hx : Rd 10 w xb xl ((ops.map opCs).flatten)) (hl : ops.length = xl) (ho : ∀ (i : Nat) (o : OpD), ops[i]? = some o → Rd 1 w o.q o.l (bv o.xs) ∧ o.l ≤ o.c) :
    Calls Tryd.prog 9 #[.int .i64 x0, .slice xb xl xc, .int .i64 x2] w (Ret fun v w' => v = .bool true ∧ Below w.heap.size w w') := by
  have hF := houseF_ok x0
  refine W9_ok _ _ _ _ _ w _ ⟨by decide, ?_⟩
  rw [houseF_eq]
  refine (c_house (F := houseF x0) (by omega) (by omega)).mono ?_
  rintro _ w1 ⟨_, rfl, t, r, mb, hb, Q, rfl, h1, b1⟩
  refine ⟨_, _, rfl, c_b (fun h => by cases h) (fun _ => ⟨fun _ W => ∃ Q M n, TI w.heap.size t r mb hb (houseF x0) [] Q W M n ∧ VT M 0 ∧ Below w.heap.size w W, ?_, ?_⟩)⟩
  · rintro _ _ w2 ⟨Q2, M, n2, h2, vt, b2⟩
    refine (c_MFind h2 1 [47]).mono ?_
    rintro _ w3 ⟨_, rfl, rfl, b3⟩
    have e1 : findM M 1 [47] = (1, 0) := by
      have hr := vt.vp.root
      have hlive : liveM M 1 := ⟨hr.1, by have : 1 ≤ (nd M 1).links := hr.2.1; omega⟩
      have ht : thereM M 1 = true := there_live vt hlive
      unfold findM refM
      rw [ht]
      rfl
    rw [e1]
    have h3 := h2.below b3
    have b03 := b2.trans (b3.mono b2.size)
    refine ⟨_, _, rfl, c_ne (fun hne => absurd rfl hne) (fun _ => c_ne (fun hne => absurd rfl hne) (fun _ => (c_census h3).mono ?_))⟩
    rintro _ w4 ⟨_, rfl, V, rfl, hV, b4⟩
    have b04 := b03.trans (b4.mono b03.size)
    have h4 := h3.below b4
    refine ⟨_, rfl, newW_intro fun a8 w5 k5 l5 b5 => stW_intro k5 (fun w6 k6 m6 s6 => ?_) hV.size cenZ_size (List.all_eq_true.2 hV.one)⟩
    have b46 : Below w4.heap.size w4 w6 := b5.trans (m6.below b5.size l5)
    -- from here on: w4 holds what is seen
    refine ⟨fun t' W => ∃ d : Nat, t' = ((d : Int), ()) ∧ 1 ≤ d ∧ d ≤ 200 ∧ Blk W a8 V 144 ∧ Below w4.heap.size w4 W, fun t' _ => 200 - t'.1.toNat, ⟨(((1 : Nat) : Int), ()), rfl, 1, rfl, Nat.le_refl _, by decide, k6, b46⟩, ?_⟩
    rintro _ _ w7 ⟨d, rfl, hd1, hd2, k7, b7⟩
    refine c_dec (fun hlt => ?_) (fun hge => ?_)
    · have hdlt : d < 200 := by
        have : (d : Int) < 200 := hlt
        omega
      refine ⟨V, hV.size, row_whole k7, (c_entries9 hV b7 vt ⟨hd1, hdlt⟩).mono ?_⟩
      rintro _ w8 ⟨_, rfl, q, qc, rfl, hqc, hrd, b8⟩
      have hRl := vt.RM_len d
      refine ⟨_, _, _, _, _, rfl, c_nb (fun hf => absurd hf (by decide)) (fun _ => ⟨fun t' W => ∃ i : Nat, t' = ((i : Int), ()) ∧ i ≤ (RM M d).length ∧ Blk W a8 V 144 ∧ Below w4.heap.size w4 W, fun t' _ => (RM M d).length - t'.1.toNat, ⟨(((0 : Nat) : Int), ()), rfl, 0, rfl, Nat.zero_le _, below_blk b8 k7.lt k7, b7.trans (b8.mono b7.size)⟩, ?_⟩)⟩
      rintro _ _ w9 ⟨i, rfl, hil, k9, b9⟩
      refine c_dec (fun hlt2 => ?_) (fun _ => ?_)
      · have hilt : i < (RM M d).length := by
          have : (i : Int) < (((RM M d).length : Nat) : Int) := hlt2
          omega
        obtain ⟨e0, he0⟩ : ∃ e, (RM M d)[i]? = some e := ⟨_, List.getElem?_eq_getElem hilt⟩
        have hem := List.mem_of_getElem? he0
        have hnm := vt.nmok hem
        have hnl := hnm.len
        have hE := vt.vp.ent d e0 hem
        obtain ⟨f1, f2, f3, f4⟩ := vt.finds hem
        obtain ⟨a, nm⟩ := e0
        have hnl : nm.length ≤ 14 := hnl
        obtain ⟨a, rfl⟩ : ∃ y : Nat, a = (y : Int) := ⟨a.toNat, by have := hE.1; have : (2 : Int) ≤ a ∧ a < 200 := this; omega⟩
        have ha2 : 2 ≤ a ∧ a < 200 := by have : (2 : Int) ≤ (a : Int) ∧ (a : Int) < 200 := hE.1; omega
        have f4 : (nd M a).typ = 1 → findM M (d : Int) (nm ++ [47, 46, 46]) = ((d : Int), 0) := fun ht => f4 (by
          show (nd M ((a : Int)).toNat).typ = 1
          rw [Int.toNat_natCast]; exact ht)
        have nx : ∀ {W : World} {K : ByteArray → Prop}, Below w4.heap.size w4 W → K (str nm) → nlW q fun ad => (0 ≤ (i : Int) ∧ (i : Int) < (((RM M d).length : Nat) : Int)) ∧ ∃ s : ByteArray, W.cell? ((ad.add ((i : Int).toNat * 2)).add 1) = some (.string s) ∧ K s := fun b hK => rd_ent (hrd.below b) rfl hilt fun ad e he _ hs => by
          rw [he0] at he; cases he
          exact ⟨_, hs, hK⟩
        have fin : ∀ {W : World}, Blk W a8 V 144 → Below w4.heap.size w4 W → ∃ t' : Int × Unit, ([.int .i64 (IntKind.i64.wrap (((i : Nat) : Int) + (1 : Int)))] : List Value) = tv [(17, .int .i64)] t' ∧ (∃ i : Nat, t' = ((i : Int), ()) ∧ i ≤ (RM M d).length ∧ Blk W a8 V 144 ∧ Below w4.heap.size w4 W) ∧ (RM M d).length - t'.1.toNat < (RM M d).length - ((i : Nat) : Int).toNat := fun kk b => by
          refine ⟨(((i + 1 : Nat) : Int), ()), by rw [step1 hilt (by omega)]; rfl, ⟨i + 1, rfl, hilt, kk, b⟩, ?_⟩
          show (RM M d).length - (((i + 1 : Nat) : Int)).toNat < (RM M d).length - ((i : Nat) : Int).toNat
          omega
        refine nx b9 ((c_MFind (h4.below b9) (d : Int) nm).mono ?_)
        rintro _ w10 ⟨_, rfl, rfl, c10⟩
        have b10 := b9.trans (c10.mono b9.size)
        rw [f1]
        refine ⟨_, _, rfl, nx b10 ⟨by rw [str_size]; show 3 + nm.length ≤ _; omega, ?_⟩⟩
        rw [str_lit #[46, 47, 47], str_app]
        refine (c_MFind (h4.below b10) (d : Int) ([46, 47, 47] ++ nm)).mono ?_
        rintro _ w11 ⟨_, rfl, rfl, c11⟩
        have b11 := b10.trans (c11.mono b10.size)
        rw [f2]
        refine ⟨_, _, rfl, c_ne (fun hne => absurd rfl hne) (fun _ => c_ne (fun hne => absurd rfl hne) (fun _ => ?_))⟩
        refine rd_ent (hrd.below b11) rfl hilt fun ad e he h0 _ => ?_
        rw [he0] at he; cases he
        refine ⟨_, h0, c_ne (fun hne => absurd rfl hne) (fun _ => c_ne (fun hne => absurd rfl hne) (fun _ => ⟨fun _ W => Blk W a8 V 144 ∧ Below w4.heap.size w4 W, ?_, ?_⟩))⟩
        · rintro _ _ w12 ⟨k12, b12⟩
          refine ⟨⟨by show (0 : Int) ≤ (a : Int); omega, by show (a : Int) < ((200 : Nat) : Int); omega⟩, (nd M a).typ, ?_, c_eq (fun ht => ?_) (fun _ => fin k12 b12)⟩
          · rw [Addr.add_lit, Addr.add_lit, Nat.zero_add]
            exact k12.cell (hV.cell vt ⟨by omega, ha2.2⟩).1
          · refine nx b12 ⟨by rw [str_size]; show nm.length + 3 ≤ _; omega, ?_⟩
            rw [str_lit #[47, 46, 46], str_app]
            refine (c_MFind (h4.below b12) (d : Int) (nm ++ [47, 46, 46])).mono ?_
            rintro _ w13 ⟨_, rfl, rfl, c13⟩
            rw [f4 ht]
            exact ⟨_, _, rfl, c_ne (fun hne => absurd rfl hne) (fun _ => c_ne (fun hne => absurd rfl hne) (fun _ => fin (below_blk c13 k12.lt k12) (b12.trans (c13.mono b12.size))))⟩
        · have k11 := below_blk c11 (below_blk c10 k9.lt k9).lt (below_blk c10 k9.lt k9)
          refine nx b11 ?_
          rw [str_size]
          refine c_eq (fun h14 => ?_) (fun _ => ⟨(), rfl, k11, b11⟩)
          have h14 : nm.length = 14 := by have : ((nm.length : Nat) : Int) = 14 := h14; omega
          refine nx b11 ⟨by rw [str_size]; show nm.length + 4 ≤ _; omega, ?_⟩
          rw [str_lit #[109, 111, 114, 101], str_app]
          refine (c_MFind (h4.below b11) (d : Int) (nm ++ [109, 111, 114, 101])).mono ?_
          rintro _ w13 ⟨_, rfl, rfl, c13⟩
          rw [f3 h14]
          exact ⟨_, _, rfl, c_ne (fun hne => absurd rfl hne) (fun _ => c_ne (fun hne => absurd rfl hne) (fun _ => ⟨(), rfl, below_blk c13 k11.lt k11, b11.trans (c13.mono b11.size)⟩))⟩
      · refine ⟨(((d + 1 : Nat) : Int), ()), by (try dsimp only); rw [step1 hdlt (by omega)]; rfl, ⟨d + 1, rfl, by omega, hdlt, k9, b9⟩, ?_⟩
        show 200 - (((d + 1 : Nat) : Int)).toNat < 200 - ((d : Nat) : Int).toNat
        omega
    · refine ⟨fun t' W => ∃ i : Nat, t' = ((i : Int), ()) ∧ (1 ≤ i ∧ i < 200) ∧ w7 = W, ?_, ?_⟩
      · rintro _ _ _ ⟨i, rfl, hi, rfl⟩
        refine ⟨V, hV.size, row_whole k7, (c_way (h4.below b7) vt (hV.below b7) hi).mono ?_⟩
        rintro _ w8 ⟨_, rfl, rfl, b8⟩
        exact ⟨_, rfl, rfl, b04.trans ((b7.trans (b8.mono b7.size)).mono b04.size)⟩
      · refine c_dec (fun _ => ⟨_, rfl, 1, rfl, ⟨by decide, by decide⟩, rfl⟩) (fun h1 => c_dec (fun _ => ⟨_, rfl, 1, rfl, ⟨by decide, by decide⟩, rfl⟩) (fun h2 => ⟨(x2, ()), rfl, x2.toNat, ?_, ⟨by omega, by omega⟩, rfl⟩))
        rw [Int.toNat_of_nonneg (by omega)]
  · refine ⟨fun t' W => ∃ (i : Nat) (Q : List SH) (M : List ND) (n : Nat), t' = ((i : Int), ()) ∧ i ≤ 400 ∧ TI w.heap.size t r mb hb (houseF x0) [] Q W M n ∧ VT M 0 ∧ Below w.heap.size w W, fun t' _ => 400 - t'.1.toNat,
      ⟨(((0 : Nat) : Int), ()), rfl, 0, Q, M0, _, rfl, Nat.zero_le _, h1, VT0, b1⟩, ?_⟩
    rintro _ _ w2 ⟨i, Q2, M2, n2, rfl, hi, h2, v2, b2⟩
    have done : ∃ u : Unit, ([] : List Value) = tv [] u ∧ (fun (_ : Unit) (W : World) => ∃ Q M n, TI w.heap.size t r mb hb (houseF x0) [] Q W M n ∧ VT M 0 ∧ Below w.heap.size w W) u w2 := ⟨(), rfl, Q2, M2, n2, h2, v2, b2⟩
    refine c_dec (fun hlt => c_dec (fun hlt4 => ?_) (fun _ => done)) (fun _ => done)
    have hltN : i < xl := by
      have : (i : Int) < ((xl : Nat) : Int) := hlt
      omega
    have hltM : i < 400 := by
      have : (i : Int) < 400 := hlt4
      omega
    refine rd_flat opCs_len (hx.below b2) hl hltN fun a o _ hoo hr => ⟨_, rfl, by rw [Int.toNat_natCast]; exact hr, (c_cheap o w2).mono ?_⟩
    rintro _ w3 ⟨_, rfl, rfl, b3⟩
    have z2 := b2.size
    have b03 := b2.trans (b3.mono z2)
    have h3 := h2.below b3
    refine ⟨_, rfl, c_dec (fun hch => ?_) (fun _ => ?_)⟩
    · refine rd_flat opCs_len (hx.below b03) hl hltN fun a' o' _ hoo' hr' => ⟨_, rfl, by rw [Int.toNat_natCast]; exact hr', ?_⟩
      rw [hoo] at hoo'
      cases hoo'
      refine (c_step h3 b03.size v2 o ((ho i o hoo).1.below b03) hch.1).mono ?_
      rintro _ w4 ⟨_, rfl, rfl, Q4, M4, n4, _, h4, v4, g4⟩
      have b04 := b03.trans (g4.bel h3 b03.size)
      refine ⟨rfl, (((i + 1 : Nat) : Int), ()), by (try dsimp only); rw [step1 hltM (by omega)]; rfl, ⟨i + 1, Q4, M4, n4, rfl, hltM, h4, v4, b04⟩, ?_⟩
      show 400 - (((i + 1 : Nat) : Int)).toNat < 400 - ((i : Nat) : Int).toNat
      omega
    · refine ⟨(((i + 1 : Nat) : Int), ()), by (try dsimp only); rw [step1 hltM (by omega)]; rfl, ⟨i + 1, Q2, M2, n2, rfl, hltM, h3, v2, b03⟩, ?_⟩
      show 400 - (((i + 1 : Nat) : Int)).toNat < 400 - ((i : Nat) : Int).toNat
      omega
end Go.Proofs.YthkcdkldpbndnaaDoor
