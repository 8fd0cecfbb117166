/- The law TreeSplits, walked. No condition. -/
import Derived.Test.YthkcdkldpbndnaaDoorSc
import Derived.Test.YthkcdkldpbndnaaDoorFr
set_option linter.unusedVariables false
namespace Go.Proofs.YthkcdkldpbndnaaDoor
open Go.RowKit Go.Hx
theorem dir_one (ino : Int) (name : List UInt8) : (dirC ino name).toList.all one = true := rfl
theorem unp_of {xs : List UInt8} {w w' : World} {v : Value} (h : UnpQ xs w v w') : ∃ (a : Int) (s : List UInt8) (b : Bool), v = .tuple #[.agg (dirC a s), .bool b] ∧ (a = (if xs.length = 16 then inoOf xs else 0) ∧ s = (if xs.length = 16 then ahead (xs.drop 2) 0 else []) ∧ b = decide (xs.length = 16)) ∧ Below w.heap.size w w' := by
  obtain ⟨h1, h2⟩ := h
  by_cases hl : xs.length = 16
  · rw [if_pos hl] at h1
    exact ⟨_, _, _, h1, ⟨by rw [if_pos hl], by rw [if_pos hl], by rw [decide_eq_true hl]⟩, h2⟩
  · rw [if_neg hl] at h1
    exact ⟨_, _, _, h1, ⟨by rw [if_neg hl], by rw [if_neg hl], by rw [decide_eq_false hl]⟩, h2⟩
theorem bsl2 (p q : Value) (n c m d : Nat) (a b : Option Addr) : bslP Tryd.prog 36 2 [(0, .slice a n c), (1, .slice b m d)] #[.slice a n c, .slice b m d] 24 := fun w => by kernel_rfl
theorem c_splits {s name xs : List UInt8} {ino : Int} {xb : Option Addr} {xl xc : Nat} {w : World} (hx : Rd 1 w xb xl (bv xs)) (hxc : xl ≤ xc) (hm : xl ≤ 140737488351232) :
    Calls Tryd.prog 3 #[.string (str s), .agg (dirC ino name), .slice xb xl xc] w (Ret fun v w' => v = .bool true ∧ Below w.heap.size w w') := by
  refine W3_ok _ _ _ _ _ w _ (newW_intro fun a1 w1 k1 l1 b1 => (c_treeSplit s w1).mono ?_)
  have z1 := b1.size
  rintro _ w2 ⟨_, rfl, q2, n2, c2, rfl, o2, b2⟩
  have z2 := b2.size
  have B2 := b1.trans (b2.mono z1)
  refine ⟨_, _, _, _, rfl, (c_refSplit s w2).mono ?_⟩
  rintro _ w3 ⟨_, rfl, q4, n4, c4, rfl, o4, b3⟩
  have z3 := b3.size
  have B3 := B2.trans (b3.mono B2.size)
  refine ⟨_, _, _, _, rfl, (c_Lend (hx.below B3) hm).mono ?_⟩
  rintro _ w4 ⟨_, rfl, q6, c6, rfl, e6, b4⟩
  have z4 := b4.size
  have B4 := B3.trans (b4.mono B3.size)
  have lx : xs.length = xl := by have := hx.len; rw [bv_length, Nat.mul_one] at this; exact this
  have ow6 : ∀ {w' : World}, Lent w3.heap.size w' q6 xl c6 xs → Rd 1 w' q6 xl (bv xs) ∧ xl ≤ c6 := fun h => by
    obtain ⟨b, rfl, hb, hc, hl, hB⟩ := h
    refine ⟨⟨by rw [bv_length, hl, Nat.mul_one], fun h => (by cases h), fun a ha => ?_⟩, by omega⟩
    cases ha
    intro j v hv
    rw [List.getElem?_toArray] at hv
    have hj := (List.getElem?_eq_some_iff.1 hv).1
    rw [Addr.add_lit, Nat.zero_add]
    refine hB.cell ?_
    rw [List.getElem?_toArray, bv_app, List.getElem?_append_left hj]
    exact hv
  refine ⟨_, _, _, rfl, (c_Unpack (ow6 e6).1 (ow6 e6).2).mono ?_⟩
  rintro _ w5 ⟨_, rfl, u5⟩
  obtain ⟨i5, s5, f5, rfl, h5, b5⟩ := unp_of u5
  have z5 := b5.size
  have B5 := B4.trans (b5.mono B4.size)
  refine ⟨_, _, rfl, newW_intro fun a9 w6 k6 l6 b6 => stW_intro k6 fun w7 k7 m7 s7 => ?_⟩
  have z6 := b6.size
  have b7 : Below w5.heap.size w5 w7 := b6.trans (m7.below z6 l6)
  have z7 := b7.size
  have B7 := B5.trans (b7.mono B5.size)
  refine (c_refUnpack (hx.below B7) hxc).mono ?_
  rintro _ w8 ⟨_, rfl, u8⟩
  obtain ⟨i8, s8, f8, rfl, h8, b8⟩ := unp_of u8
  have z8 := b8.size
  have B8 := B7.trans (b8.mono B7.size)
  obtain ⟨rfl, rfl, rfl⟩ := h5
  obtain ⟨rfl, rfl, rfl⟩ := h8
  refine ⟨_, _, rfl, newW_intro fun a12 w9 k9 l9 b9 => stW_intro k9 fun w10 k10 m10 s10 => (c_treeSplit s w10).mono ?_⟩
  have z9 := b9.size
  have b10 : Below w8.heap.size w8 w10 := b9.trans (m10.below z9 l9)
  have z10 := b10.size
  have B10 := B8.trans (b10.mono B8.size)
  rintro _ w11 ⟨_, rfl, q13, n13, c13, rfl, o13, b11⟩
  have z11 := b11.size
  have B11 := B10.trans (b11.mono B10.size)
  refine ⟨_, _, _, _, rfl, c_nb (fun h => by simp at h) (fun _ => c_nb (fun h => by simp at h) (fun _ => ?_))⟩
  have k911 := below_blk b11 (by have := k7.lt; omega) (below_blk b10 (by have := k7.lt; omega) (below_blk b8 k7.lt k7))
  have k1211 := below_blk b11 k10.lt k10
  refine ⟨_, rfl, row_whole k911, _, rfl, row_whole k1211, _, eq_Dir _ _ _ _, ?_⟩
  rw [decide_eq_true ⟨rfl, rfl⟩]
  show Calls _ _ _ _ _
  have b311 : Below w3.heap.size w3 w11 := ((((b4.trans (b5.mono z4)).trans (b7.mono (by omega))).trans (b8.mono (by omega))).trans (b10.mono (by omega))).trans (b11.mono (by omega))
  have b211 : Below w2.heap.size w2 w11 := b3.trans (b311.mono z3)
  have o211 := o2.below b211
  have o411 := o4.below b311
  have e611 : Lent w3.heap.size w11 q6 xl c6 xs := ((((e6.below b5).below b7).below b8).below b10).below b11
  have cap : ∀ {e k N n c : Nat} {w : World} {q : Option Addr} {vs : List Value}, Ow e k N w q n c vs → n ≤ maxLen := fun h => Nat.le_trans h.le h.cap
  refine (c_Texts o211.rd o411.rd (cap o2)).mono ?_
  rintro _ w12 ⟨_, rfl, rfl, b12⟩
  have z12 := b12.size
  have B12 := B11.trans (b12.mono B11.size)
  refine ⟨_, rfl, ?_⟩
  rw [decide_eq_true rfl]
  show Calls _ _ _ _ _
  refine (c_Texts (o13.below b12).rd (o411.below b12).rd (cap o13)).mono ?_
  rintro _ w13 ⟨_, rfl, rfl, b13⟩
  have z13 := b13.size
  have B13 := B12.trans (b13.mono B12.size)
  refine ⟨_, rfl, ?_⟩
  rw [decide_eq_true rfl]
  show Calls _ _ _ _ _
  refine (c_Kept (((e611.below b12).below b13)) (hx.below B13) hm).mono ?_
  rintro _ w14 ⟨_, rfl, rfl, b14⟩
  have z14 := b14.size
  have B14 := B13.trans (b14.mono B13.size)
  refine ⟨_, rfl, ?_⟩
  rw [decide_eq_true rfl]
  show ∃ _, _
  have o214 := ((o211.below b12).below b13).below b14
  have o414 := ((o411.below b12).below b13).below b14
  have o1314 := ((o13.below b12).below b13).below b14
  have b214 : Below w2.heap.size w2 w14 := ((b211.trans (b12.mono b211.size)).trans (b13.mono (by omega))).trans (b14.mono (by omega))
  have k114 : Blk w14 a1 (dirC ino name) 23 := below_blk b214 (by have := k1.lt; omega) (below_blk b2 k1.lt k1)
  have a1lt := k1.lt
  -- the first answer is written over
  refine ⟨fun t w' => ∃ i : Nat, t = ((i : Int), ()) ∧ i ≤ n2 ∧ (∃ ls, Ow 9 1 w1.heap.size w' q2 n2 c2 (sv ls)) ∧ Kp (fun k => ∃ a, q2 = some a ∧ k = a.block) w14.heap.size w14 w', fun t _ => n2 - t.1.toNat, ⟨(((0 : Nat) : Int), ()), rfl, 0, rfl, Nat.zero_le _, ⟨_, o214⟩, Kp.refl _ _ _⟩, ?_⟩
  rintro _ _ w15 ⟨i, rfl, hi, ⟨ls, ol⟩, kp⟩
  have hn2 := cap o2
  refine c_dec (fun hlt => ?_) (fun hge => ?_)
  · have hlt : i < n2 := by simpa using hlt
    refine ol.rd.at1 hlt fun a v ha _ _ => ?_
    dsimp only
    rw [Int.toNat_natCast, str_lit #[47]]
    refine ol.set1 hlt (fun a' w' ha' o' m s => ?_) ha
    rw [sv_set] at o'
    refine ⟨(((i + 1 : Nat) : Int), ()), by rw [step1 hlt (by unfold maxLen at hn2; omega)]; rfl, ⟨i + 1, rfl, hlt, ⟨_, o'⟩, kp.trans (Kp.of_mod m (fun _ => ⟨a', ha', rfl⟩) kp.size)⟩, ?_⟩
    show n2 - (((i + 1 : Nat) : Int)).toNat < n2 - (i : Int).toNat
    omega
  · have z15 := kp.size
    -- what is not of that block stays
    have hq2 : ∀ a, q2 = some a → w1.heap.size ≤ a.block ∧ a.block < w2.heap.size := fun a ha => ⟨(o2.lt ha).2, (o2.lt ha).1⟩
    have b15 : Below w1.heap.size w14 w15 := kp.below (by omega) fun k hk ⟨a, ha, e⟩ => by have := hq2 a ha; omega
    have B15 := B14.trans (b15.mono z1)
    have k115 : Blk w15 a1 (dirC ino name) 23 := below_blk b15 k1.lt k114
    have o415 := o414.keep fun a ha => kp.block _ (o414.lt ha).1 fun ⟨a', ha', e⟩ => by have := hq2 a' ha'; have := (o414.lt ha).2; omega
    have o1315 := o1314.keep fun a ha => kp.block _ (o1314.lt ha).1 fun ⟨a', ha', e⟩ => by have := hq2 a' ha'; have := (o1314.lt ha).2; omega
    refine (c_Texts o1315.rd o415.rd (cap o13)).mono ?_
    rintro _ w16 ⟨_, rfl, rfl, b16⟩
    have z16 := b16.size
    have B16 := B15.trans (b16.mono B15.size)
    refine ⟨_, rfl, ?_⟩
    rw [decide_eq_true rfl]
    show ∃ _, _
    have k116 := below_blk b16 k115.lt k115
    refine ⟨_, rfl, row_whole k116, (c_Pack ino name w16).mono ?_⟩
    rintro _ w17 ⟨_, rfl, qp, cp, rfl, op, b17⟩
    have z17 := b17.size
    have k117 := below_blk b17 k116.lt k116
    refine ⟨_, _, _, rfl, _, rfl, row_whole k117, (c_Pack ino name w17).mono ?_⟩
    rintro _ w18 ⟨_, rfl, qq, cq, rfl, oq, b18⟩
    have z18 := b18.size
    have k118 := below_blk b18 k117.lt k117
    refine ⟨_, _, _, rfl, _, k118.cell rfl, _, by rw [Addr.add_lit]; exact k118.cell rfl, (c_refPack ino name w18).mono ?_⟩
    rintro _ w19 ⟨_, rfl, qw, cw, rfl, ow, b19⟩
    have z19 := b19.size
    have k119 := below_blk b19 k118.lt k118
    have op19 := (op.below b18).below b19
    have oq19 := oq.below b19
    refine ⟨_, _, _, rfl, (c_Bytes op19.rd ow.rd (by unfold maxLen; omega)).mono ?_⟩
    rintro _ w20 ⟨_, rfl, rfl, b20⟩
    have z20 := b20.size
    refine ⟨_, rfl, ?_⟩
    rw [decide_eq_true rfl]
    show Calls _ _ _ _ _
    refine (c_Bytes (oq19.below b20).rd (ow.below b20).rd (by unfold maxLen; omega)).mono ?_
    rintro _ w21 ⟨_, rfl, rfl, b21⟩
    have z21 := b21.size
    refine ⟨_, rfl, ?_⟩
    rw [decide_eq_true rfl]
    show ∃ _, _
    have op21 := (op19.below b20).below b21
    have oq21 := (oq19.below b20).below b21
    have ow21 := (ow.below b20).below b21
    have k121 := below_blk b21 (by have := k119.lt; omega) (below_blk b20 k119.lt k119)
    refine ⟨_, bsl2 (.bool true) (.bool true) _ _ _ _ _ _, newW_intro fun a37 w22 k22 l22 b22 => ?_⟩
    have z22 := b22.size
    have op22 := op21.below b22
    have oq22 := oq21.below b22
    have ow22 := ow21.below b22
    have k122 := below_blk b22 k121.lt k121
    have fr := c_Free (N := w16.heap.size) (L := [(qp, 16, cp), (qq, 16, cq)]) (xb := some ⟨a37, 0, none⟩) (xc := 2) (w := w22) (by omega) (show 2 ≤ 1000000000 by decide)
      ⟨⟨rfl, fun h => (by cases h), fun a ha => by cases ha; exact row_whole k22⟩, fun a ha => by cases ha; exact ⟨Nat.zero_le _, _, k22⟩⟩
      (fun j x hx => by
        match j, hx with
        | 0, hx => cases hx; exact ⟨show 16 ≤ 1000000000000 by decide, _, op22⟩
        | 1, hx => cases hx; exact ⟨show 16 ≤ 1000000000000 by decide, _, oq22.mono z17⟩
        | _ + 2, hx => simp at hx)
      (fun i j x y hij hxi hyj => by
        have far : Far qp qq := fun a b ha hb => by
          have := (op.lt ha).1
          have := (oq.lt hb).2
          omega
        match i, j, hxi, hyj with
        | 0, 0, _, _ => exact absurd rfl hij
        | 1, 1, _, _ => exact absurd rfl hij
        | 0, 1, h1, h2 => cases h1; cases h2; exact far
        | 1, 0, h1, h2 => cases h1; cases h2; exact far.symm
        | _ + 2, _, h1, _ => simp at h1
        | 0, _ + 2, _, h2 => simp at h2
        | 1, _ + 2, _, h2 => simp at h2)
    refine fr.mono ?_
    rintro _ w23 ⟨_, rfl, rfl, kf⟩
    have z23 := kf.size
    have hin : ∀ k, InL [(qp, 16, cp), (qq, 16, cq)] k → w16.heap.size ≤ k ∧ k < w18.heap.size := fun k ⟨j, x, a, hx, ha, e⟩ => by
      match j, hx with
      | 0, hx => cases hx; have := op.lt ha; omega
      | 1, hx => cases hx; have := oq.lt ha; omega
      | _ + 2, hx => simp at hx
    refine ⟨_, rfl, ?_⟩
    show ∃ _, _
    have b23 : Below w16.heap.size w22 w23 := kf.below (by omega) fun k hk h => by have := hin k h; omega
    have k123 := below_blk b23 k116.lt k122
    have ow23 := ow22.keep fun a ha => kf.block _ (ow22.lt ha).1 fun h => by have := hin _ h; have := (ow22.lt ha).2; omega
    have B23 : Below w.heap.size w w23 := (((((((B16.trans (b17.mono B16.size)).trans (b18.mono (by have := B16.size; omega))).trans (b19.mono (by have := B16.size; omega))).trans (b20.mono (by have := B16.size; omega))).trans (b21.mono (by have := B16.size; omega))).trans (b22.mono (by have := B16.size; omega))).trans (b23.mono B16.size))
    refine ⟨_, rfl, row_whole k123, (c_Pack ino name w23).mono ?_⟩
    rintro _ w24 ⟨_, rfl, qr, cr, rfl, or, b24⟩
    have B24 := B23.trans (b24.mono B23.size)
    refine ⟨_, _, _, rfl, (c_Bytes or.rd (ow23.below b24).rd (by unfold maxLen; omega)).mono ?_⟩
    rintro _ w25 ⟨_, rfl, rfl, b25⟩
    refine ⟨_, rfl, ?_, B24.trans (b25.mono B24.size)⟩
    rw [decide_eq_true rfl]
end Go.Proofs.YthkcdkldpbndnaaDoor
