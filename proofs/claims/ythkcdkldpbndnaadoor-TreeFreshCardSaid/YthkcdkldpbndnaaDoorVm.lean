/- The law TreeFresh, walked. No condition. -/
import Derived.Test.YthkcdkldpbndnaaDoorVl
import Derived.Test.YthkcdkldpbndnaaDoorVh
set_option linter.unusedVariables false
namespace Go.Proofs.YthkcdkldpbndnaaDoor
open Go.RowKit Go.Hx Go.WideShapes
theorem lookM_7 (M : List ND) (i : Int) (b : Option Addr) (c : Nat) : (lookM M i b c)[7]? = some (.slice b (blksM M i) c) := by
  unfold lookM blksM
  split <;> rfl
/-- The blocks that Look tells. -/
def blkL (L : List InD) (i : Int) : List Nat := if thereD L i = true then (match L[i.toNat]? with | some x => x.blk | none => []) else []
section
variable {N t r mb hb F : Nat} {fl : List Nat} {bs : List UInt8} {L : List InD} {Q : List SH} {w : World} {M : List ND}
theorem c_MLookL (h1 : TrAt N w t r mb hb F fl bs L Q) (h2 : Abs bs L M) (i : Int) : Calls Tryd.prog 27 #[rp t, .int .i64 i] w
    (Ret fun v w' => Below w.heap.size w w' ∧ ∃ b c, v = .agg (lookM M i b c) ∧ Ow 100 1 w.heap.size w' b (blksM M i) c (uv ((blkL L i).map fun j => ((fa j : Nat) : Int)))) := by
  refine (c_tLook h1 h2.wf i).mono ?_
  rintro _ w1 ⟨_, rfl, b1, hq⟩
  refine ⟨_, rfl, b1, ?_⟩
  rw [← fv_uv]
  rw [h2.there] at hq
  unfold lookM blksM blkL
  rw [h2.there]
  by_cases ht : thereM M i = true
  · rw [if_pos ht] at hq
    simp only [if_pos ht]
    obtain ⟨x, q, c, hx, rfl, ho⟩ := hq
    have a := h2.at_ _ x hx
    refine ⟨q, c, ?_, ?_⟩
    · unfold lookC
      rw [a.typ, a.maj, a.min, a.links, a.refs, a.size, a.blk]
    · rw [hx, ← a.blk]; exact ho
  · rw [if_neg ht] at hq
    simp only [if_neg ht]
    subst hq
    exact ⟨none, 0, rfl, Ow.nil ..⟩
end
theorem VT.list_len {M : List ND} (h : VT M 0) (i : Int) : (listM M i).length ≤ 16384 := by
  have hk := h.ok.2 i.toNat
  unfold listM
  split
  · have h1 : ((nd M i.toNat).dir.filter fun e => !isHo e).length ≤ (nd M i.toNat).dir.length := List.length_filter_le _ _
    by_cases ht : (nd M i.toNat).typ = 1
    · have h9 := hk.size
      unfold ND.size at h9
      rw [if_pos ht] at h9
      omega
    · rw [hk.dir ht] at h1 ⊢
      exact Nat.zero_le _
  · exact Nat.zero_le _
theorem VT.blks_len {M : List ND} (h : VT M 0) (i : Int) : blksM M i ≤ 64 := by
  have hk := (h.ok.2 i.toNat).size
  unfold blksM blkN
  split <;> omega
theorem VT.read_len {M : List ND} (h : VT M 0) (i o m : Int) : (readM M i o m).length ≤ 262144 := by
  have hk := (h.ok.2 i.toNat).size
  unfold readM win
  split
  · rw [List.length_take]; omega
  · exact Nat.zero_le _
theorem bslW2 (n c m d : Nat) (a b : Option Addr) : bslP Tryd.prog 156 2 [(0, .slice a n c), (1, .slice b m d)] #[.slice a n c, .slice b m d] 48 := fun w => by kernel_rfl
theorem lookZ_all (M : List ND) (i : Int) (b : Option Addr) (c : Nat) : (lookM M i b c).toList.all one = true := List.all_eq_true.2 (lookM_one M i b c)
section
variable {N t r mb hb F : Nat} {fl : List Nat} {bs : List UInt8} {L : List InD} {Q : List SH} {w : World} {M : List ND} {n : Nat}
theorem far_of {p q : Option Addr} {k : Nat} (hp : ∀ a, p = some a → a.block < k) (hq : ∀ a, q = some a → k ≤ a.block) : Far p q := fun a b ha hb => by
  have := hp a ha
  have := hq b hb
  omega
theorem dis2 {x y : Sl} (h : Far x.1 y.1) : Dis [x, y] := fun i j a b hij hi hj => by
  match i, j, hi, hj with
  | 0, 0, _, _ => exact absurd rfl hij
  | 1, 1, _, _ => exact absurd rfl hij
  | 0, 1, h1, h2 => cases h1; cases h2; exact h
  | 1, 0, h1, h2 => cases h1; cases h2; exact h.symm
  | _ + 2, _, h1, _ => simp at h1
  | 0, _ + 2, _, h2 => simp at h2
  | 1, _ + 2, _, h2 => simp at h2
theorem inL2 {x y : Sl} {k : Nat} (h : InL [x, y] k) : SB x.1 k ∨ SB y.1 k := by
  obtain ⟨j, z, a, hz, ha, e⟩ := h
  match j, hz with
  | 0, hz => cases hz; exact .inl ⟨a, ha, e⟩
  | 1, hz => cases hz; exact .inr ⟨a, ha, e⟩
  | _ + 2, hz => simp at hz
end
set_option maxRecDepth 100000 in
theorem c_treeFresh {xb : Option Addr} {xl xc : Nat} {ops : List OpD} {x0 x2 : Int} {w : World} (hx : Rd 10 w xb xl ((ops.map opCs).flatten)) (hl : ops.length = xl) (ho : ∀ (i : Nat) (o : OpD), ops[i]? = some o → Rd 1 w o.q o.l (bv o.xs) ∧ o.l ≤ o.c) :
    Calls Tryd.prog 10 #[.int .i64 x0, .slice xb xl xc, .int .i64 x2] w (Ret fun v w' => v = .bool true ∧ Below w.heap.size w w') := by
  have hF := houseF_ok x0
  refine W10_ok _ _ _ _ _ w _ ⟨by decide, ?_⟩
  rw [houseF_eq]
  refine (c_house (F := houseF x0) (by omega) (by omega)).mono ?_
  rintro _ w1 ⟨_, rfl, t, r, mb, hb, Q, rfl, h1, b1⟩
  refine ⟨_, _, rfl, c_b (fun h => by cases h) (fun _ => ⟨fun _ W => ∃ Q M n, TI w.heap.size t r mb hb (houseF x0) [] Q W M n ∧ VT M 0 ∧ Below w.heap.size w W, ?_, ?_⟩)⟩
  · rintro _ _ w2 ⟨Q2, M, n2, hTI, vt, b2⟩
    have hB := b2.size
    refine ⟨fun t' W => ∃ i : Nat, t' = ((i : Int), ()) ∧ (1 ≤ i ∧ i < 200) ∧ w2 = W, ?_, ?_⟩
    rotate_left
    · refine c_dec (fun _ => ⟨_, rfl, 1, rfl, ⟨by decide, by decide⟩, rfl⟩) (fun h1 => c_dec (fun _ => ⟨_, rfl, 1, rfl, ⟨by decide, by decide⟩, rfl⟩) (fun h2 => ⟨(x2, ()), rfl, x2.toNat, ?_, ⟨by omega, by omega⟩, rfl⟩))
      rw [Int.toNat_of_nonneg (by omega)]
    rintro _ _ _ ⟨i, rfl, hi, rfl⟩
    obtain ⟨fl, bs, L, ht, hA, hn⟩ := hTI.ex
    have hbl := vt.blks_len (i : Int)
    have hll := vt.list_len (i : Int)
    have hrl := vt.read_len (i : Int) 0 1073741824
    generalize hUb : (blkL L (i : Int)).map (fun j => ((fa j : Nat) : Int)) = Ub
    -- the first look
    refine (c_MLookL ht hA (i : Int)).mono ?_
    rintro _ w3 ⟨_, rfl, b3, qa, ca, rfl, oa⟩
    rw [hUb] at oa
    have z3 := b3.size
    refine ⟨_, rfl, newW_intro fun a8 w4 k4 l4 b4 => stW_intro k4 (fun w5 k5 m5 s5 => ?_) (lookM_size _ _ _ _) rfl (lookZ_all _ _ _ _)⟩
    have z4 := b4.size
    have b35 : Below w3.heap.size w3 w5 := b4.trans (m5.below z4 l4)
    have z5 := b35.size
    have b25 := b3.trans (b35.mono z3)
    -- the second
    refine (c_MLookL (ht.below b25) hA (i : Int)).mono ?_
    rintro _ w6 ⟨_, rfl, b6, qb, cb, rfl, ob⟩
    rw [hUb] at ob
    have z6 := b6.size
    refine ⟨_, rfl, newW_intro fun a10 w7 k7 l7 b7 => stW_intro k7 (fun w8 k8 m8 s8 => ?_) (lookM_size _ _ _ _) rfl (lookZ_all _ _ _ _)⟩
    have z7 := b7.size
    have b68 : Below w6.heap.size w6 w8 := b7.trans (m8.below z7 l7)
    have z8 := b68.size
    have b58 := b6.trans (b68.mono z6)
    have b28 := b25.trans (b58.mono b25.size)
    have y5 := k5.lt
    have y8 := k8.lt
    have oa8 := (oa.below b35).below b58
    have ob8 := ob.below b68
    have k58 := below_blk b58 y5 k5
    -- the lists
    refine (c_MList (hTI.below b28) (i : Int)).mono ?_
    rintro _ w9 ⟨_, rfl, qd, cd, rfl, od, b9⟩
    have z9 := b9.size
    have b29 := b28.trans (b9.mono b28.size)
    refine ⟨_, _, _, rfl, (c_MList (hTI.below b29) (i : Int)).mono ?_⟩
    rintro _ w10 ⟨_, rfl, qe, ce, rfl, oe, b10⟩
    have z10 := b10.size
    have b8_10 : Below w8.heap.size w8 w10 := b9.trans (b10.mono z9)
    have b2_10 := b29.trans (b10.mono b29.size)
    refine ⟨_, _, _, rfl, qa, _, ca, by rw [Addr.add_lit]; exact (below_blk b8_10 k58.lt k58).cell (lookM_7 _ _ _ _), ?_⟩
    refine (c_CopyWords (oa8.below b8_10).rd (by omega)).mono ?_
    rintro _ w11 ⟨_, rfl, qc, cc, rfl, oc, b11⟩
    have z11 := b11.size
    have b8_11 := b8_10.trans (b11.mono b8_10.size)
    have b2_11 := b2_10.trans (b11.mono b2_10.size)
    have od11 := (od.below b10).below b11
    refine ⟨_, _, _, rfl, ?_⟩
    -- a copy of the entries
    refine ⟨fun t' W => ∃ (m : Nat) (q : Option Addr) (c : Nat), t' = ((q, m, c), (m : Int), ()) ∧ m ≤ (listM M (i : Int)).length ∧ Ow 23 2 w11.heap.size W q m c (dvs ((listM M (i : Int)).take m)) ∧ Below w11.heap.size w11 W, fun t' _ => (listM M (i : Int)).length - t'.2.1.toNat,
      ⟨((none, 0, 0), ((0 : Nat) : Int), ()), rfl, 0, none, 0, rfl, Nat.zero_le _, Ow.nil .., Below.refl _ _⟩, ?_⟩
    rintro _ _ w12 ⟨m, qf, cf, rfl, hm, of12, b12⟩
    have z12 := b12.size
    refine c_dec (fun hlt => ?_) (fun hge => ?_)
    · have hlt : m < (listM M (i : Int)).length := by
        have : (m : Int) < (((listM M (i : Int)).length : Nat) : Int) := hlt
        omega
      refine rd_flat dirC_len (od11.below b12).rd rfl hlt fun a e _ he hr => ⟨dirC e.1 e.2, rfl, by rw [Int.toNat_natCast]; exact hr, ?_⟩
      refine of12.push (by omega) kDs kD rfl (by decide) (fun u hu => ?_) (by omega) (by unfold maxLen; omega) fun q' c' w' o' bb _ => ?_
      · simp [Value.cells, dirC] at hu
        rcases hu with rfl | rfl <;> rfl
      refine ⟨((q', m + 1, c'), ((m + 1 : Nat) : Int), ()), by (try dsimp only); rw [step1 hlt (by omega)]; rfl, ⟨m + 1, q', c', rfl, hlt, by rw [take_snocA he, dvs_snoc]; exact o', b12.trans bb⟩, ?_⟩
      show (listM M (i : Int)).length - (((m + 1 : Nat) : Int)).toNat < (listM M (i : Int)).length - (m : Int).toNat
      omega
    have em : m = (listM M (i : Int)).length := by
      have : ¬ (m : Int) < (((listM M (i : Int)).length : Nat) : Int) := hge
      omega
    subst em
    rw [List.take_length] at of12
    have b2_12 := b2_11.trans (b12.mono b2_11.size)
    -- a copy of the bytes
    refine (c_MRead (hTI.below b2_12) (i : Int) 0 1073741824).mono ?_
    rintro _ w13 ⟨_, rfl, qr, cr, rfl, b13, or13⟩
    have z13 := b13.size
    refine ⟨_, _, _, rfl, (c_CopyBytes or13.rd (by omega)).mono ?_⟩
    rintro _ w14 ⟨_, rfl, qg, cg, rfl, og, b14⟩
    have z14 := b14.size
    have b12_14 := b13.trans (b14.mono z13)
    have b8_12 := b8_11.trans (b12.mono b8_11.size)
    have b8_14 := b8_12.trans (b12_14.mono b8_12.size)
    have b2_14 := b2_12.trans (b12_14.mono b2_12.size)
    refine ⟨_, _, _, rfl, qb, _, cb, by rw [Addr.add_lit]; exact (below_blk b8_14 y8 k8).cell (lookM_7 _ _ _ _), ?_⟩
    have oc14 := (oc.below b12).below b12_14
    refine (c_Words (ob8.below b8_14).rd oc14.rd (by unfold maxLen; omega)).mono ?_
    rintro _ w15 ⟨_, rfl, rfl, b15⟩
    have z15 := b15.size
    refine ⟨_, rfl, c_nb (fun h => absurd h (by decide)) (fun _ => ?_)⟩
    have oe15 := (((oe.below b11).below b12).below b12_14).below b15
    have of15 := (of12.below b12_14).below b15
    refine (c_sameDir oe15.rd of15.rd rfl rfl (by omega)).mono ?_
    rintro _ w16 ⟨_, rfl, rfl, b16⟩
    have z16 := b16.size
    refine ⟨_, rfl, c_nb (fun h => absurd h (by decide)) (fun _ => ?_)⟩
    have b14_16 := b15.trans (b16.mono z15)
    have b8_16 := b8_14.trans (b14_16.mono b8_14.size)
    refine ⟨qa, _, ca, by rw [Addr.add_lit]; exact (below_blk b8_16 k58.lt k58).cell (lookM_7 _ _ _ _), qb, _, cb, by rw [Addr.add_lit]; exact (below_blk b8_16 y8 k8).cell (lookM_7 _ _ _ _), _, bslW2 _ _ _ _ _ _, newW_intro fun a32 w17 k17 l17 b17 => ?_⟩
    have z17 := b17.size
    have b8_17 := b8_16.trans (b17.mono b8_16.size)
    have b14_17 := b14_16.trans (b17.mono b14_16.size)
    have b2_17 := b2_14.trans (b14_17.mono b2_14.size)
    have oa17 := oa8.below b8_17
    have ob17 := ob8.below b8_17
    have z8_17 := b8_17.size
    have z2_5 := b25.size
    have fab : Far qa qb := far_of (k := w5.heap.size) (fun a ha => by have := (oa.lt ha).1; omega) (fun a ha => (ob.lt ha).2)
    have fr := U.c_FreeWords (N := w2.heap.size) (L := [(qa, blksM M (i : Int), ca), (qb, blksM M (i : Int), cb)]) (xb := some ⟨a32, 0, none⟩) (xc := 2) (w := w17) (by have := b2_17.size; omega) (show 2 ≤ 1000000000 by decide)
      ⟨⟨rfl, fun h => (by cases h), fun a ha => by cases ha; exact row_whole k17⟩, fun a ha => by cases ha; exact ⟨Nat.zero_le _, _, k17⟩⟩
      (fun j x hx => by
        match j, hx with
        | 0, hx => cases hx; exact ⟨by show blksM M (i : Int) ≤ 1000000000000; omega, _, oa17⟩
        | 1, hx => cases hx; exact ⟨by show blksM M (i : Int) ≤ 1000000000000; omega, _, ob17.mono (by omega)⟩
        | _ + 2, hx => simp at hx) (dis2 fab)
    refine fr.mono ?_
    rintro _ w18 ⟨_, rfl, rfl, k18⟩
    have z18 := k18.size
    refine ⟨_, rfl, c_nb (fun h => absurd h (by decide)) (fun _ => ?_)⟩
    -- what lies elsewhere stays
    have sab : ∀ k, InL [(qa, blksM M (i : Int), ca), (qb, blksM M (i : Int), cb)] k → w2.heap.size ≤ k ∧ k < w8.heap.size := fun k hk => by
      rcases inL2 hk with ⟨a, ha, e⟩ | ⟨a, ha, e⟩
      · have := (oa.lt ha); omega
      · have := (ob.lt ha); omega
    have kp18 : ∀ k, k < w17.heap.size → (k < w2.heap.size ∨ w8.heap.size ≤ k) → w18.heap[k]? = w17.heap[k]? := fun k hk hp => k18.block k hk fun hin => by have := sab k hin; omega
    have b9_17 : Below w9.heap.size w9 w17 := ((b10.trans (b11.mono z10)).trans (b12.mono (by omega))).trans ((b12_14.trans (b14_17.mono b12_14.size)).mono (by omega))
    have b10_17 : Below w10.heap.size w10 w17 := (b11.trans (b12.mono z11)).trans ((b12_14.trans (b14_17.mono b12_14.size)).mono (by omega))
    have od18 := (od.below b9_17).keep (w' := w18) fun a ha => kp18 _ ((od.below b9_17).lt ha).1 (.inr ((od.lt ha).2))
    have oe18 := (oe.below b10_17).keep (w' := w18) fun a ha => kp18 _ ((oe.below b10_17).lt ha).1 (.inr (by have := (oe.lt ha).2; omega))
    have oc18 := (oc14.below b14_17).keep (w' := w18) fun a ha => kp18 _ ((oc14.below b14_17).lt ha).1 (.inr (by have := (oc14.lt ha).2; omega))
    have of17 := (of12.below b12_14).below b14_17
    have of18 := of17.keep (w' := w18) fun a ha => kp18 _ (of17.lt ha).1 (.inr (by have := (of17.lt ha).2; omega))
    have og17 := og.below b14_17
    have og18 := og17.keep (w' := w18) fun a ha => kp18 _ (og17.lt ha).1 (.inr (by have := (og17.lt ha).2; omega))
    have b2_18 : Below w2.heap.size w2 w18 := b2_17.trans (k18.below (by have := b2_17.size; omega) fun k hk hin => by have := sab k hin; omega)
    have fde : Far qd qe := far_of (k := w9.heap.size) (fun a ha => (od.lt ha).1) (fun a ha => (oe.lt ha).2)
    refine (c_lone (N := w8.heap.size) od18 (oe18.mono z9) (by omega) fde (by omega) (by omega)).mono ?_
    rintro _ w19 ⟨_, rfl, rfl, k19⟩
    have z19 := k19.size
    refine ⟨_, rfl, c_nb (fun h => absurd h (by decide)) (fun _ => ?_)⟩
    have sde : ∀ k, SB2 qd qe k → w8.heap.size ≤ k ∧ k < w10.heap.size := fun k hk => by
      rcases hk with ⟨a, ha, e⟩ | ⟨a, ha, e⟩
      · have := (od.lt ha); omega
      · have := (oe.lt ha); omega
    have kp19 : ∀ k, k < w18.heap.size → (k < w2.heap.size ∨ w10.heap.size ≤ k) → w19.heap[k]? = w18.heap[k]? := fun k hk hp => k19.block k hk fun hin => by have := sde k hin; omega
    have oc19 := oc18.keep (w' := w19) fun a ha => kp19 _ (oc18.lt ha).1 (.inr (oc18.lt ha).2)
    have of19 := of18.keep (w' := w19) fun a ha => kp19 _ (of18.lt ha).1 (.inr (by have := (of18.lt ha).2; omega))
    have og19 := og18.keep (w' := w19) fun a ha => kp19 _ (og18.lt ha).1 (.inr (by have := (og18.lt ha).2; omega))
    have b2_19 : Below w2.heap.size w2 w19 := b2_18.trans (k19.below (by have := b2_18.size; omega) fun k hk hin => by have := sde k hin; omega)
    -- the tree is as it was
    refine (c_census (hTI.below b2_19)).mono ?_
    rintro _ w20 ⟨_, rfl, V, rfl, hV, b20⟩
    have z20 := b20.size
    refine ⟨_, rfl, (c_right hV vt).mono ?_⟩
    rintro _ w21 ⟨_, rfl, rfl, b21⟩
    have b19_21 := b20.trans (b21.mono z20)
    have b2_21 := b2_19.trans (b19_21.mono b2_19.size)
    refine ⟨_, rfl, c_b (fun _ => ?_) (fun h => absurd h (by decide))⟩
    refine (c_MLookL (ht.below b2_21) hA (i : Int)).mono ?_
    rintro _ w22 ⟨_, rfl, b22, qh, ch, rfl, oh⟩
    rw [hUb] at oh
    have b19_22 := b19_21.trans (b22.mono b19_21.size)
    have b2_22 := b2_21.trans (b22.mono b2_21.size)
    refine ⟨_, rfl, qh, _, ch, lookM_7 _ _ _ _, (c_Words oh.rd (oc19.below b19_22).rd (by unfold maxLen; omega)).mono ?_⟩
    rintro _ w23 ⟨_, rfl, rfl, b23⟩
    have b19_23 := b19_22.trans (b23.mono b19_22.size)
    have b2_23 := b2_22.trans (b23.mono b2_22.size)
    refine ⟨_, rfl, c_b (fun _ => ?_) (fun h => absurd h (by decide))⟩
    refine (c_MList (hTI.below b2_23) (i : Int)).mono ?_
    rintro _ w24 ⟨_, rfl, ql, cl, rfl, ol, b24⟩
    have b19_24 := b19_23.trans (b24.mono b19_23.size)
    have b2_24 := b2_23.trans (b24.mono b2_23.size)
    refine ⟨_, _, _, rfl, (c_sameDir ol.rd (of19.below b19_24).rd rfl rfl (by omega)).mono ?_⟩
    rintro _ w25 ⟨_, rfl, rfl, b25'⟩
    have b19_25 := b19_24.trans (b25'.mono b19_24.size)
    have b2_25 := b2_24.trans (b25'.mono b2_24.size)
    refine ⟨_, rfl, c_b (fun _ => ?_) (fun h => absurd h (by decide))⟩
    refine (c_MRead (hTI.below b2_25) (i : Int) 0 1073741824).mono ?_
    rintro _ w26 ⟨_, rfl, qm, cm, rfl, b26, om⟩
    have b19_26 := b19_25.trans (b26.mono b19_25.size)
    have b2_26 := b2_25.trans (b26.mono b2_25.size)
    refine ⟨_, _, _, rfl, (c_Bytes om.rd (og19.below b19_26).rd (by unfold maxLen; omega)).mono ?_⟩
    rintro _ w27 ⟨_, rfl, rfl, b27⟩
    have b2_27 := b2_26.trans (b27.mono b2_26.size)
    exact ⟨_, rfl, by rw [decide_eq_true rfl], b2.trans (b2_27.mono hB)⟩
  · refine ⟨fun t' W => ∃ (i : Nat) (Q : List SH) (M : List ND) (n : Nat), t' = ((i : Int), ()) ∧ i ≤ 400 ∧ TI w.heap.size t r mb hb (houseF x0) [] Q W M n ∧ VT M 0 ∧ Below w.heap.size w W, fun t' _ => 400 - t'.1.toNat,
      ⟨(((0 : Nat) : Int), ()), rfl, 0, Q, M0, _, rfl, Nat.zero_le _, h1, VT0, b1⟩, ?_⟩
    rintro _ _ w2 ⟨i, Q2, M2, n2, rfl, hi, h2, v2, b2⟩
    have done : ∃ u : Unit, ([] : List Value) = tv [] u ∧ (fun (_ : Unit) (W : World) => ∃ Q M n, TI w.heap.size t r mb hb (houseF x0) [] Q W M n ∧ VT M 0 ∧ Below w.heap.size w W) u w2 := ⟨(), rfl, Q2, M2, n2, h2, v2, b2⟩
    refine c_dec (fun hlt => c_dec (fun hlt4 => ?_) (fun _ => done)) (fun _ => done)
    have hltN : i < xl := by
      have : (i : Int) < ((xl : Nat) : Int) := hlt
      omega
    have hltM : i < 400 := by
      have : (i : Int) < 400 := hlt4
      omega
    refine rd_flat opCs_len (hx.below b2) hl hltN fun a o _ hoo hr => ⟨_, rfl, by rw [Int.toNat_natCast]; exact hr, (c_cheap o w2).mono ?_⟩
    rintro _ w3 ⟨_, rfl, rfl, b3⟩
    have z2 := b2.size
    have b03 := b2.trans (b3.mono z2)
    have h3 := h2.below b3
    refine ⟨_, rfl, c_dec (fun hch => ?_) (fun _ => ?_)⟩
    · refine rd_flat opCs_len (hx.below b03) hl hltN fun a' o' _ hoo' hr' => ⟨_, rfl, by rw [Int.toNat_natCast]; exact hr', ?_⟩
      rw [hoo] at hoo'
      cases hoo'
      refine (c_step h3 b03.size v2 o ((ho i o hoo).1.below b03) hch.1).mono ?_
      rintro _ w4 ⟨_, rfl, rfl, Q4, M4, n4, _, h4, v4, g4⟩
      have b04 := b03.trans (g4.bel h3 b03.size)
      refine ⟨rfl, (((i + 1 : Nat) : Int), ()), by (try dsimp only); rw [step1 hltM (by omega)]; rfl, ⟨i + 1, Q4, M4, n4, rfl, hltM, h4, v4, b04⟩, ?_⟩
      show 400 - (((i + 1 : Nat) : Int)).toNat < 400 - ((i : Nat) : Int).toNat
      omega
    · refine ⟨(((i + 1 : Nat) : Int), ()), by (try dsimp only); rw [step1 hltM (by omega)]; rfl, ⟨i + 1, Q2, M2, n2, rfl, hltM, h3, v2, b03⟩, ?_⟩
      show 400 - (((i + 1 : Nat) : Int)).toNat < 400 - ((i : Nat) : Int).toNat
      omega
end Go.Proofs.YthkcdkldpbndnaaDoor
