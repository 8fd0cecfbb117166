/- What is seen of all inodes: census, entries, twice. No condition. -/
import Derived.Test.YthkcdkldpbndnaaDoorVd
import Derived.Test.YthkcdkldpbndnaaDoorYa
import Derived.Test.YthkcdkldpbndnaaDoorWc
set_option linter.unusedVariables false
namespace Go.Proofs.YthkcdkldpbndnaaDoor
open Go.RowKit Go.Hx
noncomputable abbrev cenZ : Array Value := zc Tryd.prog 144
set_option maxRecDepth 100000 in
theorem cenZ_size : cenZ.size = 1800 := by kernel_rfl
set_option maxRecDepth 100000 in
theorem cenZ_one : cenZ.toList.all one = true := by kernel_rfl
set_option maxRecDepth 100000 in
theorem bCen : bldP Tryd.prog 144 [] (.agg cenZ) := fun w => by kernel_rfl
theorem dirC_len (e : Ent) : ((dirC e.1 e.2).toList).length = 2 := rfl
theorem dvs_len (l : List Ent) : (dvs l).length = l.length * 2 := flat_len dirC_len l
theorem lookM_size (M : List ND) (i : Int) (b : Option Addr) (c : Nat) : (lookM M i b c).size = 8 := by
  unfold lookM
  split <;> rfl
theorem lookM_one (M : List ND) (i : Int) (b : Option Addr) (c : Nat) : ∀ v ∈ (lookM M i b c).toList, one v = true := by
  refine fun v hv => List.all_eq_true.1 (show (lookM M i b c).toList.all one = true from ?_) v hv
  unfold lookM
  split <;> rfl
/-- The first k inodes stand in the table. -/
structure CenK (N0 : Nat) (W : World) (M : List ND) (V : Array Value) (k : Nat) : Prop where
  size : V.size = 1800
  one : ∀ v ∈ V.toList, one v = true
  look : ∀ i : Nat, 1 ≤ i → i < k → ∃ b c, ∀ j, j < 8 → V[i * 8 + j]? = (lookM M (i : Int) b c)[j]?
  list : ∀ i : Nat, 1 ≤ i → i < k → ∃ q c, V[1600 + i]? = some (.slice q (listM M (i : Int)).length c) ∧ Ow 23 2 N0 W q (listM M (i : Int)).length c (dvs (listM M (i : Int)))
theorem CenK.keep {N0 : Nat} {W W' : World} {M : List ND} {V : Array Value} {k : Nat} (h : CenK N0 W M V k) (hk : ∀ b, N0 ≤ b → b < W.heap.size → W'.heap[b]? = W.heap[b]?) : CenK N0 W' M V k :=
  ⟨h.size, h.one, h.look, fun i h1 h2 => by
    obtain ⟨q, c, e, o⟩ := h.list i h1 h2
    exact ⟨q, c, e, o.keep fun a ha => hk _ (o.lt ha).2 (o.lt ha).1⟩⟩
/-- All are seen. -/
structure CenAt (w : World) (M : List ND) (V : Array Value) : Prop where
  size : V.size = 1800
  one : ∀ v ∈ V.toList, one v = true
  look : ∀ i : Nat, 1 ≤ i → i < 200 → ∃ b c, ∀ j, j < 8 → V[i * 8 + j]? = (lookM M (i : Int) b c)[j]?
  list : ∀ i : Nat, 1 ≤ i → i < 200 → ∃ q c, V[1600 + i]? = some (.slice q (listM M (i : Int)).length c) ∧ (listM M (i : Int)).length ≤ c ∧ c ≤ maxLen ∧ Rd 2 w q (listM M (i : Int)).length (dvs (listM M (i : Int)))
theorem CenAt.below {w w' : World} {M : List ND} {V : Array Value} (h : CenAt w M V) (b : Below w.heap.size w w') : CenAt w' M V := ⟨h.size, h.one, h.look, fun i h1 h2 => by
  obtain ⟨q, c, e, l1, l2, r⟩ := h.list i h1 h2
  exact ⟨q, c, e, l1, l2, r.below b⟩⟩
theorem mem_ovw {V : Array Value} {o : Nat} {l : List Value} {P : Value → Prop} (hV : ∀ v ∈ V.toList, P v) (hl : ∀ v ∈ l, P v) (ho : o + l.length ≤ V.size) : ∀ v ∈ (ovw V o l).toList, P v := fun v hv => by
  rw [ovw_list _ _ _ ho] at hv
  rcases List.mem_append.1 hv with hv | hv
  · rcases List.mem_append.1 hv with hv | hv
    · exact hV v (List.mem_of_mem_take hv)
    · exact hl v hv
  · exact hV v (List.mem_of_mem_drop hv)
theorem mem_setA {V : Array Value} {i : Nat} {x : Value} {P : Value → Prop} (hV : ∀ v ∈ V.toList, P v) (hx : P x) : ∀ v ∈ (V.setIfInBounds i x).toList, P v := fun v hv => by
  rw [Array.toList_setIfInBounds] at hv
  rcases List.mem_or_eq_of_mem_set hv with h | rfl
  · exact hV v h
  · exact hx
/-- The lists of the table lie in blocks from B to C. -/
def Own9 (B C : Nat) (V : Array Value) : Prop := ∀ (i : Nat) (q : Option Addr) (n c : Nat) (a : Addr), 1 ≤ i → i < 200 → V[1600 + i]? = some (.slice q n c) → q = some a → B ≤ a.block ∧ a.block < C
/-- A list out of the table's block. -/
def Bk9 (V : Array Value) (i : Nat) (q : Option Addr) : Prop := ∀ a, q = some a → ∃ (q0 : Option Addr) (n c : Nat) (b : Addr), V[1600 + i]? = some (.slice q0 n c) ∧ q0 = some b ∧ a.block = b.block
theorem slB_block {q : Option Addr} {i c k : Nat} {a : Addr} (h : slB q i c k = some a) : ∃ b, q = some b ∧ a.block = b.block := by
  unfold slB at h
  split at h
  · exact ⟨a, h, rfl⟩
  · cases q with
    | none => cases h
    | some b =>
      cases h
      refine ⟨b, rfl, ?_⟩
      show (b.add (i * k)).block = b.block
      unfold Addr.add
      split <;> rfl
section
variable {N t r mb hb F : Nat} {H : List Nat} {Q : List SH} {w : World} {M : List ND} {n : Nat}
set_option maxRecDepth 100000 in
theorem c_censusB (h : TI N t r mb hb F H Q w M n) : Calls Tryd.prog 59 #[rp t] w (Ret fun v w' => ∃ V, v = .agg V ∧ CenAt w' M V ∧ Own9 w.heap.size w'.heap.size V ∧ Below w.heap.size w w') := by
  refine W59_ok _ w _ (newW_intro fun a1 w1 k1 l1 b1 => ⟨_, bCen, newW_intro fun a3 w3 k3 l3 b3 => stW_intro k3 (fun w4 k4 m4 s4 => ?_) cenZ_size cenZ_size cenZ_one⟩)
  have z1 := b1.size
  have y1 := k1.lt
  have z3 := b3.size
  have y3 := k3.lt
  have k14 := m4.blk (show a1 ≠ a3 by omega) (below_blk b3 y1 k1)
  have b04 := (b1.trans (b3.mono z1)).trans (m4.below (by omega) (by omega))
  refine ⟨fun t' W => ∃ (k : Nat) (V : Array Value), t' = ((k : Int), ()) ∧ 1 ≤ k ∧ k ≤ 200 ∧ Blk W a3 V 144 ∧ CenK (a3 + 1) W M V k ∧ Below w.heap.size w W ∧ Blk W a1 cenZ 144, fun t' _ => 200 - t'.1.toNat,
    ⟨(((1 : Nat) : Int), ()), rfl, 1, cenZ, rfl, Nat.le_refl _, by decide, k4, ⟨cenZ_size, fun v hv => List.all_eq_true.1 cenZ_one v hv, fun i h1 h2 => by omega, fun i h1 h2 => by omega⟩, b04, k14⟩, ?_⟩
  rintro _ _ w5 ⟨k, V, rfl, hk1, hk2, k5, c5, b5, k15⟩
  have y5 := k5.lt
  refine c_dec (fun hlt => (c_MLook (h.below b5) (k : Int)).mono ?_) (fun hge => ?_)
  · have hlt : k < 200 := by
      have : (k : Int) < 200 := hlt
      omega
    rintro _ w6 ⟨_, rfl, b6, lb, lc, ll, rfl, _, _⟩
    have z6 := b6.size
    have hVs := c5.size
    have hl8 : (lookM M (k : Int) lb lc).toList.length = 8 := by rw [Array.length_toList, lookM_size]
    refine ⟨_, rfl, ⟨by omega, by show ((k : Nat) : Int) < ((200 : Nat) : Int); omega⟩, ?_⟩
    dsimp only
    rw [Addr.add_lit, Nat.zero_add, Int.toNat_natCast]
    refine stA_intro (below_blk b6 y5 k5) (lookM_size _ _ _ _) (by omega) (lookM_one _ _ _ _) fun w7 k7 m7 s7 => ?_
    have b07 : Below w.heap.size w w7 := (b5.trans (b6.mono b5.size)).trans (m7.below (by have := b5.size; omega) (by omega))
    refine (c_MList (h.below b07) (k : Int)).mono ?_
    rintro _ w8 ⟨_, rfl, lq, lqc, rfl, o8, b8⟩
    have z8 := b8.size
    refine ⟨_, _, _, rfl, ⟨by omega, by show ((k : Nat) : Int) < ((200 : Nat) : Int); omega⟩, ?_⟩
    rw [Addr.add_lit, Addr.add_lit, Nat.zero_add, Nat.mul_one]
    have hos : (ovw V (k * 8) (lookM M (k : Int) lb lc).toList).size = 1800 := by rw [ovw_size, hVs]
    have y7 := k7.lt
    refine stC_intro (below_blk b8 y7 k7) (by omega) fun w9 k9 m9 s9 => ?_
    have hget : ∀ j, j < 1800 → ((ovw V (k * 8) (lookM M (k : Int) lb lc).toList).setIfInBounds (1600 + k) (.slice lq (listM M (k : Int)).length lqc))[j]? = if j = 1600 + k then some (.slice lq (listM M (k : Int)).length lqc) else if k * 8 ≤ j ∧ j < k * 8 + 8 then (lookM M (k : Int) lb lc)[j - k * 8]? else V[j]? := fun j hj => by
      rw [Array.getElem?_setIfInBounds]
      by_cases e : 1600 + k = j
      · rw [if_pos e, if_pos (by omega), if_pos e.symm]
      · rw [if_neg e, if_neg (Ne.symm e), ovw_get _ _ _ _ (by omega), hl8]
        by_cases e2 : k * 8 ≤ j ∧ j < k * 8 + 8
        · rw [if_pos e2, if_pos e2, Array.getElem?_toList]
        · rw [if_neg e2, if_neg e2]
    have keep : ∀ b, a3 + 1 ≤ b → b < w5.heap.size → w9.heap[b]? = w5.heap[b]? := fun b hb1 hb2 => by
      rw [m9.block b (by omega) (by omega), b8.block b (by omega), m7.block b (by omega) (by omega), b6.block b (by omega)]
    refine ⟨(((k + 1 : Nat) : Int), ()), by rw [step1 hlt (by omega)]; rfl, ⟨k + 1, _, rfl, by omega, hlt, k9, ⟨by rw [Array.size_setIfInBounds]; exact hos, mem_setA (mem_ovw c5.one (lookM_one _ _ _ _) (by omega)) rfl, fun i h1 h2 => ?_, fun i h1 h2 => ?_⟩, ?_, ?_⟩, ?_⟩
    · by_cases e : i = k
      · subst e
        refine ⟨lb, lc, fun j hj => ?_⟩
        rw [hget _ (by omega), if_neg (by omega), if_pos (by omega), Nat.add_sub_cancel_left]
      · obtain ⟨b, c, hb⟩ := c5.look i h1 (by omega)
        refine ⟨b, c, fun j hj => ?_⟩
        rw [hget _ (by omega), if_neg (by omega), if_neg (by omega)]
        exact hb j hj
    · by_cases e : i = k
      · subst e
        refine ⟨lq, lqc, ?_, ?_⟩
        · rw [hget _ (by omega), if_pos rfl]
        · exact (o8.mono (by omega)).keep fun a ha => m9.block _ (o8.lt ha).1 (by have := (o8.lt ha).2; omega)
      · obtain ⟨q, c, e1, o⟩ := c5.list i h1 (by omega)
        refine ⟨q, c, ?_, o.keep fun a ha => keep _ (o.lt ha).2 (o.lt ha).1⟩
        rw [hget _ (by omega), if_neg (by omega), if_neg (by omega)]
        exact e1
    · exact (b07.trans (b8.mono b07.size)).trans (m9.below (by have := b07.size; omega) (by omega))
    · exact m9.blk (by omega) (below_blk b8 (by have := k15.lt; omega) (m7.blk (by omega) (below_blk b6 k15.lt k15)))
    · show 200 - (((k + 1 : Nat) : Int)).toNat < 200 - k
      omega
  · have hk : k = 200 := by
      have : ¬ (k : Int) < 200 := hge
      omega
    subst hk
    refine ⟨V, c5.size, row_whole k5, stW_intro k15 (fun w6 k6 m6 s6 => ⟨V, c5.size, row_whole k6, V, rfl, ?_, fun i q n c a h1 h2 hv ha => ?_, b5.trans (m6.below b5.size (by omega))⟩) c5.size cenZ_size (List.all_eq_true.2 c5.one)⟩
    rotate_left
    · obtain ⟨q', c', e, o⟩ := c5.list i h1 h2
      rw [e] at hv
      cases hv
      have := o.lt ha
      omega
    refine ⟨c5.size, c5.one, c5.look, fun i h1 h2 => ?_⟩
    obtain ⟨q, c, e, o⟩ := c5.list i h1 h2
    have o6 := o.keep (w' := w6) fun a ha => m6.block _ (o.lt ha).1 (by have := (o.lt ha).2; omega)
    exact ⟨q, c, e, o6.le, o6.cap, o6.rd⟩
theorem c_census (h : TI N t r mb hb F H Q w M n) : Calls Tryd.prog 59 #[rp t] w (Ret fun v w' => ∃ V, v = .agg V ∧ CenAt w' M V ∧ Below w.heap.size w w') :=
  (c_censusB h).mono fun _ _ ⟨v, hv, V, h1, h2, _, h4⟩ => ⟨v, hv, V, h1, h2, h4⟩
end
/-! ### entries, twice -/
def liveM (M : List ND) (i : Nat) : Prop := (nd M i).typ = 1 ∧ (nd M i).links ≠ 0
instance (M : List ND) (i : Nat) : Decidable (liveM M i) := by unfold liveM; infer_instance
theorem VT.list_live {M : List ND} {x : Nat} (h : VT M x) {i : Nat} (hi : 1 ≤ i ∧ i < 200) (hl : liveM M i) : listM M (i : Int) = ((i : Int), [46]) :: (((upM M i : Nat) : Int), [46, 46]) :: RM M i := by
  obtain ⟨r, hr⟩ := h.dots i hl.1 hl.2
  have hu := h.vp.up_ok (d := i) hl.1 hl.2
  have hth : thereM M (i : Int) = true := by
    unfold thereM
    rw [Int.toNat_natCast, decide_eq_true (by omega : (0 : Int) < (i : Int)), decide_eq_true (by omega : (i : Int) < 200), hl.1]; rfl
  unfold listM RM
  rw [if_pos hth, Int.toNat_natCast, hr]
  have e1 : (!isHo ((i : Int), [46])) = true := by
    unfold isHo
    rw [decide_eq_false (show ((i : Int)) ≠ 0 by omega)]; rfl
  have e2 : (!isHo (((upM M i : Nat) : Int), [46, 46])) = true := by
    unfold isHo
    rw [decide_eq_false (show ((upM M i : Nat) : Int) ≠ 0 by omega)]; rfl
  rw [List.filter_cons, if_pos e1, List.filter_cons, if_pos e2]
  rfl
theorem VT.list_dead {M : List ND} {x : Nat} (h : VT M x) {i : Nat} (hl : ¬ liveM M i) : listM M (i : Int) = [] ∧ RM M i = [] := by
  have hd : (nd M i).dir = [] := by
    by_cases ht : (nd M i).typ = 1
    · exact h.dead i ht (Classical.byContradiction fun hc => hl ⟨ht, hc⟩)
    · exact (h.ok.2 i).dir ht
  unfold listM RM
  rw [Int.toNat_natCast, hd]
  refine ⟨?_, rfl⟩
  split <;> rfl
section
variable {w : World} {M : List ND} {V : Array Value} {x : Nat}
theorem lookM_cell (h : VT M x) {i : Nat} (hi : 1 ≤ i ∧ i < 200) (b : Option Addr) (c : Nat) : (lookM M (i : Int) b c)[1]? = some (.int .i64 (nd M i).typ) ∧ (lookM M (i : Int) b c)[4]? = some (.int .i64 (nd M i).links) ∧ (lookM M (i : Int) b c)[5]? = some (.int .i64 (nd M i).refs) ∧ (lookM M (i : Int) b c)[6]? = some (.int .i64 (((nd M i).size : Nat) : Int)) ∧ (lookM M (i : Int) b c)[7]? = some (.slice b (blkN (nd M i).size) c) := by
  unfold lookM
  rw [Int.toNat_natCast]
  by_cases ht : thereM M (i : Int) = true
  · rw [if_pos ht]
    exact ⟨rfl, rfl, rfl, rfl, rfl⟩
  · rw [if_neg ht]
    have hz : (nd M i).typ = 0 := Classical.byContradiction fun hn => ht (by
      unfold thereM
      rw [Int.toNat_natCast, decide_eq_true (by omega : (0 : Int) < (i : Int)), decide_eq_true (by omega : (i : Int) < 200), decide_eq_true hn]; rfl)
    rw [(h.ok.2 i).zero hz]
    exact ⟨rfl, rfl, rfl, rfl, rfl⟩
theorem CenAt.cell (h : CenAt w M V) (vt : VT M x) {i : Nat} (hi : 1 ≤ i ∧ i < 200) : V[i * 8 + 1]? = some (.int .i64 (nd M i).typ) ∧ V[i * 8 + 4]? = some (.int .i64 (nd M i).links) ∧ V[i * 8 + 5]? = some (.int .i64 (nd M i).refs) ∧ V[i * 8 + 6]? = some (.int .i64 (((nd M i).size : Nat) : Int)) ∧ ∃ b c, V[i * 8 + 7]? = some (.slice b (blkN (nd M i).size) c) := by
  obtain ⟨b, c, hb⟩ := h.look i hi.1 hi.2
  obtain ⟨h1, h2, h3, h4, h5⟩ := lookM_cell vt hi b c
  exact ⟨(hb 1 (by decide)).trans h1, (hb 4 (by decide)).trans h2, (hb 5 (by decide)).trans h3, (hb 6 (by decide)).trans h4, b, c, (hb 7 (by decide)).trans h5⟩
theorem Rd2.drop {q : Option Addr} {n c i : Nat} {l : List Ent} (h : Rd 2 w q n (dvs l)) (hi : i < n) (hc : n ≤ c) (hl : l.length = n) : Rd 2 w (slB q i c 2) (n - i) (dvs (l.drop i)) := by
  rw [slB_pos (by omega)]
  have e : dvs (l.drop i) = (dvs l).drop (i * 2) := by
    unfold dvs
    rw [List.map_drop]
    generalize hm : l.map (fun e => (dirC e.1 e.2).toList) = L
    have hL : ∀ x ∈ L, x.length = 2 := fun x hx => by
      rw [← hm] at hx
      obtain ⟨e, _, rfl⟩ := List.mem_map.1 hx
      rfl
    clear hm h hl hi hc
    induction L generalizing i with
    | nil => simp
    | cons y r ih =>
      cases i with
      | zero => simp
      | succ i =>
        rw [List.drop_succ_cons, List.flatten_cons, show (i + 1) * 2 = 2 + i * 2 by omega, ← List.drop_drop, List.drop_left' (hL y (List.mem_cons_self ..))]
        exact ih fun x hx => hL x (List.mem_cons_of_mem _ hx)
  rw [e]
  refine ⟨by rw [List.length_drop, dvs_len]; omega, fun hq => ?_, fun a hq => ?_⟩
  · cases q with
    | none => have := h.nil rfl; omega
    | some a => cases hq
  · cases q with
    | none => cases hq
    | some b =>
      cases hq
      intro j v hv
      rw [List.getElem?_toArray, List.getElem?_drop] at hv
      rw [Addr.add_add]
      exact h.cell rfl hv
theorem c_entries9B {w0 : World} (h0 : CenAt w0 M V) (b0 : Below w0.heap.size w0 w) (vt : VT M x) {i : Nat} (hi : 1 ≤ i ∧ i < 200) : Calls Tryd.prog 61 #[.agg V, .int .i64 (i : Int)] w
    (Ret fun v w' => ∃ q c, v = .tuple #[.slice q (RM M i).length c, .int .i64 (if liveM M i then ((upM M i : Nat) : Int) else 0), .bool true] ∧ (RM M i).length ≤ c ∧ Rd 2 w0 q (RM M i).length (dvs (RM M i)) ∧ Bk9 V i q ∧ Below w.heap.size w w') := by
  have h := h0.below b0
  refine W61_ok _ _ w _ (newW_intro fun a1 w1 k1 l1 b1 => ⟨⟨by omega, by show (i : Int) < ((200 : Nat) : Int); omega⟩, ?_⟩)
  have z1 := b1.size
  obtain ⟨q, c, hq, hc1, hc2, hrd0⟩ := h0.list i hi.1 hi.2
  have hrd := (hrd0.below b0).below b1
  obtain ⟨v1, v4, _, _, _⟩ := h.cell vt hi
  rw [Addr.add_lit, Addr.add_lit, Nat.zero_add, Int.toNat_natCast, Nat.mul_one]
  refine ⟨q, _, c, k1.cell hq, fun t' W => t' = (decide (¬ liveM M i), ()) ∧ w1 = W, ?_, ⟨by omega, by show (i : Int) < ((200 : Nat) : Int); omega⟩, (nd M i).typ, ?_, c_ne (fun hne => ⟨_, ?_, rfl, rfl⟩) (fun he => ⟨⟨by omega, by show (i : Int) < ((200 : Nat) : Int); omega⟩, (nd M i).links, ?_, _, ?_, rfl, rfl⟩)⟩
  rotate_left
  · rw [Addr.add_lit, Addr.add_lit, Nat.zero_add]
    exact k1.cell v1
  · rw [decide_eq_true (show ¬ liveM M i from fun hc => hne hc.1)]; rfl
  · rw [Addr.add_lit, Addr.add_lit, Nat.zero_add]
    exact k1.cell v4
  · have : ((nd M i).links == (0 : Int)) = decide (¬ liveM M i) := by
      rw [Bool.eq_iff_iff, beq_iff_eq, decide_eq_true_eq]
      unfold liveM
      exact ⟨fun h0 hc => hc.2 h0, fun hc => Classical.byContradiction fun hn => hc ⟨he, hn⟩⟩
    rw [this]; rfl
  rintro _ _ _ ⟨rfl, rfl⟩
  refine c_dec (fun hd => ?_) (fun hl => ?_)
  · obtain ⟨e1, e2⟩ := vt.list_dead hd
    rw [e1, e2, if_neg hd]
    exact ⟨none, 0, rfl, Nat.le_refl _, Rd.empty _ _ _, (fun a ha => by cases ha), b1⟩
  · have hl : liveM M i := Classical.byContradiction hl
    have eL := vt.list_live hi hl
    have eLl : (listM M (i : Int)).length = (RM M i).length + 2 := by rw [eL]; rfl
    have b1d : Below w.heap.size w w1.drew := b1.trans ⟨rfl, rfl, rfl, Nat.le_refl _, fun _ _ => rfl⟩
    rw [if_pos hl]
    refine ⟨fun t' W => t' = (false, ()) ∧ w1 = W, ?_, ?_⟩
    · rintro _ _ _ ⟨rfl, rfl⟩
      refine ⟨⟨by decide, by omega⟩, ?_⟩
      have hrd1 := hrd.drew
      refine rd_flat dirC_len hrd1 rfl (i := 1) (by omega) fun a e ha he hr => ?_
      rw [eL] at he
      have he : some (((upM M i : Nat) : Int), [46, 46]) = some e := he
      cases he
      refine ⟨((upM M i : Nat) : Int), ?_, ?_⟩
      · have := hr 0 (.int .i64 ((upM M i : Nat) : Int)) rfl
        rw [Addr.add_add] at this
        exact this
      · refine ⟨slB q 2 c 2, c - 2, ?_, ?_, ?_, (fun a ha => by
          obtain ⟨b, hb, e⟩ := slB_block ha
          exact ⟨q, _, c, b, hq, hb, e⟩), b1d⟩
        · rw [eLl]; rfl
        · omega
        · have := Rd2.drop hrd0 (i := 2) (c := c)
          by_cases h0 : (RM M i).length = 0
          · have e0 : RM M i = [] := List.length_eq_zero_iff.1 h0
            rw [e0]
            exact Rd.empty _ _ _
          · have := this (by omega) hc1 rfl
            rw [eLl, eL] at this
            exact this
    · refine c_dec (fun hlt => absurd hlt (by omega)) (fun _ => ?_)
      refine rd_flat dirC_len hrd rfl (i := 0) (by omega) fun a e ha he hr => ?_
      rw [eL] at he
      have he : some ((i : Int), [46]) = some e := he
      cases he
      refine ⟨str [46], ?_, ?_⟩
      · have := hr 1 (.string (str [46])) rfl
        exact this
      · rw [str_lit #[46], strEq_str]
        refine c_nb (fun hb => absurd hb (by decide)) (fun _ => ?_)
        refine rd_flat dirC_len hrd rfl (i := 0) (by omega) fun a' e' ha' he' hr' => ?_
        rw [eL] at he'
        have he' : some ((i : Int), [46]) = some e' := he'
        cases he'
        refine ⟨(i : Int), ?_, c_ne (fun hne => absurd rfl hne) (fun _ => ?_)⟩
        · have := hr' 0 (.int .i64 (i : Int)) rfl
          rw [Addr.add_add] at this
          exact this
        · refine rd_flat dirC_len hrd rfl (i := 1) (by omega) fun a2 e2 ha2 he2 hr2 => ?_
          rw [eL] at he2
          have he2 : some (((upM M i : Nat) : Int), [46, 46]) = some e2 := he2
          cases he2
          refine ⟨str [46, 46], ?_, (false, ()), ?_, rfl, rfl⟩
          · exact hr2 1 (.string (str [46, 46])) rfl
          · rw [str_lit #[46, 46], strEq_str]; rfl
theorem c_entries9 {w0 : World} (h0 : CenAt w0 M V) (b0 : Below w0.heap.size w0 w) (vt : VT M x) {i : Nat} (hi : 1 ≤ i ∧ i < 200) : Calls Tryd.prog 61 #[.agg V, .int .i64 (i : Int)] w
    (Ret fun v w' => ∃ q c, v = .tuple #[.slice q (RM M i).length c, .int .i64 (if liveM M i then ((upM M i : Nat) : Int) else 0), .bool true] ∧ (RM M i).length ≤ c ∧ Rd 2 w0 q (RM M i).length (dvs (RM M i)) ∧ Below w.heap.size w w') :=
  (c_entries9B h0 b0 vt hi).mono fun _ _ ⟨v, hv, q, c, h1, h2, h3, _, h5⟩ => ⟨v, hv, q, c, h1, h2, h3, h5⟩
theorem c_twice {q : Option Addr} {n c : Nat} {l : List Ent} {k : Nat} (h : Rd 2 w q n (dvs l)) (hl : l.length = n) (hn : n ≤ 1000000) (hk : k < n) (hu : (l.map Prod.snd).Nodup) : Calls Tryd.prog 114 #[.slice q n c, .int .i64 (k : Int)] w
    (Ret fun v w' => v = .bool false ∧ Below w.heap.size w w') := by
  refine W114_ok _ _ _ _ w _ ⟨fun t' W => ∃ i : Nat, t' = ((i : Int), ()) ∧ i ≤ k ∧ Below w.heap.size w W, fun t' _ => k - t'.1.toNat, ⟨(((0 : Nat) : Int), ()), rfl, 0, rfl, Nat.zero_le _, Below.refl _ _⟩, ?_⟩
  rintro _ _ w1 ⟨i, rfl, hi, b1⟩
  refine c_dec (fun hlt => ?_) (fun _ => ⟨rfl, b1⟩)
  have hlt : i < k := by
    have : (i : Int) < (k : Int) := hlt
    omega
  have b1d : Below w.heap.size w w1.drew := b1.trans ⟨rfl, rfl, rfl, Nat.le_refl _, fun _ _ => rfl⟩
  refine rd_flat dirC_len (h.below b1d) hl (i := i) (by omega) fun a e _ he hr => ⟨str e.2, ?_, rd_flat dirC_len (h.below b1d) hl (i := k) hk fun a' e' _ he' hr' => ⟨str e'.2, ?_, ?_⟩⟩
  · exact hr 1 (.string (str e.2)) rfl
  · exact hr' 1 (.string (str e'.2)) rfl
  · rw [strEq_str]
    refine c_dec (fun hee => ?_) (fun _ => ⟨(((i + 1 : Nat) : Int), ()), by (try dsimp only); rw [step1 hlt (by omega)]; rfl, ⟨i + 1, rfl, hlt, b1d⟩, ?_⟩)
    · exfalso
      have h1 : (l.map Prod.snd)[i]? = some e.2 := by rw [List.getElem?_map, he]; rfl
      have h2 : (l.map Prod.snd)[k]? = some e'.2 := by rw [List.getElem?_map, he']; rfl
      rw [← hee] at h2
      have := (List.getElem?_inj (by rw [List.length_map]; omega) hu).1 (h1.trans h2.symm)
      omega
    · show k - (((i + 1 : Nat) : Int)).toNat < k - (i : Int).toNat
      omega
end
end Go.Proofs.YthkcdkldpbndnaaDoor
