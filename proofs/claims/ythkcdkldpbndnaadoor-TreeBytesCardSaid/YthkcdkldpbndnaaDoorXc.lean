/- The law TreeBytes, walked. No condition. -/
import Derived.Test.YthkcdkldpbndnaaDoorXb
import Derived.Test.YthkcdkldpbndnaaDoorSt
import Derived.Lib.SmallJoins
set_option linter.unusedVariables false
namespace Go.Proofs.YthkcdkldpbndnaaDoor
open Go.RowKit Go.Hx Go.WideShapes
def besB : List UInt8 := [98, 101, 115, 105, 100, 101]
theorem bsl6 : bslP Tryd.prog 24 6 [(0, .int .u8 (98 : Int)), (1, .int .u8 (101 : Int)), (2, .int .u8 (115 : Int)), (3, .int .u8 (105 : Int)), (4, .int .u8 (100 : Int)), (5, .int .u8 (101 : Int))] (bv besB).toArray 5 := fun w => by kernel_rfl
/-- A literal's bytes as a slice. -/
theorem newCvt {C : Array Value} {n c : Nat} {w : World} {K : Option Addr → Nat → Nat → World → Prop} (h : ∀ b w', Blk w' b C 5 → w.heap.size ≤ b → Below w.heap.size w w' → K (some ⟨b, 0, none⟩) n c w') :
    newW C 5 w fun a w => ∃ (q : Option Addr) (l m : Nat), ∃ w' : World, stP Tryd.prog (convert 24 24 (.slice (some a) n c)) w (.slice q l m) w' ∧ K q l m w' := by
  refine ⟨_, _, _, _, Go.Lib.run_convert_bytes_const w _ _ C n c (by kernel_rfl) (by kernel_rfl), h _ _ ⟨C.size, C.size + 1, heap_alloc_new w _, .inr (Nat.le_refl _)⟩ (Nat.le_refl _) (below_new w _)⟩
theorem kp_sub {S T : Nat → Prop} {m : Nat} {w w' : World} (h : Kp S m w w') (hs : ∀ k, S k → T k) : Kp T m w w' := ⟨h.os, h.tape, h.output, h.size, fun k hk ht => h.block k hk fun hk' => ht (hs k hk')⟩
/-- What holds in the loop: the tree's two files; the program's own list of the first one's bytes. -/
structure LI (t r mb hb : Nat) (w W : World) (Q : List SH) (n : Nat) (wt db : List UInt8) (q : Option Addr) (c : Nat) (wg : List UInt8) : Prop where
  ti : TI w.heap.size t r mb hb 200 [] Q W (FS wt db) n
  nn : n + blkN wt.length + blkN db.length = 198
  wl : wt.length ≤ 262144
  ow : Ow 5 1 w.heap.size W q wg.length c (bv wg)
  apt : Apt t r mb hb Q q
  bel : Below w.heap.size w W
section
variable {t r mb hb : Nat} {w W : World} {Q : List SH} {n : Nat} {wt db wg : List UInt8} {q : Option Addr} {c : Nat}
theorem LI.below {W' : World} (h : LI t r mb hb w W Q n wt db q c wg) (b : Below W.heap.size W W') : LI t r mb hb w W' Q n wt db q c wg :=
  ⟨h.ti.below b, h.nn, h.wl, h.ow.below b, h.apt, h.bel.trans (b.mono h.bel.size)⟩
theorem LI.olt (h : LI t r mb hb w W Q n wt db q c wg) : ∀ a, q = some a → a.block < W.heap.size := fun a ha => (h.ow.lt ha).1
theorem LI.aft {W' : World} {Q' : List SH} {n' : Nat} {wt' db' : List UInt8} (h : LI t r mb hb w W Q n wt db q c wg) (k : TI w.heap.size t r mb hb 200 [] Q' W' (FS wt' db') n') (g : TrG t r mb hb Q Q' W W') (hn : n' + blkN wt'.length + blkN db'.length = 198) (hw : wt'.length ≤ 262144) : LI t r mb hb w W' Q' n' wt' db' q c wg :=
  ⟨k, hn, hw, ow_aft h.ow h.apt g, h.apt.aft g h.olt, h.bel.trans (g.bel h.ti h.bel.size)⟩
theorem LI.drew (h : LI t r mb hb w W Q n wt db q c wg) : LI t r mb hb w W.drew Q n wt db q c wg := h.below (below_drew _ _)
end
theorem wr3 {n : Nat} {wt db : List UInt8} (hn : n + blkN wt.length + blkN db.length = 198) (hw : wt.length ≤ 262144) (hd : db.length ≤ 400) :
    ∃ n', writeM (FS wt db) n 3 ((db.length : Nat) : Int) besB = ((FS wt (db ++ besB), n'), 6) ∧ n' + blkN wt.length + blkN (db ++ besB).length = 198 := by
  have hu : ∀ z, blkN z = (z + 4095) / 4096 := fun z => rfl
  have e6 : wrN (fileND db) n db.length besB.length = 6 := by
    unfold wrN
    show min (min 6 (262144 - db.length)) ((blkN db.length + n) * 4096 - db.length) = 6
    simp only [hu] at hn ⊢
    omega
  refine ⟨n - (blkN (db.length + 6) - blkN db.length), ?_, ?_⟩
  · rw [FS_write3 (Nat.le_refl _), e6]
    have e7 : besB.take 6 = besB := rfl
    rw [e7, wrB_end]
    rfl
  · have e8 : (db ++ besB).length = db.length + 6 := by rw [List.length_append]; rfl
    rw [e8]
    simp only [hu] at hn ⊢
    omega
set_option maxRecDepth 100000 in
theorem c_treeBytes {xb yb : Option Addr} {xl xc yl yc : Nat} {os : List Int} {l : List Sl} {off m : Int} {w : World} (hx : Rd 1 w xb xl (iv os)) (hy : Rd 1 w yb yl (l.map slV)) (hl : ∀ (i : Nat) (x : Sl), l[i]? = some x → ∃ xs, Rd 1 w x.1 x.2.1 (bv xs) ∧ x.2.1 ≤ x.2.2) :
    Calls Tryd.prog 4 #[.slice xb xl xc, .slice yb yl yc, .int .i64 off, .int .i64 m] w (Ret fun v w' => v = .bool true ∧ Below w.heap.size w w') := by
  have lyl : l.length = yl := by have := hy.len; rw [List.length_map, Nat.mul_one] at this; exact this
  refine W4_ok _ _ _ _ _ _ _ _ w _ ((c_house (F := 200) (by decide) (by decide)).mono ?_)
  rintro _ w1 ⟨_, rfl, t, r, mb, hb, Q, rfl, h1, b1⟩
  refine ⟨_, _, rfl, c_b (fun h => by cases h) (fun _ => (c_MMake h1 b1.size 1 [47, 97] 2 0 0).mono ?_)⟩
  rintro _ w2 ⟨_, rfl, hm⟩
  have e198 : 200 - 2 = 198 := rfl
  rw [e198, mkA] at hm
  obtain ⟨rfl, Q2, h2, g2⟩ := hm
  have bb2 := b1.trans (g2.bel h1 b1.size)
  refine ⟨_, _, rfl, (c_MMake h2 bb2.size 1 [47, 98] 2 0 0).mono ?_⟩
  rintro _ w3 ⟨_, rfl, hm⟩
  have hm : MakeQ w.heap.size t r mb hb 200 [] Q2 w2 (makeM MA 198 1 [47, 98] 2 0 0) _ w3 := hm
  rw [mkB] at hm
  obtain ⟨rfl, Q3, h3, g3⟩ := hm
  have bb3 := bb2.trans (g3.bel h2 bb2.size)
  have h3 : TI w.heap.size t r mb hb 200 [] Q3 w3 MB 198 := h3
  rw [FS0] at h3
  refine ⟨_, _, rfl, c_ne (fun h => absurd rfl h) (fun _ => c_ne (fun h => absurd rfl h) (fun _ => ?_))⟩
  refine ⟨fun t' W => ∃ q c wg db Q n, t' = ((q, wg.length, c), ()) ∧ LI t r mb hb w W Q n wg db q c wg, ?_, ?_⟩
  · -- behind the loop
    rintro _ _ w4 ⟨q, c, wg, db, Q4, n4, rfl, h4⟩
    have hw4 := h4.wl
    refine (c_MLook h4.ti 2).mono ?_
    rintro _ w5 ⟨_, rfl, b5, lb, lc, lw, rfl, _, _⟩
    have h5 := h4.below b5
    refine ⟨_, rfl, _, look_size2 _ _ _ _, c_ne (fun h => absurd rfl h) (fun _ => (c_MRead h5.ti 2 0 1073741824).mono ?_)⟩
    rintro _ w6 ⟨_, rfl, q6, c6, rfl, b6, o6⟩
    have er : readM (FS wg db) 2 0 1073741824 = wg := by
      rw [read_file, if_pos ⟨by decide, by decide, by omega⟩]
      have : min ((1073741824 : Int)).toNat (wg.length - ((0 : Int)).toNat) = wg.length := by
        show min 1073741824 (wg.length - 0) = wg.length
        omega
      rw [this]
      show (wg.drop 0).take wg.length = wg
      rw [List.drop_zero, List.take_length]
    rw [er] at o6 ⊢
    have h6 := h5.below b6
    refine ⟨_, _, _, rfl, (c_Bytes o6.rd h6.ow.rd (by unfold maxLen; omega)).mono ?_⟩
    rintro _ w7 ⟨_, rfl, rfl, b7⟩
    have h7 := h6.below b7
    rw [decide_eq_true rfl]
    refine ⟨_, rfl, c_nb (fun h => absurd h (by decide)) (fun _ => ⟨fun t' W => t' = (decide (off < 0 ∨ ((wg.length : Nat) : Int) < off ∨ m < 0), ()) ∧ w7 = W, ?_, ?_⟩)⟩
    rotate_left
    · refine c_dec (fun h => ⟨_, ?_, rfl, rfl⟩) (fun h => c_dec (fun h' => ⟨_, ?_, rfl, rfl⟩) (fun h' => ⟨_, ?_, rfl, rfl⟩))
      · rw [decide_eq_true (.inl h)]; rfl
      · rw [decide_eq_true (.inr (.inl h'))]; rfl
      · have : decide (m < 0) = decide (off < 0 ∨ ((wg.length : Nat) : Int) < off ∨ m < 0) := by
          rw [decide_eq_decide]
          exact ⟨fun h => .inr (.inr h), fun hh => by omega⟩
        rw [this]; rfl
    rintro _ _ _ ⟨rfl, rfl⟩
    refine c_dec (fun hbad => (c_MRead h7.ti 2 off m).mono ?_) (fun hok => ?_)
    · rintro _ w8 ⟨_, rfl, q8, c8, rfl, b8, o8⟩
      have e0 : readM (FS wg db) 2 off m = [] := by rw [read_file, if_neg (by omega)]
      rw [e0]
      exact ⟨_, _, _, rfl, rfl, (h7.below b8).bel⟩
    · obtain ⟨o, rfl⟩ : ∃ o : Nat, off = (o : Int) := ⟨off.toNat, by omega⟩
      obtain ⟨k, rfl⟩ : ∃ k : Nat, m = (k : Int) := ⟨m.toNat, by omega⟩
      have hol : o ≤ wg.length := by omega
      have er2 : readM (FS wg db) 2 ((o : Nat) : Int) ((k : Nat) : Int) = win wg o (min k (wg.length - o)) := by
        rw [read_file, if_pos ⟨by omega, by omega, by omega⟩, Int.toNat_natCast, Int.toNat_natCast]
      have wlen : (win wg o (min k (wg.length - o))).length = min k (wg.length - o) := win_len (by omega)
      refine ⟨⟨by omega, by show ((o : Nat) : Int) ≤ ((wg.length : Nat) : Int); omega⟩, ?_⟩
      rw [Int.toNat_natCast, Int.toNat_natCast]
      have hcap := h7.ow.le
      -- the rest of the list
      have hrest : Rd 1 w7 (slB q o c 1) (wg.length - o) (bv (wg.drop o)) := by
        by_cases hol' : o < wg.length
        · have := h7.ow.rd.drop (i := o) hol' hcap
          rw [bv_drop] at this
          exact this
        · have : o = wg.length := by omega
          subst this
          rw [Nat.sub_self, List.drop_length]
          exact Rd.empty _ _ _
      refine ⟨fun t' W => ∃ q' c', t' = ((q', min k (wg.length - o), c'), ()) ∧ Rd 1 w7 q' (min k (wg.length - o)) (bv (win wg o (min k (wg.length - o)))) ∧ w7 = W, ?_, ?_⟩
      rotate_left
      · refine c_dec (fun hlt => ?_) (fun hge => ?_)
        · have hlt : k < wg.length - o := by
            have : (k : Int) < ((wg.length - o : Nat) : Int) := hlt
            omega
          refine ⟨⟨by omega, by show ((k : Nat) : Int) ≤ ((c - o : Nat) : Int); omega⟩, ((slB (slB q o c 1) 0 (c - o) 1, k - 0, c - o - 0), ()), rfl, slB (slB q o c 1) 0 (c - o) 1, c - o - 0, ?_, ?_, rfl⟩
          · rw [Nat.min_eq_left (by omega)]; rfl
          · rw [Nat.min_eq_left (by omega), slB0]
            have := hrest.take (i := k) (by omega)
            rw [bv_take] at this
            exact this
        · have hge : ¬ k < wg.length - o := by
            have : ¬ (k : Int) < ((wg.length - o : Nat) : Int) := hge
            omega
          refine ⟨((slB q o c 1, wg.length - o, c - o), ()), rfl, slB q o c 1, c - o, ?_, ?_, rfl⟩
          · rw [Nat.min_eq_right (by omega)]
          · rw [Nat.min_eq_right (by omega)]
            have : win wg o (wg.length - o) = wg.drop o := by
              unfold win
              rw [List.take_of_length_le (by rw [List.length_drop]; omega)]
            rw [this]
            exact hrest
      rintro _ _ _ ⟨q', c', rfl, hr7, rfl⟩
      refine (c_MRead h7.ti 2 _ _).mono ?_
      rintro _ w8 ⟨_, rfl, qp, cp, rfl, b8, op⟩
      rw [er2] at op ⊢
      rw [wlen] at op ⊢
      have z8 := b8.size
      have h8 := h7.below b8
      have hr8 := hr7.below b8
      refine ⟨_, _, _, rfl, (c_MRead h8.ti 2 _ _).mono ?_⟩
      rintro _ w9 ⟨_, rfl, qq, cq, rfl, b9, oq⟩
      rw [er2] at oq ⊢
      rw [wlen] at oq ⊢
      have z9 := b9.size
      have h9 := h8.below b9
      have hr9 := hr8.below b9
      have op9 := op.below b9
      refine ⟨_, _, _, rfl, (c_Bytes op9.rd hr9 (by unfold maxLen; omega)).mono ?_⟩
      rintro _ w10 ⟨_, rfl, rfl, b10⟩
      have z10 := b10.size
      have h10 := h9.below b10
      have hr10 := hr9.below b10
      have op10 := op9.below b10
      have oq10 := oq.below b10
      rw [decide_eq_true rfl]
      refine ⟨_, rfl, c_b (fun _ => ?_) (fun h => absurd h (by decide))⟩
      refine (c_Bytes oq10.rd hr10 (by unfold maxLen; omega)).mono ?_
      rintro _ w11 ⟨_, rfl, rfl, b11⟩
      have z11 := b11.size
      have h11 := h10.below b11
      have hr11 := hr10.below b11
      have op11 := op10.below b11
      have oq11 := oq10.below b11
      rw [decide_eq_true rfl]
      refine ⟨_, rfl, c_b (fun _ => ?_) (fun h => absurd h (by decide))⟩
      refine ⟨_, bsl2 (.bool true) (.bool true) _ _ _ _ _ _, newW_intro fun a12 w12 k12 l12 b12 => ?_⟩
      have z12 := b12.size
      have h12 := h11.below b12
      have hr12 := hr11.below b12
      have op12 := op11.below b12
      have oq12 := oq11.below b12
      have fr := c_Free (N := w7.heap.size) (L := [(qp, min k (wg.length - o), cp), (qq, min k (wg.length - o), cq)]) (xb := some ⟨a12, 0, none⟩) (xc := 2) (w := w12) (by omega) (show 2 ≤ 1000000000 by decide)
        ⟨⟨rfl, fun h => (by cases h), fun a ha => by cases ha; exact row_whole k12⟩, fun a ha => by cases ha; exact ⟨Nat.zero_le _, _, k12⟩⟩
        (fun j x hx => by
          match j, hx with
          | 0, hx => cases hx; exact ⟨by show min k (wg.length - o) ≤ 1000000000000; omega, _, op12⟩
          | 1, hx => cases hx; exact ⟨by show min k (wg.length - o) ≤ 1000000000000; omega, _, oq12.mono z8⟩
          | _ + 2, hx => simp at hx)
        (fun i j x y hij hxi hyj => by
          have far : Far qp qq := fun a b ha hb => by
            have := (op.lt ha).1
            have := (oq.lt hb).2
            omega
          match i, j, hxi, hyj with
          | 0, 0, _, _ => exact absurd rfl hij
          | 1, 1, _, _ => exact absurd rfl hij
          | 0, 1, h1, h2 => cases h1; cases h2; exact far
          | 1, 0, h1, h2 => cases h1; cases h2; exact far.symm
          | _ + 2, _, h1, _ => simp at h1
          | 0, _ + 2, _, h2 => simp at h2
          | 1, _ + 2, _, h2 => simp at h2)
      refine fr.mono ?_
      rintro _ w13 ⟨_, rfl, rfl, kf⟩
      have hin : ∀ k', InL [(qp, min k (wg.length - o), cp), (qq, min k (wg.length - o), cq)] k' → w7.heap.size ≤ k' := fun k' ⟨j, x, a, hx, ha, e⟩ => by
        match j, hx with
        | 0, hx => cases hx; have := op.lt ha; omega
        | 1, hx => cases hx; have := oq.lt ha; omega
        | _ + 2, hx => simp at hx
      have b713 : Below w7.heap.size w7 w13 := (((((b8.trans (b9.mono z8)).trans (b10.mono (by omega))).trans (b11.mono (by omega))).trans (b12.mono (by omega))).trans (kf.below (by omega) fun k' hk' hs => by have := hin k' hs; omega))
      have h13 := h7.below b713
      have hr13 := hr7.below b713
      refine ⟨_, rfl, c_b (fun _ => (c_MRead h13.ti 2 _ _).mono ?_) (fun h => absurd h (by decide))⟩
      rintro _ w14 ⟨_, rfl, qs, cs, rfl, b14, os'⟩
      rw [er2] at os' ⊢
      rw [wlen] at os' ⊢
      have h14 := h13.below b14
      refine ⟨_, _, _, rfl, (c_Bytes os'.rd (hr13.below b14) (by unfold maxLen; omega)).mono ?_⟩
      rintro _ w15 ⟨_, rfl, rfl, b15⟩
      exact ⟨_, rfl, by rw [decide_eq_true rfl], (h14.below b15).bel⟩
  · -- the loop
    refine ⟨fun t' W => ∃ (q : Option Addr) (c : Nat) (wg db : List UInt8) (Q : List SH) (n i : Nat), t' = ((q, wg.length, c), (i : Int), ()) ∧ i ≤ 60 ∧ i ≤ yl ∧ db.length ≤ 6 * i ∧ LI t r mb hb w W Q n wg db q c wg, fun t' _ => 60 - t'.2.1.toNat,
      ⟨((none, 0, 0), ((0 : Nat) : Int), ()), rfl, none, 0, [], [], Q3, 198, 0, rfl, Nat.zero_le _, Nat.zero_le _, Nat.zero_le _, h3, rfl, by decide, Ow.nil .., fun a ha => (by cases ha), bb3⟩, ?_⟩
    rintro _ _ w4 ⟨q, c, wg, db, Q4, n4, i, rfl, hi60, hiy, hdb, h4⟩
    have hw4 := h4.wl
    have done : ∃ t'_1 : (Option Addr × Nat × Nat) × Unit, ([.slice q wg.length c] : List Value) = tv [(15, .slice)] t'_1 ∧ (fun (t' : (Option Addr × Nat × Nat) × Unit) (W : World) => ∃ q c wg db Q n, t' = ((q, wg.length, c), ()) ∧ LI t r mb hb w W Q n wg db q c wg) t'_1 w4 := ⟨_, rfl, q, c, wg, db, Q4, n4, rfl, h4⟩
    refine c_dec (fun hlt => c_dec (fun hlt6 => ?_) (fun _ => done)) (fun _ => done)
    clear done
    have hltN : i < yl := by
      have : (i : Int) < ((yl : Nat) : Int) := hlt
      omega
    have hlt6N : i < 60 := by
      have : (i : Int) < 60 := hlt6
      omega
    refine rd_sl (hy.below h4.bel) hltN fun x hxi => c_dec (fun hbig => ?_) (fun hsm => ?_)
    · refine ⟨((q, wg.length, c), ((i + 1 : Nat) : Int), ()), by (try dsimp only); rw [step1 hlt6N (by omega)]; rfl, ⟨q, c, wg, db, Q4, n4, i + 1, rfl, hlt6N, hltN, by omega, h4⟩, ?_⟩
      show 60 - (((i + 1 : Nat) : Int)).toNat < 60 - (i : Int).toNat
      omega
    · have hsm : x.2.1 ≤ 300000 := by
        have : ¬ ((x.2.1 : Nat) : Int) > 300000 := hsm
        omega
      obtain ⟨xs, hxs, hxc⟩ := hl i x hxi
      have lxs : xs.length = x.2.1 := by have := hxs.len; rw [bv_length, Nat.mul_one] at this; exact this
      refine ⟨fun t' W => ∃ at_ : Int, t' = (at_, ()) ∧ w4 = W, ?_, ?_⟩
      rotate_left
      · refine c_dec (fun hlx => rd_int (hx.below h4.bel) (by have : (i : Int) < ((xl : Nat) : Int) := hlx; omega) fun n hn => ⟨(n, ()), rfl, n, rfl, rfl⟩) (fun _ => ⟨_, rfl, _, rfl, rfl⟩)
      rintro _ _ _ ⟨at_, rfl, rfl⟩
      refine rd_sl (hy.below h4.bel) hltN fun x' hxi' => ?_
      rw [hxi] at hxi'
      cases hxi'
      refine (c_CopyBytes (hxs.below h4.bel) (by omega)).mono ?_
      rintro _ w5 ⟨_, rfl, q5, c5, rfl, o5, b5⟩
      have h5 := h4.below b5
      refine ⟨_, _, _, rfl, (c_MWrite h5.ti h5.bel.size (i := 2) (o := at_) o5.rd o5.le (by omega) (Apt.new h4.ti fun a ha => (o5.lt ha).2)).mono ?_⟩
      rintro _ w6 ⟨_, rfl, rfl, Q6, h6, g6⟩
      refine ⟨_, rfl, ?_⟩
      -- what was written
      obtain ⟨wt, n6, kI, eW, hbadgood, hn6, hwt⟩ : ∃ wt n6 kI, writeM (FS wg db) n4 2 at_ xs = ((FS wt db, n6), kI) ∧ (((at_ < 0 ∨ ((wg.length : Nat) : Int) < at_) ∧ wt = wg ∧ kI = -1) ∨
          ∃ o k : Nat, at_ = (o : Int) ∧ o ≤ wg.length ∧ kI = (k : Int) ∧ k ≤ x.2.1 ∧ (k < x.2.1 → o + k = 262144) ∧ wt = wrB wg o (xs.take k)) ∧ n6 + blkN wt.length + blkN db.length = 198 ∧ wt.length ≤ 262144 := by
        by_cases hbad : at_ < 0 ∨ ((wg.length : Nat) : Int) < at_
        · exact ⟨wg, n4, -1, FS_bad hbad, .inl ⟨hbad, rfl, rfl⟩, h4.nn, hw4⟩
        · obtain ⟨o, rfl⟩ : ∃ o : Nat, at_ = (o : Int) := ⟨at_.toNat, by omega⟩
          have ho : o ≤ wg.length := by omega
          have hu : ∀ z, blkN z = (z + 4095) / 4096 := fun z => rfl
          have hnn := h4.nn
          have hkE : wrN (fileND wg) n4 o xs.length = min xs.length (262144 - o) := by
            unfold wrN
            show min (min xs.length (262144 - o)) ((blkN wg.length + n4) * 4096 - o) = _
            simp only [hu] at hnn ⊢
            omega
          have eW := FS_write2 (da := wg) (db := db) (n := n4) (o := o) (xs := xs) ho
          rw [hkE] at eW
          have htk : (xs.take (min xs.length (262144 - o))).length = min xs.length (262144 - o) := by rw [List.length_take]; omega
          refine ⟨_, _, _, eW, .inr ⟨o, min xs.length (262144 - o), rfl, ho, rfl, by omega, by omega, rfl⟩, ?_, ?_⟩
          · rw [wrB_len ho, htk]
            simp only [hu] at hnn ⊢
            omega
          · rw [wrB_len ho, htk]
            omega
      rw [eW] at h6
      rw [eW]
      have H6 : LI t r mb hb w w6 Q6 n6 wt db q c wg := h5.aft h6 g6 hn6 hwt
      refine (c_MLook H6.ti 3).mono ?_
      rintro _ w7 ⟨_, rfl, b7, lb, lc, lw, rfl, _, _⟩
      have h7 := H6.below b7
      refine ⟨_, rfl, _, look_size3 _ _ _ _, _, bsl6, newCvt fun a8 w8 k8 l8 b8 => ?_⟩
      have h8 := h7.below b8
      have hrb : Rd 1 w8 (some ⟨a8, 0, none⟩) 6 (bv besB) := ⟨rfl, fun e => (by cases e), fun a ha => by cases ha; exact row_whole k8⟩
      obtain ⟨n9, eB, hn9⟩ := wr3 hn6 hwt (by omega)
      refine (c_MWrite h8.ti h8.bel.size (i := 3) (o := ((db.length : Nat) : Int)) hrb (Nat.le_refl 6) (by omega) (Apt.new h7.ti fun a ha => by cases ha; exact l8)).mono ?_
      rintro _ w9 ⟨_, rfl, rfl, Q9, h9, g9⟩
      rw [eB] at h9
      have H9 : LI t r mb hb w w9 Q9 n9 wt (db ++ besB) q c wg := h8.aft h9 g9 hn9 hwt
      have hdb9 : (db ++ besB).length ≤ 6 * (i + 1) := by
        rw [List.length_append]
        show db.length + 6 ≤ _
        omega
      refine ⟨_, rfl, fun t' W => t' = (decide (at_ < 0 ∨ ((wg.length : Nat) : Int) < at_), ()) ∧ w9 = W, ?_, ?_⟩
      rotate_left
      · refine c_dec (fun h => ⟨_, ?_, rfl, rfl⟩) (fun h => ⟨_, ?_, rfl, rfl⟩)
        · rw [decide_eq_true (.inl h)]; rfl
        · have : decide (at_ > ((wg.length : Nat) : Int)) = decide (at_ < 0 ∨ ((wg.length : Nat) : Int) < at_) := by
            rw [decide_eq_decide]
            exact ⟨fun h => .inr h, fun hh => by omega⟩
          rw [this]; rfl
      rintro _ _ _ ⟨rfl, rfl⟩
      rcases hbadgood with ⟨hbad, rfl, rfl⟩ | ⟨o, k, rfl, ho, rfl, hk, hkl, rfl⟩
      · refine c_dec (fun _ => c_ne (fun h => absurd rfl h) (fun _ => ?_)) (fun h => absurd hbad h)
        refine ⟨((q, wt.length, c), ((i + 1 : Nat) : Int), ()), by (try dsimp only); rw [step1 hlt6N (by omega)]; rfl, ⟨q, c, wt, db ++ besB, Q9, n9, i + 1, rfl, hlt6N, hltN, hdb9, H9⟩, ?_⟩
        show 60 - (((i + 1 : Nat) : Int)).toNat < 60 - (i : Int).toNat
        omega
      · refine c_dec (fun h => by omega) (fun _ => ?_)
        refine ⟨fun _ W => w9 = W, ?_, ?_⟩
        rotate_left
        · refine c_dec (fun h => by omega) (fun _ => rd_sl (hy.below H9.bel) hltN fun x' hxi' => ?_)
          rw [hxi] at hxi'
          cases hxi'
          refine c_dec (fun h => by omega) (fun _ => rd_sl (hy.below H9.bel) hltN fun x' hxi' => ?_)
          rw [hxi] at hxi'
          cases hxi'
          refine c_dec (fun h => ?_) (fun _ => ⟨(), rfl, rfl⟩)
          have hE := hkl (by have : ((k : Nat) : Int) < ((x.2.1 : Nat) : Int) := h; omega)
          rw [wrap_in (by omega) (by omega)]
          exact c_ne (fun hne => absurd (show (o : Int) + (k : Int) = 262144 by omega) hne) (fun _ => ⟨(), rfl, rfl⟩)
        rintro _ _ _ rfl
        -- the bytes are copied
        refine ⟨fun t' W => ∃ (q : Option Addr) (c j : Nat), t' = ((q, (wrB wg o (xs.take j)).length, c), (j : Int), ()) ∧ j ≤ k ∧ LI t r mb hb w W Q9 n9 (wrB wg o (xs.take k)) (db ++ besB) q c (wrB wg o (xs.take j)), fun t' _ => k - t'.2.1.toNat,
          ⟨((q, wg.length, c), ((0 : Nat) : Int), ()), rfl, q, c, 0, by rw [List.take_zero, wrB_nil], Nat.zero_le _, by rw [List.take_zero, wrB_nil]; exact H9⟩, ?_⟩
        rintro _ _ w10 ⟨q10, c10, j, rfl, hj, h10⟩
        refine c_dec (fun hjk => ?_) (fun hjk => ?_)
        · have hjkN : j < k := by
            have : (j : Int) < ((k : Nat) : Int) := hjk
            omega
          have ltk : (xs.take j).length = j := by rw [List.length_take]; omega
          have elen : (wrB wg o (xs.take j)).length = max wg.length (o + j) := by rw [wrB_len ho, ltk]
          have eoj : IntKind.i64.wrap (((o : Nat) : Int) + ((j : Nat) : Int)) = ((o + j : Nat) : Int) := by rw [wrap_in (by omega) (by omega)]; omega
          dsimp only
          rw [eoj]
          refine c_dec (fun hin => ?_) (fun hout => ?_)
          · have hin : o + j < (wrB wg o (xs.take j)).length := by
              have : ((o + j : Nat) : Int) < (((wrB wg o (xs.take j)).length : Nat) : Int) := hin
              omega
            have hinw : o + j < wg.length := by omega
            refine rd_sl (hy.below h10.bel) hltN fun x' hxi' => ?_
            rw [hxi] at hxi'
            cases hxi'
            refine rd_byte (hxs.below h10.bel) (by omega) fun b hb' => ?_
            have hq10 : ∃ a, q10 = some a := by
              cases q10 with
              | none =>
                have := h10.ow.rd.nil rfl
                omega
              | some a => exact ⟨a, rfl⟩
            obtain ⟨a10, rfl⟩ := hq10
            refine nl ⟨⟨by omega, by omega⟩, ?_⟩
            rw [Int.toNat_natCast]
            refine h10.ow.set1 hin (fun a' w11 ha' o11 m11 s11 => ?_) rfl
            cases ha'
            have hnt := h10.apt _ rfl
            rw [bv_set, wrB_setN ho hb' hinw] at o11
            have el2 : (wrB wg o (xs.take j)).length = (wrB wg o (xs.take (j + 1))).length := by
              rw [elen, wrB_len ho]
              have : (xs.take (j + 1)).length = j + 1 := by rw [List.length_take]; omega
              omega
            rw [el2] at o11 ⊢
            refine ⟨((some a10, (wrB wg o (xs.take (j + 1))).length, c10), ((j + 1 : Nat) : Int), ()), by (try dsimp only); rw [step1 hjkN (by omega)]; rfl, ⟨_, _, j + 1, rfl, hjkN, ⟨h10.ti.mod m11 hnt, h10.nn, h10.wl, o11, h10.apt, h10.bel.trans (m11.below h10.bel.size (h10.ow.lt rfl).2)⟩⟩, ?_⟩
            show k - (((j + 1 : Nat) : Int)).toNat < k - (j : Int).toNat
            omega
          · have hout : ¬ o + j < (wrB wg o (xs.take j)).length := by
              have : ¬ ((o + j : Nat) : Int) < (((wrB wg o (xs.take j)).length : Nat) : Int) := hout
              omega
            refine rd_sl (hy.below h10.bel) hltN fun x' hxi' => ?_
            rw [hxi] at hxi'
            cases hxi'
            refine rd_byte (hxs.below h10.bel) (by omega) fun b hb' => ?_
            refine h10.ow.push h10.bel.size kBs kB rfl (by decide) (fun u hu => by simp [Value.cells] at hu; rw [hu]; rfl) (by omega) (by unfold maxLen; omega) fun q' c' w11 o11 b11 gr => ?_
            obtain ⟨k11, ap11⟩ := h10.ti.grew gr h10.apt
            have ebv : bv (wrB wg o (xs.take j)) ++ (Value.int .u8 ((b.toNat : Nat) : Int)).cells.toList = bv (wrB wg o (xs.take (j + 1))) := by
              rw [← wrB_app ho hb' (by omega), bv_app]; rfl
            have el2 : (wrB wg o (xs.take j)).length + 1 = (wrB wg o (xs.take (j + 1))).length := by
              rw [← wrB_app ho hb' (by omega), List.length_append]; rfl
            rw [ebv, el2] at o11
            rw [el2]
            refine ⟨((q', (wrB wg o (xs.take (j + 1))).length, c'), ((j + 1 : Nat) : Int), ()), by (try dsimp only); rw [step1 hjkN (by omega)]; rfl, ⟨_, _, j + 1, rfl, hjkN, ⟨k11, h10.nn, h10.wl, o11, ap11, h10.bel.trans b11⟩⟩, ?_⟩
            show k - (((j + 1 : Nat) : Int)).toNat < k - (j : Int).toNat
            omega
        · have hjk : j = k := by
            have : ¬ (j : Int) < ((k : Nat) : Int) := hjk
            omega
          subst hjk
          refine ⟨((q10, (wrB wg o (xs.take j)).length, c10), ((i + 1 : Nat) : Int), ()), by (try dsimp only); rw [step1 hlt6N (by omega)]; rfl, ⟨q10, c10, _, db ++ besB, Q9, n9, i + 1, rfl, hlt6N, hltN, hdb9, h10⟩, ?_⟩
          show 60 - (((i + 1 : Nat) : Int)).toNat < 60 - (i : Int).toNat
          omega
end Go.Proofs.YthkcdkldpbndnaaDoor
