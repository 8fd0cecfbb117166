/- The law TreeRoom, walked. No condition. -/
import Derived.Test.YthkcdkldpbndnaaDoorVo
import Derived.Test.YthkcdkldpbndnaaDoorVh
set_option linter.unusedVariables false
namespace Go.Proofs.YthkcdkldpbndnaaDoor
open Go.RowKit Go.Hx Go.WideShapes
theorem VT.does_fr {M : List ND} (vt : VT M 0) {n : Nat} {k cwd ino ty ma mi off : Int} {path xs : List UInt8} : (doesM M n k cwd ino path ty ma mi off xs).2 + frM (doesM M n k cwd ino path ty ma mi off xs).1 = n + frM M := by
  unfold doesM
  by_cases e2 : k = 2
  · rw [if_pos e2]; exact vt.make_fr _ _ _ _ _ _
  rw [if_neg e2]
  by_cases e3 : k = 3
  · rw [if_pos e3]; exact vt.link_fr _ _ _ _
  rw [if_neg e3]
  by_cases e4 : k = 4
  · rw [if_pos e4]; exact vt.unlink_fr _ _ _
  rw [if_neg e4]
  by_cases e6 : k = 6
  · rw [if_pos e6]; exact vt.write_fr _ _ _ _
  rw [if_neg e6]
  by_cases e7 : k = 7
  · rw [if_pos e7]; exact vt.trunc_fr _ _
  rw [if_neg e7]
  by_cases e8 : k = 8
  · rw [if_pos e8]
    show n + frM (holdM M ino).1 = _
    rw [vt.hold_fr]
  rw [if_neg e8]
  by_cases e9 : k = 9
  · rw [if_pos e9]; exact vt.drop_fr _ _
  rw [if_neg e9]
theorem frM0 : frM M0 = 1 := by
  have h1 := frM_set (M := List.replicate 200 ndZ) (i := 1) (y := rootND) (by rw [List.length_replicate]) (by decide)
  have h2 : frM (List.replicate 200 ndZ) = 0 := sumN_all0 fun k => by rw [nd_rep]; rfl
  have h3 : blkN (nd (List.replicate 200 ndZ) 1).size = 0 := by rw [nd_rep]; rfl
  have h4 : blkN rootND.size = 1 := by
    rw [dirsz (show rootND.typ = 1 from rfl)]
    show blkN 32 = 1
    rfl
  have e : M0 = (List.replicate 200 ndZ).set 1 rootND := rfl
  rw [e]
  omega
/-- The tree in the course of TreeRoom. -/
structure TRS (t r mb hb F : Nat) (w W : World) (Q : List SH) (M : List ND) (n : Nat) : Prop where
  ti : TI w.heap.size t r mb hb F [] Q W M n
  vt : VT M 0
  fr : n + frM M = F - 2 + 1
  bel : Below w.heap.size w W
section
variable {t r mb hb F : Nat} {w W W' : World} {Q : List SH} {M : List ND} {n : Nat}
theorem TRS.below (h : TRS t r mb hb F w W Q M n) (b : Below W.heap.size W W') : TRS t r mb hb F w W' Q M n := ⟨h.ti.below b, h.vt, h.fr, h.bel.trans (b.mono h.bel.size)⟩
theorem c_rsUnlink (h : TRS t r mb hb F w W Q M n) (d : Nat) (nm : List UInt8) : Calls Tryd.prog 50 #[rp t, .int .i64 (d : Int), .string (str nm)] W
    (Ret fun v W' => (∃ c, v = .int .i64 c) ∧ ∃ Q' n', TRS t r mb hb F w W' Q' (unlinkM M n (d : Int) nm).1.1 n' ∧ TrG t r mb hb Q Q' W W') := by
  refine (c_MUnlink h.ti (d : Int) nm h.vt.hv).mono ?_
  rintro _ w2 ⟨_, rfl, rfl, Q', h2, g2⟩
  exact ⟨_, rfl, ⟨_, rfl⟩, Q', _, ⟨h2, h.vt.unlink _ _ _ h2.ok, by have := h.vt.unlink_fr n (d : Int) nm; have := h.fr; omega, h.bel.trans (g2.bel h.ti h.bel.size)⟩, g2⟩
theorem c_rsDrop (h : TRS t r mb hb F w W Q M n) (i : Nat) : Calls Tryd.prog 53 #[rp t, .int .i64 (i : Int)] W
    (Ret fun v W' => v = .int .i64 (dropM M n (i : Int)).2 ∧ ∃ Q' n', TRS t r mb hb F w W' Q' (dropM M n (i : Int)).1.1 n') := by
  refine (c_MDrop h.ti (i : Int)).mono ?_
  rintro _ w2 ⟨_, rfl, rfl, Q', h2, g2⟩
  exact ⟨_, rfl, rfl, Q', _, ⟨h2, h.vt.drop _ _ h2.ok (drop_ok h.ti _), by have := h.vt.drop_fr n (i : Int); have := h.fr; omega, h.bel.trans (g2.bel h.ti h.bel.size)⟩⟩
/-- What lies from B to C is as it was, and the tree does not lie there. -/
def Win (t r mb hb : Nat) (B C : Nat) (W0 : World) (Q : List SH) (W : World) : Prop := C ≤ W.heap.size ∧ ∀ k, B ≤ k → k < C → ¬ TS t r mb hb Q k ∧ W.heap[k]? = W0.heap[k]?
theorem Win.below {B C : Nat} {W0 : World} (h : Win t r mb hb B C W0 Q W) (b : Below W.heap.size W W') : Win t r mb hb B C W0 Q W' :=
  ⟨Nat.le_trans h.1 b.size, fun k h1 h2 => ⟨(h.2 k h1 h2).1, (b.block k (by have := h.1; omega)).trans (h.2 k h1 h2).2⟩⟩
theorem Win.aft {B C : Nat} {W0 : World} {Q' : List SH} (h : Win t r mb hb B C W0 Q W) (g : TrG t r mb hb Q Q' W W') : Win t r mb hb B C W0 Q' W' :=
  ⟨Nat.le_trans h.1 g.1.size, fun k h1 h2 => by
    obtain ⟨a, b⟩ := h.2 k h1 h2
    have hk : k < W.heap.size := by have := h.1; omega
    refine ⟨fun hs => ?_, (g.1.block k hk a).trans b⟩
    rcases g.2 k hs with h3 | h3
    · exact a h3
    · omega⟩
theorem CenAt.win {B C : Nat} {W0 : World} {M0 : List ND} {V : Array Value} (h : CenAt W0 M0 V) (o : Own9 B C V) (hw : ∀ k, B ≤ k → k < C → W.heap[k]? = W0.heap[k]?) : CenAt W M0 V := ⟨h.size, h.one, h.look, fun i h1 h2 => by
  obtain ⟨q, c, e, l1, l2, rd⟩ := h.list i h1 h2
  exact ⟨q, c, e, l1, l2, rd.keep fun a ha _ => hw _ (o i q _ c a h1 h2 e ha).1 (o i q _ c a h1 h2 e ha).2⟩⟩
theorem drop_nd {M : List ND} (hM : M.length = 200) (n : Nat) {i : Nat} (hi : 1 ≤ i ∧ i < 200) (hr : 0 < (nd M i).refs) (hok : MOk M) : (dropM M n (i : Int)).2 = 0 ∧ (∀ j, j ≠ i → nd (dropM M n (i : Int)).1.1 j = nd M j) ∧ ((nd M i).dir = [] ∨ (nd M i).links ≠ 0 → (nd (dropM M n (i : Int)).1.1 i).dir = (nd M i).dir) ∧
    ((nd (dropM M n (i : Int)).1.1 i).refs = (nd M i).refs - 1) := by
  have ht : (nd M i).typ ≠ 0 := fun h0 => by
    rw [(hok.2 i).zero h0] at hr
    exact absurd hr (by decide)
  have hth : thereM M (i : Int) = true := by
    unfold thereM
    rw [Int.toNat_natCast, decide_eq_true (by omega : (0 : Int) < (i : Int)), decide_eq_true (by omega : (i : Int) < 200), decide_eq_true ht]; rfl
  unfold dropM
  rw [hth]
  rw [if_neg (by decide), Int.toNat_natCast, if_neg (by omega)]
  refine ⟨rfl, fun j hj => ?_, fun hd => ?_, ?_⟩
  · show nd (letM _ n i).1 j = _
    unfold letM
    split
    · rw [md_other (Ne.symm hj), md_other (Ne.symm hj)]
    · rw [md_other (Ne.symm hj)]
  · show (nd (letM _ n i).1 i).dir = _
    unfold letM
    split
    · rename_i hc
      rw [md_self (by omega)] at hc
      rw [md_self (by rw [List.length_set]; omega)]
      rcases hd with hd | hd
      · rw [hd]; rfl
      · exact absurd hc.1 hd
    · rw [md_self (by omega)]
  · show (nd (letM _ n i).1 i).refs = _
    unfold letM
    split
    · rename_i hc
      rw [md_self (by omega)] at hc
      rw [md_self (by rw [List.length_set]; omega)]
      exact hc.2.symm
    · rw [md_self (by omega)]
/-- Without entries and holders only the root is there. -/
theorem all_gone (vt : VT M 0) (hR : ∀ d, RM M d = []) (hr : ∀ j, 1 ≤ j → j < 200 → (nd M j).refs = 0) {j : Nat} (hj : j ≠ 1) : (nd M j).typ = 0 := Classical.byContradiction fun hn => by
  have hlt := vt.lt200 hn
  have hj0 := vt.ne0 hn
  have hc : cntN (RM M) j = 0 := sumN_all0 fun i => by rw [hR i]; rfl
  have hl : lkM M j = 0 := by
    by_cases ht : tyM M j = 1
    · have := vt.vp.one j ht hj
      rw [hc] at this
      exact Classical.byContradiction fun hl => by
        rw [if_neg hl] at this
        exact absurd this (by decide)
    · rw [vt.vp.file j hn ht, hc]; rfl
  have := vt.vp.held j hj hj0 hn hl
  have h2 : rfM M j = 0 := hr j (by omega) hlt
  omega
theorem left_198 (h : ∀ j, j ≠ 1 → (nd M j).typ = 0) (h1 : (nd M 1).typ ≠ 0) : leftM M 199 1 = 198 := by
  have g : ∀ n k, 1 < k → leftM M n k = n := by
    intro n
    induction n with
    | zero => intro k _; rfl
    | succ n ih =>
      intro k hk
      unfold leftM
      rw [ih (k + 1) (by omega), if_neg (by rw [h k (by omega)]; decide)]
      omega
  show leftM M (198 + 1) 1 = 198
  unfold leftM
  rw [g 198 2 (by decide), if_pos h1]
theorem fr_root (h : ∀ j, j ≠ 1 → (nd M j).typ = 0) (ok : MOk M) : frM M = blkN (nd M 1).size := by
  have := sumN_upd (f := fun j => blkN (nd M j).size) (g := fun _ => 0) (d := 1) (n := 200) (by decide) fun k hk => by
    rw [(ok.2 k).zero (h k hk)]; rfl
  rw [sumN_all0 fun _ => rfl] at this
  have this : frM M + 0 = 0 + blkN (nd M 1).size := this
  omega
end
set_option maxRecDepth 100000 in
theorem c_treeRoom {xb : Option Addr} {xl xc : Nat} {ops : List OpD} {x0 : Int} {w : World} (hx : Rd 10 w xb xl ((ops.map opCs).flatten)) (hl : ops.length = xl) (ho : ∀ (i : Nat) (o : OpD), ops[i]? = some o → Rd 1 w o.q o.l (bv o.xs) ∧ o.l ≤ o.c) :
    Calls Tryd.prog 11 #[.int .i64 x0, .slice xb xl xc] w (Ret fun v w' => v = .bool true ∧ Below w.heap.size w w') := by
  have hF := houseF_ok x0
  refine W11_ok _ _ _ _ w _ ⟨by decide, ?_⟩
  rw [houseF_eq]
  refine (c_house (F := houseF x0) (by omega) (by omega)).mono ?_
  rintro _ w1 ⟨_, rfl, t, r, mb, hb, Q, rfl, h1, b1⟩
  refine ⟨_, _, rfl, c_b (fun h => by cases h) (fun _ => (c_MCount h1).mono ?_)⟩
  rintro _ _ ⟨_, rfl, rfl, rfl⟩
  refine ⟨_, rfl, fun _ W => ∃ Q M n, TRS t r mb hb (houseF x0) w W Q M n, ?_, ?_⟩
  · rintro _ _ w2 ⟨Q2, M2, n2, s2⟩
    refine ⟨fun t' W => ∃ Q M n, t' = (false, ()) ∧ TRS t r mb hb (houseF x0) w W Q M n ∧ ∀ d, RM M d = [], ?_, ?_⟩
    · -- all are let go
      rintro _ _ w3 ⟨Q3, M3, n3, rfl, s3, hR3⟩
      refine ⟨fun t' W => ∃ (i : Nat) (Q : List SH) (M : List ND) (n : Nat), t' = ((i : Int), ()) ∧ 1 ≤ i ∧ i ≤ 200 ∧ TRS t r mb hb (houseF x0) w W Q M n ∧ (∀ d, RM M d = []) ∧ ∀ j, 1 ≤ j → j < i → (nd M j).refs = 0, fun t' _ => 200 - t'.1.toNat,
        ⟨(((1 : Nat) : Int), ()), rfl, 1, Q3, M3, n3, rfl, Nat.le_refl _, by decide, s3, hR3, fun j h1 h2 => by omega⟩, ?_⟩
      rintro _ _ w4 ⟨i, Q4, M4, n4, rfl, hi1, hi2, s4, hR4, hz4⟩
      refine c_dec (fun hlt => ?_) (fun hge => ?_)
      · have hlt : i < 200 := by
          have : (i : Int) < 200 := hlt
          omega
        refine (c_MLook s4.ti (i : Int)).mono ?_
        rintro _ w5 ⟨_, rfl, b5, lb, lc, ll, rfl, _, _⟩
        obtain ⟨_, _, l5, _, _⟩ := lookM_cell s4.vt ⟨hi1, hlt⟩ lb lc
        have hr0 := (s4.ti.ok.2 i).refs
        obtain ⟨k0, hk0⟩ : ∃ k : Nat, (nd M4 i).refs = (k : Int) := ⟨(nd M4 i).refs.toNat, by omega⟩
        refine ⟨_, rfl, _, l5, ?_⟩
        refine ⟨fun t' W => ∃ (k : Nat) (Q : List SH) (M : List ND) (n : Nat), t' = ((k : Int), ()) ∧ TRS t r mb hb (houseF x0) w W Q M n ∧ (∀ d, RM M d = []) ∧ (∀ j, 1 ≤ j → j < i → (nd M j).refs = 0) ∧ (nd M i).refs = (k : Int), fun t' _ => t'.1.toNat,
          ⟨((k0 : Int), ()), by rw [hk0]; rfl, k0, Q4, M4, n4, rfl, s4.below b5, hR4, hz4, hk0⟩, ?_⟩
        rintro _ _ w6 ⟨k, Q6, M6, n6, rfl, s6, hR6, hz6, hk6⟩
        refine c_dec (fun hgt => (c_rsDrop s6 i).mono ?_) (fun hngt => ?_)
        · have hgt : 0 < k := by
            have : (k : Int) > 0 := hgt
            omega
          rintro _ w7 ⟨_, rfl, rfl, Q7, n7, s7⟩
          have ok6 := s6.ti.ok
          obtain ⟨d1, d2, d3, d4⟩ := drop_nd ok6.1 n6 ⟨hi1, hlt⟩ (by omega) ok6
          rw [d1]
          refine ⟨_, rfl, c_ne (fun hne => absurd rfl hne) (fun _ => ⟨(((k - 1 : Nat) : Int), ()), ?_, ⟨k - 1, Q7, _, n7, rfl, s7, fun d => ?_, fun j h1 h2 => ?_, ?_⟩, ?_⟩)⟩
          · have hk9 : (k : Int) ≤ 2147483647 := by have := (ok6.2 i).refs; omega
            rw [wrap_in (by show -9223372036854775808 ≤ (k : Int) - 1; omega) (by show (k : Int) - 1 ≤ 9223372036854775807; omega)]
            rw [show (k : Int) - 1 = ((k - 1 : Nat) : Int) by omega]; rfl
          · by_cases e : d = i
            · subst e
              by_cases hld : (nd M6 d).dir = [] ∨ (nd M6 d).links ≠ 0
              · rw [RM_of (d3 hld)]; exact hR6 d
              · have hl0 : (nd M6 d).links = 0 := Classical.byContradiction fun hn => hld (.inr hn)
                have hd0 : (nd M6 d).dir = [] := by
                  by_cases ht : (nd M6 d).typ = 1
                  · exact s6.vt.dead d ht hl0
                  · exact (ok6.2 d).dir ht
                exact absurd (.inl hd0) hld
            · rw [RM_of (M := M6) (by rw [d2 d e])]; exact hR6 d
          · rw [d2 j (by omega)]; exact hz6 j h1 h2
          · rw [d4, hk6]; omega
          · show (((k - 1 : Nat) : Int)).toNat < ((k : Nat) : Int).toNat
            omega
        · have hk : k = 0 := by
            have : ¬ (k : Int) > 0 := hngt
            omega
          subst hk
          refine ⟨(((i + 1 : Nat) : Int), ()), by (try dsimp only); rw [step1 hlt (by omega)]; rfl, ⟨i + 1, Q6, M6, n6, rfl, by omega, hlt, s6, hR6, fun j h1 h2 => ?_⟩, ?_⟩
          · by_cases e : j = i
            · rw [e, hk6]; rfl
            · exact hz6 j h1 (by omega)
          · show 200 - (((i + 1 : Nat) : Int)).toNat < 200 - ((i : Nat) : Int).toNat
            omega
      · have hi : i = 200 := by
          have : ¬ (i : Int) < 200 := hge
          omega
        subst hi
        have hg := fun j (hj : j ≠ 1) => all_gone s4.vt hR4 hz4 hj
        have hroot : (nd M4 1).typ = 1 := s4.vt.vp.root.1
        refine c_nb (fun _ => (c_MLeft s4.ti).mono ?_) (fun h => absurd h (by decide))
        rintro _ _ ⟨_, rfl, rfl, rfl⟩
        rw [left_198 hg (by rw [hroot]; decide)]
        refine ⟨_, rfl, c_eq (fun _ => (c_MCount s4.ti).mono ?_) (fun hne => absurd rfl hne)⟩
        rintro _ _ ⟨_, rfl, rfl, rfl⟩
        refine ⟨_, rfl, (c_MLook s4.ti 1).mono ?_⟩
        rintro _ w5 ⟨_, rfl, b5, lb, lc, ll, rfl, _, _⟩
        obtain ⟨_, _, _, _, l7⟩ := lookM_cell s4.vt (i := 1) ⟨by decide, by decide⟩ lb lc
        refine ⟨_, rfl, _, _, _, l7, ?_, (s4.below b5).bel⟩
        have hfr := s4.fr
        rw [fr_root hg s4.ti.ok] at hfr
        have hF2 : houseF x0 ≤ 4096 := by omega
        rw [show IntKind.i64.wrap (((houseF x0 - 2 : Nat) : Int) + (1 : Int)) = ((houseF x0 - 2 : Nat) : Int) + 1 from wrap_in (by omega) (by omega), wrap_in (by omega) (by omega)]
        have : ((n4 : Nat) : Int) = ((houseF x0 - 2 : Nat) : Int) + 1 - ((blkN (nd M4 1).size : Nat) : Int) := by omega
        rw [this, beq_self_eq_true]
    · -- the rounds
      refine ⟨fun t' W => ∃ (ρ : Nat) (left : Bool) (Q : List SH) (M : List ND) (n : Nat), t' = (left, (ρ : Int), ()) ∧ ρ ≤ 200 ∧ TRS t r mb hb (houseF x0) w W Q M n ∧ (left = false → ∀ d, RM M d = []) ∧ (left = true → 1 ≤ ρ → NoF M ∧ tM M + ρ ≤ 199), fun t' _ => 200 - t'.2.1.toNat,
        ⟨(true, ((0 : Nat) : Int), ()), rfl, 0, true, Q2, M2, n2, rfl, Nat.zero_le _, s2, fun h => (by cases h), fun _ h => absurd h (by decide)⟩, ?_⟩
      rintro _ _ w3 ⟨ρ, left, Q3, M3, n3, rfl, hρ, s3, hl0, hl1⟩
      refine c_dec (fun hlt => ?_) (fun hge => ?_)
      rotate_left
      · have hρ2 : ρ = 200 := by
          have : ¬ (ρ : Int) < 200 := hge
          omega
        subst hρ2
        cases left with
        | false => exact ⟨_, rfl, Q3, M3, n3, rfl, s3, hl0 rfl⟩
        | true => have := (hl1 rfl (by decide)).2; omega
      have hρlt : ρ < 200 := by
        have : (ρ : Int) < 200 := hlt
        omega
      refine c_b (fun hleft => ?_) (fun hleft => ?_)
      rotate_left
      · have hleft : left = false := by simpa using hleft
        subst hleft
        exact ⟨_, rfl, Q3, M3, n3, rfl, s3, hl0 rfl⟩
      have hleft : left = true := hleft
      subst hleft
      refine (c_censusB s3.ti).mono ?_
      rintro _ w4 ⟨_, rfl, V, rfl, hV, hO, b4⟩
      have z4 := b4.size
      refine ⟨_, rfl, newW_intro fun a5 w5 k5 l5 b5 => stW_intro k5 (fun w6 k6 m6 s6 => ?_) hV.size cenZ_size (List.all_eq_true.2 hV.one)⟩
      have z5 := b5.size
      have b46 : Below w4.heap.size w4 w6 := b5.trans (m6.below z5 l5)
      have b36 := b4.trans (b46.mono z4)
      have hV6 := hV.below b46
      have z6 := b46.size
      have y6 := k6.lt
      have win6 : Win t r mb hb w3.heap.size w6.heap.size w6 Q3 w6 := ⟨Nat.le_refl _, fun k h1 h2 => ⟨fun hs => by have := s3.ti.lt k hs; omega, rfl⟩⟩
      -- what is known at the round's end
      refine ⟨fun t' W => ∃ (d : Nat) (lf : Bool) (Q : List SH) (M : List ND) (n : Nat), t' = (lf, (d : Int), ()) ∧ 1 ≤ d ∧ d ≤ 200 ∧ TRS t r mb hb (houseF x0) w W Q M n ∧ Win t r mb hb w3.heap.size w6.heap.size w6 Q W ∧ Rnd M3 M d 0 ∧ (lf = false → M = M3 ∧ ∀ d', d' < d → RM M3 d' = []) ∧ (lf = true → ∃ d' e, e ∈ RM M3 d'), fun t' _ => 200 - t'.2.1.toNat,
        ⟨(false, ((1 : Nat) : Int), ()), rfl, 1, false, Q3, M3, n3, rfl, Nat.le_refl _, by decide, s3.below b36, win6, Rnd.refl M3 s3.vt, fun _ => ⟨rfl, fun d' hd' => ?_⟩, fun h => (by cases h)⟩, ?_⟩
      · have : d' = 0 := by omega
        subst this
        exact s3.vt.vp.none 0 (.inl (by rw [s3.vt.vp.z]; decide))
      rintro _ _ w7 ⟨d, lf, Q7, M7, n7, rfl, hd1, hd2, s7, win7, rnd7, hf7, ht7⟩
      refine c_dec (fun hdlt => ?_) (fun hdge => ?_)
      rotate_left
      · have hd : d = 200 := by
          have : ¬ (d : Int) < 200 := hdge
          omega
        subst hd
        refine ⟨(lf, ((ρ + 1 : Nat) : Int), ()), by (try dsimp only); rw [step1 hρlt (by omega)]; rfl, ⟨ρ + 1, lf, Q7, M7, n7, rfl, hρlt, s7, fun hf => ?_, fun ht _ => ?_⟩, ?_⟩
        · obtain ⟨rfl, he⟩ := hf7 hf
          intro d
          rcases Nat.lt_or_ge d 200 with h1 | h1
          · exact he d h1
          · exact List.eq_nil_iff_forall_not_mem.2 fun e he => by have := s7.vt.vp.lt he; omega
        · have hno : NoF M7 := fun d' e he => (rnd7.fin s7.vt d' e he).1
          refine ⟨hno, ?_⟩
          have h198 := tM_198 s7.vt hno
          rcases Nat.eq_zero_or_pos ρ with h0 | h0
          · omega
          · obtain ⟨hn3, ht3⟩ := hl1 rfl h0
            obtain ⟨d', e, he⟩ := ht7 ht
            have := tM_less rnd7 s3.vt s7.vt hn3 he
            omega
        · show 200 - (((ρ + 1 : Nat) : Int)).toNat < 200 - ((ρ : Nat) : Int).toNat
          omega
      have hdlt : d < 200 := by
        have : (d : Int) < 200 := hdlt
        omega
      have hVw : CenAt w7 M3 V := CenAt.win hV6 (fun i q n c a h1 h2 hv ha => by have := hO i q n c a h1 h2 hv ha; exact ⟨this.1, by omega⟩ : Own9 w3.heap.size w6.heap.size V) fun k h1 h2 => (win7.2 k h1 h2).2
      have k7 : Blk w7 a5 V 144 := k6.keep (win7.2 a5 (by omega) y6).2
      refine ⟨V, hV.size, row_whole k7, (c_entries9B hVw (Below.refl _ _) s3.vt ⟨hd1, hdlt⟩).mono ?_⟩
      rintro _ w8 ⟨_, rfl, q, qc, rfl, hqc, hrd, hbk, b8⟩
      have hRl := s3.vt.RM_len d
      have hqw : ∀ a, q = some a → w3.heap.size ≤ a.block ∧ a.block < w6.heap.size := fun a ha => by
        obtain ⟨q0, n0, c0, b, hv, hq0, e⟩ := hbk a ha
        have := hO d q0 n0 c0 b hd1 hdlt hv hq0
        omega
      have hrd6 : Rd 2 w6 q (RM M3 d).length (dvs (RM M3 d)) := hrd.keep fun a ha _ => ((win7.2 _ (hqw a ha).1 (hqw a ha).2).2).symm
      refine ⟨_, _, _, _, _, rfl, c_nb (fun hf => absurd hf (by decide)) (fun _ => ?_)⟩
      refine ⟨fun t' W => ∃ (k : Nat) (lg : Bool) (Q : List SH) (M : List ND) (n : Nat), t' = (lg, (k : Int), ()) ∧ k ≤ (RM M3 d).length ∧ TRS t r mb hb (houseF x0) w W Q M n ∧ Win t r mb hb w3.heap.size w6.heap.size w6 Q W ∧ Rnd M3 M d k ∧ (lg = false → M = M3 ∧ k = 0 ∧ ∀ d', d' < d → RM M3 d' = []) ∧ (lg = true → ∃ d' e, e ∈ RM M3 d'), fun t' _ => (RM M3 d).length - t'.2.1.toNat,
        ⟨(lf, ((0 : Nat) : Int), ()), rfl, 0, lf, Q7, M7, n7, rfl, Nat.zero_le _, s7.below b8, win7.below b8, rnd7, fun hf => ⟨(hf7 hf).1, rfl, (hf7 hf).2⟩, ht7⟩, ?_⟩
      rintro _ _ w9 ⟨k, lg, Q9, M9, n9, rfl, hk, s9, win9, rnd9, hf9, ht9⟩
      refine c_dec (fun hklt => ?_) (fun hkge => ?_)
      · have hklt : k < (RM M3 d).length := by
          have : (k : Int) < (((RM M3 d).length : Nat) : Int) := hklt
          omega
        have hrd9 : Rd 2 w9 q (RM M3 d).length (dvs (RM M3 d)) := hrd6.keep fun a ha _ => (win9.2 _ (hqw a ha).1 (hqw a ha).2).2
        refine rd_ent hrd9 rfl hklt fun a e he _ hs => ⟨_, hs, (c_rsUnlink s9 d e.2).mono ?_⟩
        have hem := List.mem_of_getElem? he
        rintro _ w10 ⟨_, rfl, ⟨c, rfl⟩, Q10, n10, s10, g10⟩
        refine ⟨c, rfl, (true, ((k + 1 : Nat) : Int), ()), by (try dsimp only); rw [step1 hklt (by omega)]; rfl, ⟨k + 1, true, Q10, _, n10, rfl, hklt, s10, win9.aft g10, rnd9.step s9.vt he (s3.vt.nmx hem) rfl s10.vt, fun hf => (by cases hf), fun _ => ⟨d, e, hem⟩⟩, ?_⟩
        show (RM M3 d).length - (((k + 1 : Nat) : Int)).toNat < (RM M3 d).length - ((k : Nat) : Int).toNat
        omega
      · have hkl : k = (RM M3 d).length := by
          have : ¬ (k : Int) < (((RM M3 d).length : Nat) : Int) := hkge
          omega
        refine ⟨(lg, ((d + 1 : Nat) : Int), ()), by (try dsimp only); rw [step1 hdlt (by omega)]; rfl, ⟨d + 1, lg, Q9, M9, n9, rfl, by omega, hdlt, s9, win9, rnd9.next (by omega), fun hf => ?_, ht9⟩, ?_⟩
        · obtain ⟨e1, e2, e3⟩ := hf9 hf
          refine ⟨e1, fun d' hd' => ?_⟩
          rcases Nat.lt_or_ge d' d with h1 | h1
          · exact e3 d' h1
          · have : d' = d := by omega
            subst this
            exact List.length_eq_zero_iff.1 (by omega)
        · show 200 - (((d + 1 : Nat) : Int)).toNat < 200 - ((d : Nat) : Int).toNat
          omega
  · refine ⟨fun t' W => ∃ (i : Nat) (Q : List SH) (M : List ND) (n : Nat), t' = ((i : Int), ()) ∧ i ≤ 400 ∧ TRS t r mb hb (houseF x0) w W Q M n, fun t' _ => 400 - t'.1.toNat,
      ⟨(((0 : Nat) : Int), ()), rfl, 0, Q, M0, _, rfl, Nat.zero_le _, ⟨h1, VT0, by rw [frM0], b1⟩⟩, ?_⟩
    rintro _ _ w2 ⟨i, Q2, M2, n2, rfl, hi, s2⟩
    have b2 := s2.bel
    have done : ∃ u : Unit, ([] : List Value) = tv [] u ∧ (fun (_ : Unit) (W : World) => ∃ Q M n, TRS t r mb hb (houseF x0) w W Q M n) u w2 := ⟨(), rfl, Q2, M2, n2, s2⟩
    refine c_dec (fun hlt => c_dec (fun hlt4 => ?_) (fun _ => done)) (fun _ => done)
    have hltN : i < xl := by
      have : (i : Int) < ((xl : Nat) : Int) := hlt
      omega
    have hltM : i < 400 := by
      have : (i : Int) < 400 := hlt4
      omega
    refine rd_flat opCs_len (hx.below b2) hl hltN fun a o _ hoo hr => ⟨_, rfl, by rw [Int.toNat_natCast]; exact hr, (c_cheap o w2).mono ?_⟩
    rintro _ w3 ⟨_, rfl, rfl, b3⟩
    have s3 := s2.below b3
    have b03 := s3.bel
    refine ⟨_, rfl, c_dec (fun hch => ?_) (fun _ => ?_)⟩
    · refine rd_flat opCs_len (hx.below b03) hl hltN fun a' o' _ hoo' hr' => ⟨_, rfl, by rw [Int.toNat_natCast]; exact hr', ?_⟩
      rw [hoo] at hoo'
      cases hoo'
      refine (c_step s3.ti b03.size s3.vt o ((ho i o hoo).1.below b03) hch.1).mono ?_
      rintro _ w4 ⟨_, rfl, rfl, Q4, M4, n4, hst, h4, v4, g4⟩
      have hfr := s3.vt.does_fr (n := n2) (k := o.k) (cwd := o.cwd) (ino := o.ino) (ty := o.ty) (ma := o.ma) (mi := o.mi) (off := o.off) (path := o.path) (xs := o.xs)
      have hst : (M4, n4) = doesM M2 n2 o.k o.cwd o.ino o.path o.ty o.ma o.mi o.off o.xs := hst
      rw [← hst] at hfr
      have hfr : n4 + frM M4 = n2 + frM M2 := hfr
      refine ⟨rfl, (((i + 1 : Nat) : Int), ()), by (try dsimp only); rw [step1 hltM (by omega)]; rfl, ⟨i + 1, Q4, M4, n4, rfl, hltM, ⟨h4, v4, by have := s3.fr; omega, b03.trans (g4.bel s3.ti b03.size)⟩⟩, ?_⟩
      show 400 - (((i + 1 : Nat) : Int)).toNat < 400 - ((i : Nat) : Int).toNat
      omega
    · refine ⟨(((i + 1 : Nat) : Int), ()), by (try dsimp only); rw [step1 hltM (by omega)]; rfl, ⟨i + 1, Q2, M2, n2, rfl, hltM, s3⟩, ?_⟩
      show 400 - (((i + 1 : Nat) : Int)).toNat < 400 - ((i : Nat) : Int).toNat
      omega
end Go.Proofs.YthkcdkldpbndnaaDoor
