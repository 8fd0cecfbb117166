/- asm.Program and the document's Program give the same program. No condition. -/
import Derived.Test.YtceciiemnagdoaaPa
set_option linter.unusedVariables false
namespace Go.Proofs.Ytceciiemnagdoaa
open Go.RowKit Go.Hx
/-- Reads that are taken first: these cells. -/
def S3 (e i : Nat) (ce ci : Array Value) (te ti : TypeId) (w : World) : Prop := Blk w e ce te ∧ Blk w i ci ti
theorem S3.below {e i : Nat} {ce ci : Array Value} {te ti : TypeId} {w w' : World} (h : S3 e i ce ci te ti w) (hb : Below w.heap.size w w') : S3 e i ce ci te ti w' := ⟨below_blk hb h.1.lt h.1, below_blk hb h.2.lt h.2⟩
section
variable {cb : Option Addr} {cl cc : Nat} {db : Option Addr} {dl dc : Nat} {at_ bss n en : Int} {sb : Option Addr} {sl sc : Nat} {xs ys : List UInt8} {w : World}
theorem zero31 : (#[Value.int .u64 0, .slice none 0 0] : Array Value).size = 2 := rfl
theorem len_pos (k : Nat) : (((k : Nat) : Int) > 0) ↔ k > 0 := by omega
theorem wrap_len {k : Nat} (h : k ≤ 140737488351232) : IntKind.u64.wrap ((k : Nat) : Int) = ((k : Nat) : Int) := by
  unfold IntKind.wrap
  simp only [IntKind.bits, IntKind.signed]
  simp
  omega
theorem one2 (a : Int) (q : Option Addr) (k c : Nat) : ∀ u ∈ (#[Value.int .u64 a, .slice q k c] : Array Value).toList, one u = true := by
  intro u hu; simp at hu; rcases hu with rfl | rfl <;> rfl
theorem ovw2 (v0 v1 a b : Value) : ovw #[v0, v1] 0 [a, b] = #[a, b] := rfl
/-- The end of both: the list is handed back. -/
theorem prog_end {N : Nat} {e r : Nat} {l : List SegS} {q : Option Addr} {c : Nat} {vs : List Value} {w : World} {z : Array Value} (h : Way N w e en l q c vs) (hr : Blk w r z 31) (hz : z.size = 2) (hN : N ≤ r) (hl : l.length ≤ 2) (hNw : N ≤ w.heap.size) {Q : Value → World → Prop}
    (hQ : ∀ w', ElfAt N w' #[.int .u64 en, .slice q l.length c] en l → Below N w w' → Q (.agg #[.int .u64 en, .slice q l.length c]) w') :
    ∃ g : Array Value, g.size = 2 ∧ RowAt w ⟨e, 0, none⟩ g ∧ stA 2 ⟨r, 0, none⟩ g w fun w => ∃ g : Array Value, g.size = 2 ∧ RowAt w ⟨r, 0, none⟩ g ∧ Q (.agg g) w := by
  refine ⟨_, rfl, row_whole h.blk, stW_intro (hc := hz) hr fun w1 k1 m1 s1 => ?_⟩
  exact ⟨_, rfl, row_whole k1, hQ w1 ⟨q, c, vs, rfl, (h.own.rdT.up (UpT.of_mod m1 hr (by decide))), h.segs.keep (UpT.of_mod m1 hr (by decide)), hl⟩ (m1.below hNw hN)⟩
/-- What a program's maker hands back. -/
def PQ (w : World) (en : Int) (l : List SegS) : Value → World → Prop := fun v w' => ∃ g, v = .agg g ∧ ElfAt w.heap.size w' g en l ∧ Below w.heap.size w w'

/-- The first segment. -/
def seg1 (xs : List UInt8) : List SegS := if xs.length > 0 then [⟨0, 5, xs, ((xs.length : Nat) : Int)⟩] else []
theorem seg1_len (xs : List UInt8) : (seg1 xs).length ≤ 1 := by unfold seg1; split <;> simp
theorem prog_eq (hc : xs.length ≤ 140737488351232) : progS xs ys at_ bss n = seg1 xs ++ (if memP at_ bss n > 0 then [⟨at_, 6, ys, memP at_ bss n⟩] else []) := by
  unfold progS seg1
  rw [wrap_len hc]
theorem ne_Ei : (31 : TypeId) ≠ 38 := by decide
theorem ne_Ii : (27 : TypeId) ≠ 38 := by decide
/-- Behind the first segment: what both have. -/
structure Half (N : Nat) (w : World) (i r e : Nat) (img : Array Value) (en : Int) (xs : List UInt8) : Prop where
  way : ∃ (q : Option Addr) (c : Nat) (vs : List Value), Way N w e en (seg1 xs) q c vs
  img : Blk w i img 27
  res : Blk w r #[.int .u64 0, .slice none 0 0] 31
  er : e ≠ r
  lr : N ≤ r
/-- The beginning of both. -/
theorem prog_begin (img : Array Value) (he : img[5]? = some (.int .u64 en)) {K : Addr → Addr → Addr → World → Prop}
    (hK : ∀ i r e w', Blk w' i img 27 → Blk w' r #[.int .u64 0, .slice none 0 0] 31 → e ≠ r → w.heap.size ≤ r → Way w.heap.size w' e en [] none 0 [] → Below w.heap.size w w' → K ⟨i, 0, none⟩ ⟨r, 0, none⟩ ⟨e, 0, none⟩ w') :
    newW img 27 w fun a1 w => newW #[.int .u64 0, .slice none 0 0] 31 w fun a2 w => ∃ n3 : Int, w.cell? (a1.add 5) = some (.int .u64 n3) ∧ ∃ g4 : Array Value, bldP Try.prog 31 [(0, .int .u64 n3)] (.agg g4) ∧
      newW #[.int .u64 0, .slice none 0 0] 31 w fun a5 w => stA 2 a5 g4 w fun w => K a1 a2 a5 w := by
  refine newW_intro fun i w1 k1 l1 b1 => newW_intro fun r w2 k2 l2 b2 => ?_
  have z1 := b1.size
  have z2 := b2.size
  have i1 : i < w1.heap.size := k1.lt
  have i2 := below_blk b2 i1 k1
  have r2 := k2.lt
  refine ⟨en, by rw [Addr.add_lit]; exact i2.cell he, _, bld31 en, newW_intro fun e w3 k3 l3 b3 => ?_⟩
  have z3 := b3.size
  refine stW_intro k3 fun w4 k4 m4 s4 => ?_
  have b14 : Below w.heap.size w w4 := (b1.trans ((b2.mono z1).trans (b3.mono (by omega)))).trans (m4.below (by omega) (by omega))
  exact hK i r e w4 (m4.blk (by omega) (below_blk b3 (by omega) i2)) (m4.blk (by omega) (below_blk b3 r2 k2)) (by omega) (by omega) ⟨by omega, k4, Ow.nil _ _ _ _, rfl⟩ b14

theorem c_asmProg (hx : Rd 1 w cb cl (bv xs)) (hy : Rd 1 w db dl (bv ys)) (hc : cl ≤ 140737488351232) (hd : dl ≤ 140737488351232) :
    Calls Try.prog 12 #[.agg (imgC cb cl cc db dl dc at_ bss n en sb sl sc)] w (Ret (PQ w en (progS xs ys at_ bss n))) := by
  have lx : xs.length = cl := by have := hx.len; rw [bv_length, Nat.mul_one] at this; exact this
  have ly : ys.length = dl := by have := hy.len; rw [bv_length, Nat.mul_one] at this; exact this
  refine W12_ok _ w _ (prog_begin _ rfl fun i r e w4 i4 r4 er ri way4 b4 => ?_)
  refine ⟨fun _ w' => Half w.heap.size w' i r e (imgC cb cl cc db dl dc at_ bss n en sb sl sc) en xs ∧ Below w.heap.size w w', ?_, ?_⟩
  · rintro _ _ w5 ⟨⟨⟨q, c, vs, way5⟩, i5, r5, _, _⟩, b5⟩
    have z5 := b5.size
    refine ⟨bss, by rw [Addr.add_lit]; exact i5.cell rfl, n, by rw [Addr.add_lit]; exact i5.cell rfl, at_, by rw [Addr.add_lit]; exact i5.cell rfl, c_dec (fun hm => ?_) (fun hm => ?_)⟩
    · have hm' : memP at_ bss n > 0 := hm
      refine ⟨at_, by rw [Addr.add_lit]; exact i5.cell rfl, _, bldSeg2 _ _, newW_intro fun m w6 k6 l6 b6 => ?_⟩
      have z6 := b6.size
      refine stW_intro k6 fun w7 k7 m7 s7 => ?_
      have k7 : Blk w7 m #[Value.int .u64 at_, .int .u32 6, .slice none 0 0, .int .u64 (memP at_ bss n)] 38 := k7
      have b57 : Below w5.heap.size w5 w7 := b6.trans (m7.below z6 l6)
      have b7 : Below w.heap.size w w7 := b5.trans (b57.mono z5)
      have i7 := below_blk b57 i5.lt i5
      have r7 := below_blk b57 r5.lt r5
      have way7 := way5.below b57
      refine ⟨fun _ w' => ∃ (dq : Option Addr) (c' : Nat), Blk w' m #[.int .u64 at_, .int .u32 6, .slice dq dl c', .int .u64 (memP at_ bss n)] 38 ∧ RdT 5 1 w.heap.size w' dq dl (bv ys) ∧ Way w.heap.size w' e en (seg1 xs) q c vs ∧ Blk w' r #[.int .u64 0, .slice none 0 0] 31 ∧ Below w.heap.size w w', ?_, ?_⟩
      · rintro _ _ w8 ⟨dq, c', k8, d8, way8, r8, b8⟩
        refine ⟨q, _, c, by rw [Addr.add_lit]; exact way8.blk.cell rfl, _, rfl, row_whole k8, _, bsl1 kSegs kSeg rfl (by decide), newW_intro fun a w9 k9 l9 b9 => ?_⟩
        have z8 := b8.size
        have z9 := b9.size
        rw [show ((⟨e, 0, none⟩ : Addr).add 1) = ⟨e, 1, none⟩ from by rw [Addr.add_lit]]
        refine (way8.below b9).push (s := ⟨at_, 6, ys, memP at_ bss n⟩) (by omega) (seg1_len _) k9 ⟨dq, dl, c', rfl, d8.up (UpT.of_below b9), by unfold maxLen; omega⟩ (fun a' ha => by have := (way8.own.lt ha).1; omega) fun w10 q' c'' vs' way10 b10 o10 => ?_
        refine prog_end (Q := PQ w en (progS xs ys at_ bss n)) way10 (o10 r _ _ (below_blk b9 r8.lt r8) ne_Ei er.symm) rfl ri (by have := seg1_len xs; simp; omega) (by have := b10.size; omega) fun w11 h11 b11 => ?_
        refine ⟨_, rfl, ?_, ((b8.trans (b9.mono z8)).trans b10).trans b11⟩
        rw [prog_eq (by omega), if_pos hm']
        exact h11
      · refine ⟨db, dl, dc, by rw [Addr.add_lit]; exact i7.cell rfl, c_dec (fun h0 => ?_) (fun h0 => ?_)⟩
        · refine ⟨db, dl, dc, by rw [Addr.add_lit]; exact i7.cell rfl, ?_⟩
          have z7 := b7.size
          refine (c_Clone (hy.below b7) hd).mono ?_
          rintro ed w8 ⟨v, rfl, dq, c', rfl, d8, b8⟩
          refine ⟨dq, dl, c', rfl, ?_⟩
          rw [show ((⟨m, 0, none⟩ : Addr).add 2) = ⟨m, 2, none⟩ from by rw [Addr.add_lit]]
          have z8 := b8.size
          refine stC_intro (below_blk b8 k7.lt k7) (by simp) fun w9 k9 m9 s9 => ?_
          refine ⟨(), rfl, dq, c', k9, (d8.mono z7).up (UpT.of_mod m9 (below_blk b8 k7.lt k7) (by decide)), ?_, m9.blk (fun h => by subst h; exact absurd (r7.ty k7) (by decide)) (below_blk b8 r7.lt r7), (b7.trans (b8.mono z7)).trans (m9.below (by omega) (by omega))⟩
          have way8 := way7.below b8
          refine ⟨way8.low, m9.blk (fun h => by subst h; exact absurd (way7.blk.ty k7) (by decide)) way8.blk, way8.own.keep fun a ha => m9.block _ (way8.own.lt ha).1 (fun h => ?_), way8.segs.keep (UpT.of_mod m9 (below_blk b8 k7.lt k7) (by decide))⟩
          have := (way5.own.lt ha).1
          omega
        · have hd0 : dl = 0 := by omega
          subst hd0
          have : ys = [] := List.length_eq_zero_iff.1 ly
          subst this
          exact ⟨(), rfl, none, 0, k7, RdT.none _ _ _ _, way7, r7, b7⟩
    · have hm' : ¬ memP at_ bss n > 0 := hm
      refine prog_end (Q := PQ w en (progS xs ys at_ bss n)) way5 r5 rfl ri (by have := seg1_len xs; omega) z5 fun w6 h6 b6 => ⟨_, rfl, ?_, b5.trans b6⟩
      rw [prog_eq (by omega), if_neg hm', List.append_nil]
      exact h6
  · have z4 := b4.size
    refine ⟨cb, cl, cc, i4.cell rfl, c_dec (fun h0 => ?_) (fun h0 => ?_)⟩
    · refine ⟨S3 e i _ _ _ _, ⟨way4.blk, i4⟩, none, 0, 0, fun w' h => by rw [Addr.add_lit]; exact h.1.cell rfl, cb, cl, cc, fun w' h => h.2.cell rfl, cb, cl, cc, fun w' h => h.2.cell rfl, ?_⟩
      refine (c_Clone (w := w4.drew) ((hx.below b4).drew) hc).mono ?_
      rintro ed w5 ⟨v, rfl, q, c', rfl, d5, b5⟩
      have b5 : Below w4.heap.size w4 w5 := undrew b5
      have z5 := b5.size
      refine ⟨q, cl, c', rfl, _, fun w' h => h, (S3.below ⟨way4.blk, i4⟩ b5), _, bldSeg1 _ _ _ _, _, bsl1 kSegs kSeg rfl (by decide), newW_intro fun a w6 k6 l6 b6 => ⟨_, fun w' h => h, S3.below (S3.below ⟨way4.blk, i4⟩ b5) b6, ?_⟩⟩
      have b46 : Below w4.heap.size w4 w6 := b5.trans (b6.mono z5)
      have z6 := b46.size
      rw [wrap_len hc] at k6
      rw [show ((⟨e, 0, none⟩ : Addr).add 1) = ⟨e, 1, none⟩ from by rw [Addr.add_lit]]
      refine (way4.below b46).push (s := ⟨0, 5, xs, ((cl : Nat) : Int)⟩) (by omega) (by simp) k6 ⟨q, cl, c', rfl, (d5.mono (show w.heap.size ≤ w4.drew.heap.size from z4)).up (UpT.of_below b6), by unfold maxLen; omega⟩ (fun a' ha => by cases ha) fun w7 q' c'' vs' way7 b7 o7 => ?_
      have b47 : Below w.heap.size w w7 := (b4.trans (b46.mono z4)).trans b7
      refine ⟨(), rfl, ⟨⟨q', c'', vs', ?_⟩, o7 i _ _ (below_blk b46 i4.lt i4) ne_Ii (fun h => by subst h; exact absurd (way4.blk.ty i4) (by decide)), o7 r _ _ (below_blk b46 r4.lt r4) ne_Ei er.symm, er, ri⟩, b47⟩
      have e1 : seg1 xs = [⟨0, 5, xs, ((cl : Nat) : Int)⟩] := by unfold seg1; rw [if_pos (by omega), lx]
      rw [e1]
      exact way7
    · refine ⟨(), rfl, ⟨⟨none, 0, [], ?_⟩, i4, r4, er, ri⟩, b4⟩
      have e1 : seg1 xs = [] := by unfold seg1; rw [if_neg (by omega)]
      rw [e1]
      exact way4
theorem c_refProg (hx : Rd 1 w cb cl (bv xs)) (hy : Rd 1 w db dl (bv ys)) (hc : cl ≤ 140737488351232) (hd : dl ≤ 140737488351232) :
    Calls Try.prog 13 #[.agg (imgC cb cl cc db dl dc at_ bss n en sb sl sc)] w (Ret (PQ w en (progS xs ys at_ bss n))) := by
  have lx : xs.length = cl := by have := hx.len; rw [bv_length, Nat.mul_one] at this; exact this
  have ly : ys.length = dl := by have := hy.len; rw [bv_length, Nat.mul_one] at this; exact this
  refine W13_ok _ w _ (prog_begin _ rfl fun i r e w4 i4 r4 er ri way4 b4 => ?_)
  refine ⟨fun _ w' => Half w.heap.size w' i r e (imgC cb cl cc db dl dc at_ bss n en sb sl sc) en xs ∧ Below w.heap.size w w', ?_, ?_⟩
  · rintro _ _ w5 ⟨⟨⟨q, c, vs, way5⟩, i5, r5, _, _⟩, b5⟩
    have z5 := b5.size
    refine ⟨bss, by rw [Addr.add_lit]; exact i5.cell rfl, n, by rw [Addr.add_lit]; exact i5.cell rfl, at_, by rw [Addr.add_lit]; exact i5.cell rfl, c_dec (fun hm => ?_) (fun hm => ?_)⟩
    · have hm' : memP at_ bss n > 0 := hm
      refine ⟨S3 e i _ _ _ _, ⟨way5.blk, i5⟩, q, _, c, fun w' h => by rw [Addr.add_lit]; exact h.1.cell rfl, at_, fun w' h => by rw [Addr.add_lit]; exact h.2.cell rfl, db, dl, dc, fun w' h => by rw [Addr.add_lit]; exact h.2.cell rfl, ?_⟩
      refine (c_copied (w := w5.drew) ((hy.below b5).drew) hd).mono ?_
      rintro ed w6 ⟨v, rfl, dq, c', rfl, d6, b6⟩
      have b6 : Below w5.heap.size w5 w6 := undrew b6
      have z6 := b6.size
      refine ⟨dq, dl, c', rfl, _, fun w' h => h, (S3.below ⟨way5.blk, i5⟩ b6), _, bldSeg3 _ _ _ _ _, _, bsl1 kSegs kSeg rfl (by decide), newW_intro fun a w7 k7 l7 b7 => ⟨_, fun w' h => h, S3.below (S3.below ⟨way5.blk, i5⟩ b6) b7, ?_⟩⟩
      have b57 : Below w5.heap.size w5 w7 := b6.trans (b7.mono z6)
      have z7 := b57.size
      rw [show ((⟨e, 0, none⟩ : Addr).add 1) = ⟨e, 1, none⟩ from by rw [Addr.add_lit]]
      refine (way5.below b57).push (s := ⟨at_, 6, ys, memP at_ bss n⟩) (by omega) (seg1_len _) k7 ⟨dq, dl, c', rfl, (d6.mono (show w.heap.size ≤ w5.drew.heap.size from z5)).up (UpT.of_below b7), by unfold maxLen; omega⟩ (fun a' ha => by have := (way5.own.lt ha).1; omega) fun w8 q' c'' vs' way8 b8 o8 => ?_
      refine prog_end (Q := PQ w en (progS xs ys at_ bss n)) way8 (o8 r _ _ (below_blk b57 r5.lt r5) ne_Ei er.symm) rfl ri (by have := seg1_len xs; simp; omega) (by have := b8.size; omega) fun w9 h9 b9 => ?_
      refine ⟨_, rfl, ?_, ((b5.trans (b57.mono z5)).trans b8).trans b9⟩
      rw [prog_eq (by omega), if_pos hm']
      exact h9
    · have hm' : ¬ memP at_ bss n > 0 := hm
      refine prog_end (Q := PQ w en (progS xs ys at_ bss n)) way5 r5 rfl ri (by have := seg1_len xs; omega) z5 fun w6 h6 b6 => ⟨_, rfl, ?_, b5.trans b6⟩
      rw [prog_eq (by omega), if_neg hm', List.append_nil]
      exact h6
  · have z4 := b4.size
    refine ⟨cb, cl, cc, i4.cell rfl, c_dec (fun h0 => ?_) (fun h0 => ?_)⟩
    · refine ⟨S3 e i _ _ _ _, ⟨way4.blk, i4⟩, none, 0, 0, fun w' h => by rw [Addr.add_lit]; exact h.1.cell rfl, cb, cl, cc, fun w' h => h.2.cell rfl, cb, cl, cc, fun w' h => h.2.cell rfl, ?_⟩
      refine (c_copied (w := w4.drew) ((hx.below b4).drew) hc).mono ?_
      rintro ed w5 ⟨v, rfl, q, c', rfl, d5, b5⟩
      have b5 : Below w4.heap.size w4 w5 := undrew b5
      have z5 := b5.size
      refine ⟨q, cl, c', rfl, _, fun w' h => h, (S3.below ⟨way4.blk, i4⟩ b5), _, bldSeg1 _ _ _ _, _, bsl1 kSegs kSeg rfl (by decide), newW_intro fun a w6 k6 l6 b6 => ⟨_, fun w' h => h, S3.below (S3.below ⟨way4.blk, i4⟩ b5) b6, ?_⟩⟩
      have b46 : Below w4.heap.size w4 w6 := b5.trans (b6.mono z5)
      have z6 := b46.size
      rw [wrap_len hc] at k6
      rw [show ((⟨e, 0, none⟩ : Addr).add 1) = ⟨e, 1, none⟩ from by rw [Addr.add_lit]]
      refine (way4.below b46).push (s := ⟨0, 5, xs, ((cl : Nat) : Int)⟩) (by omega) (by simp) k6 ⟨q, cl, c', rfl, (d5.mono (show w.heap.size ≤ w4.drew.heap.size from z4)).up (UpT.of_below b6), by unfold maxLen; omega⟩ (fun a' ha => by cases ha) fun w7 q' c'' vs' way7 b7 o7 => ?_
      have b47 : Below w.heap.size w w7 := (b4.trans (b46.mono z4)).trans b7
      refine ⟨(), rfl, ⟨⟨q', c'', vs', ?_⟩, o7 i _ _ (below_blk b46 i4.lt i4) ne_Ii (fun h => by subst h; exact absurd (way4.blk.ty i4) (by decide)), o7 r _ _ (below_blk b46 r4.lt r4) ne_Ei er.symm, er, ri⟩, b47⟩
      have e1 : seg1 xs = [⟨0, 5, xs, ((cl : Nat) : Int)⟩] := by unfold seg1; rw [if_pos (by omega), lx]
      rw [e1]
      exact way7
    · refine ⟨(), rfl, ⟨⟨none, 0, [], ?_⟩, i4, r4, er, ri⟩, b4⟩
      have e1 : seg1 xs = [] := by unfold seg1; rw [if_neg (by omega)]
      rw [e1]
      exact way4
end
end Go.Proofs.Ytceciiemnagdoaa
