/- The state that a law is handed, made whole; no condition. -/
import Derived.Test.YthihjppjollekaaFh
set_option linter.unusedVariables false
namespace Go.Proofs.Ythihjppjollekaa
open Go.RowKit Go.Hx

/-- The slots that a law is handed. -/
def SlotsAt (w : World) (x : Option Addr) (n : Nat) : Prop := ∀ i, i < n → ∃ a, x = some a ∧ a.block < w.heap.size ∧ ∃ (at_ : Int) (p : Pr), RowAt w (a.add (i * 8)) (#[.int .i64 at_] ++ p.a)
theorem SlotsAt.below {w w' : World} {x : Option Addr} {n : Nat} (h : SlotsAt w x n) (hb : Below w.heap.size w w') : SlotsAt w' x n := fun i hi => by
  obtain ⟨a, h1, h2, at_, p, h3⟩ := h i hi
  exact ⟨a, h1, Nat.lt_of_lt_of_le h2 hb.size, at_, p, row_below hb (by rw [add_block]; exact h2) h3⟩
set_option maxRecDepth 100000 in
theorem bld31n (n : Int) : bldP Try.prog 31 [(1, .int .i64 n)] (.agg (Tab.enc ⟨fun _ => Pr.zero, n⟩)) := fun w => by kernel_rfl
theorem row_proc {w : World} {a : Addr} {at_ : Int} {p : Pr} (h : RowAt w a (#[.int .i64 at_] ++ p.a)) : RowAt w (a.add 1) p.a := fun j v hv => by
  have hj := (Array.getElem?_eq_some_iff.1 hv).1
  have h1 := h (1 + j) v (by rw [Array.getElem?_append_right (by simp)]; simpa using hv)
  have e : (a.add 1).add j = a.add (1 + j) := Deep.add_add a 1 j
  rw [e]; exact h1
theorem c11 {x : Option Addr} {n c : Nat} {next : Int} {w : World} (hs : SlotsAt w x n) (hn : n ≤ maxLen) : Calls Try.prog 11 #[.agg #[.slice x n c, .int .i64 next]] w (Ret fun v w' => ∃ t : Tab, v = .agg t.enc ∧ Below w.heap.size w w') := by
  refine W11_ok _ w _ ?_
  refine newW_intro fun a1 w1 k1 l1 b1 => newW_intro fun a2 w2 k2 l2 b2 => ?_
  have z1 := b1.size
  have z2 := b2.size
  have y1 := k1.lt
  have y2 := k2.lt
  refine ⟨next, by simp only [Addr.add_lit, Nat.zero_add]; exact (below_blk b2 y1 k1).cell rfl, _, bld31n next, keepT fun a5 w3 k3 l3 b3 => ?_⟩
  have z3 := b3.size
  have b03 := b1.trans ((b2.mono z1).trans (b3.mono (by omega)))
  have hmax : (maxLen : Int) ≤ 9223372036854775807 := by decide
  refine ⟨fun y w4 => ∃ (i : Nat) (t : Tab), y = ((i : Int), ()) ∧ i ≤ n ∧ TabAt 31 w4 a5 t ∧ Blk w4 a1 #[.slice x n c, .int .i64 next] 24 ∧ Blk w4 a2 (zc Try.prog 31) 31 ∧ Below w.heap.size w w4, fun y _ => ((n : Int) - y.1).toNat,
    ⟨(0, ()), rfl, 0, _, rfl, by omega, k3, below_blk b3 (by omega) (below_blk b2 y1 k1), below_blk b3 y2 k2, b03⟩, ?_⟩
  rintro _ y w4 ⟨i, t, rfl, hi, q5, q1, q2, b4⟩
  dsimp only
  have z4 := b4.size
  have y5 := tab_lt q5
  refine ⟨x, n, c, q1.cell rfl, c_dec (fun hl => ?_) (fun hg => ?_)⟩
  · have hi' : i < n := by omega
    have nx : IntKind.i64.wrap ((i : Int) + 1) = ((i + 1 : Nat) : Int) := by rw [wrap_in (by omega) (by omega)]; omega
    have hs4 := hs.below b4
    obtain ⟨a, rfl, ha, at_, p, hr⟩ := hs i hi'
    have hrow : ∀ w', Below w.heap.size w w' → RowAt w' (a.add (i * 8)) (#[.int .i64 at_] ++ p.a) := fun w' hb => row_below hb (by rw [add_block]; exact ha) hr
    have hcell : ∀ w', Below w.heap.size w w' → w'.cell? (a.add (i * 8)) = some (.int .i64 at_) := fun w' hb => by
      have := hrow w' hb 0 _ (by rw [Array.getElem?_append_left (by simp)]; rfl)
      rw [Deep.add_add] at this
      exact this
    have go : ∀ (t' : Tab) (w5 : World), TabAt 31 w5 a5 t' → Blk w5 a1 #[.slice (some a) n c, .int .i64 next] 24 → Blk w5 a2 (zc Try.prog 31) 31 → Below w.heap.size w w5 →
        ∃ t'' : Int × Unit, ([.int .i64 (IntKind.i64.wrap ((i : Int) + (1 : Int)))] : List Value) = tv [(4, .int .i64)] t'' ∧ (∃ (i : Nat) (t : Tab), t'' = ((i : Int), ()) ∧ i ≤ n ∧ TabAt 31 w5 a5 t ∧ Blk w5 a1 #[.slice (some a) n c, .int .i64 next] 24 ∧ Blk w5 a2 (zc Try.prog 31) 31 ∧ Below w.heap.size w w5) ∧ ((n : Int) - t''.1).toNat < ((n : Int) - (i : Int)).toNat :=
      fun t' w5 h1 h2 h3 h4 => ⟨(((i + 1 : Nat) : Int), ()), by rw [nx]; rfl, ⟨i + 1, t', rfl, by omega, h1, h2, h3, h4⟩, by dsimp only; omega⟩
    refine ⟨fun x w5 => x = (decide (0 ≤ at_ ∧ at_ < 64), ()) ∧ w5 = w4, ?_, ?_⟩
    · rintro _ _ w5 ⟨rfl, rfl⟩
      refine c_dec (fun hat => ?_) (fun _ => go t _ q5 q1 q2 b4)
      refine ⟨fun w' => Blk w' a1 #[.slice (some a) n c, .int .i64 next] 24 ∧ Below w.heap.size w w', ⟨q1, b4.drew⟩, _, _, _, fun w' q => q.1.cell rfl, ⟨by omega, by omega⟩, at_, fun w' q => by rw [Int.toNat_natCast]; exact hcell w' q.2, _, _, _, fun w' q => q.1.cell rfl, ⟨by omega, by omega⟩, p.a, rfl, fun w' q => by rw [Int.toNat_natCast]; exact row_proc (hrow w' q.2), ⟨by omega, by omega⟩, ?_⟩
      simp only [Addr.add_lit, Nat.zero_add]
      refine tab_stA (w := w5.drew) (show TabAt 31 w5.drew a5 t from q5) (by omega) p fun w6 h6 m6 s6 => ?_
      have h16 := m6.blk (blk_ne (show Blk w5.drew a1 _ 24 from q1) (show Blk w5.drew a5 _ 31 from q5) (by decide)) (show Blk w5.drew a1 _ 24 from q1)
      have b6 := b4.trans (m6.undrew.below z4 (by omega))
      exact ⟨⟨h16, b6⟩, go _ _ h6 h16 (m6.blk (by omega) (show Blk w5.drew a2 _ 31 from q2)) b6⟩
    · refine ⟨_, _, _, q1.cell rfl, ⟨by omega, by omega⟩, at_, by rw [Int.toNat_natCast]; exact hcell _ b4, c_dec (fun h0 => ⟨_, _, _, q1.cell rfl, ⟨by omega, by omega⟩, at_, by rw [Int.toNat_natCast]; exact hcell _ b4, (decide (at_ < 64), ()), rfl, ?_, rfl⟩) (fun h0 => ⟨(false, ()), rfl, ?_, rfl⟩)⟩
      · congr 1; rw [Bool.eq_iff_iff]; simp; omega
      · congr 1; symm; simp; omega
  · refine ⟨t.enc, enc_size t, row_whole q5, stA_intro (o := 0) q2 (enc_size t) (by rw [zc31]; omega) (one_tab t) fun w6 k6 m6 s6 => ?_⟩
    rw [ovw_all (by rw [zc31, enc_size])] at k6
    exact ⟨_, enc_size t, row_whole k6, t, rfl, b4.trans (m6.below z4 (by omega))⟩
end Go.Proofs.Ythihjppjollekaa
