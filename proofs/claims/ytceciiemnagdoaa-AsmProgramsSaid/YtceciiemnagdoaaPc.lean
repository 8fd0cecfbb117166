/- The law AsmPrograms, walked. No condition. -/
import Derived.Test.YtceciiemnagdoaaPb
set_option linter.unusedVariables false
namespace Go.Proofs.Ytceciiemnagdoaa
open Go.RowKit Go.Hx
theorem takeS_snoc {l : List SegS} {i : Nat} {s : SegS} (h : l[i]? = some s) : l.take (i + 1) = l.take i ++ [s] := by
  rw [List.take_add_one, h]; rfl
theorem SegAt.cells {N : Nat} {w : World} {vs : List Value} {s : SegS} (h : SegAt N w vs s) : ∃ (q : Option Addr) (n c : Nat), vs = [.int .u64 s.va, .int .u32 s.fl, .slice q n c, .int .u64 s.mem] ∧ Rd 1 w q n (bv s.data) ∧ n ≤ maxLen := by
  obtain ⟨q, n, c, h1, h2, h3⟩ := h
  exact ⟨q, n, c, h1, h2.1, h3⟩
/-- The comparison of two segments, laid in blocks of their own. -/
theorem same_tail {w : World} {a b : Nat} {x y : SegS} {xq yq : Option Addr} {xn xc yn yc : Nat} (ha : Blk w a #[.int .u64 x.va, .int .u32 x.fl, .slice xq xn xc, .int .u64 x.mem] 38) (hb : Blk w b #[.int .u64 y.va, .int .u32 y.fl, .slice yq yn yc, .int .u64 y.mem] 38)
    (hx : Rd 1 w xq xn (bv x.data)) (hy : Rd 1 w yq yn (bv y.data)) (hm : xn ≤ maxLen) {No Yes : World → Prop} (h1 : x ≠ y → No w) (h2 : ∀ w', Below w.heap.size w w' → x ≠ y → No w') (h3 : ∀ w', Below w.heap.size w w' → x = y → Yes w') :
    ∃ n24 : Int, w.cell? ⟨a, 0, none⟩ = some (.int .u64 n24) ∧ ∃ n25 : Int, w.cell? ⟨b, 0, none⟩ = some (.int .u64 n25) ∧
      cond (n24 != n25) (No w) (∃ n26 : Int, w.cell? ((⟨a, 0, none⟩ : Addr).add 1) = some (.int .u32 n26) ∧ ∃ n27 : Int, w.cell? ((⟨b, 0, none⟩ : Addr).add 1) = some (.int .u32 n27) ∧
        cond (n26 != n27) (No w) (∃ n28 : Int, w.cell? ((⟨a, 0, none⟩ : Addr).add 3) = some (.int .u64 n28) ∧ ∃ n29 : Int, w.cell? ((⟨b, 0, none⟩ : Addr).add 3) = some (.int .u64 n29) ∧
          cond (n28 != n29) (No w) (∃ (q30b : Option Addr) (q30l q30c : Nat), w.cell? ((⟨a, 0, none⟩ : Addr).add 2) = some (.slice q30b q30l q30c) ∧ ∃ (q31b : Option Addr) (q31l q31c : Nat), w.cell? ((⟨b, 0, none⟩ : Addr).add 2) = some (.slice q31b q31l q31c) ∧
            Calls Try.prog 19 #[.slice q30b q30l q30c, .slice q31b q31l q31c] w fun e w => ∃ b32 : Bool, e = .returned (.bool b32) ∧ cond (!b32) (No w) (Yes w)))) := by
  refine ⟨_, ha.cell rfl, _, hb.cell rfl, c_ne (fun h => h1 fun e => h (by rw [e])) (fun e1 => ?_)⟩
  refine ⟨_, by rw [Addr.add_lit]; exact ha.cell rfl, _, by rw [Addr.add_lit]; exact hb.cell rfl, c_ne (fun h => h1 fun e => h (by rw [e])) (fun e2 => ?_)⟩
  refine ⟨_, by rw [Addr.add_lit]; exact ha.cell rfl, _, by rw [Addr.add_lit]; exact hb.cell rfl, c_ne (fun h => h1 fun e => h (by rw [e])) (fun e3 => ?_)⟩
  refine ⟨_, _, _, by rw [Addr.add_lit]; exact ha.cell rfl, _, _, _, by rw [Addr.add_lit]; exact hb.cell rfl, ?_⟩
  refine (c_Bytes hx hy hm).mono ?_
  rintro e w' ⟨v, rfl, rfl, bel⟩
  refine ⟨_, rfl, ?_⟩
  by_cases hd : x.data = y.data
  · rw [decide_eq_true hd]
    exact h3 w' bel (by cases x; cases y; simp_all)
  · rw [decide_eq_false hd]
    exact h2 w' bel fun e => hd (by rw [e])
theorem c_sameElf {N M : Nat} {g h : Array Value} {en em : Int} {l m : List SegS} {w : World} (hg : ElfAt N w g en l) (hh : ElfAt M w h em m) :
    Calls Try.prog 14 #[.agg g, .agg h] w (Ret fun v w' => v = .bool (decide (en = em ∧ l = m)) ∧ Below w.heap.size w w') := by
  obtain ⟨q, c, vs, rfl, rd, sg, hl⟩ := hg
  obtain ⟨q', c', vs', rfl, rd', sg', hl'⟩ := hh
  refine W14_ok _ _ w _ (newW_intro fun a w1 k1 l1 b1 => newW_intro fun b w2 k2 l2 b2 => ?_)
  have z1 := b1.size
  have z2 := b2.size
  have k1 : Blk w2 a #[.int .u64 en, .slice q l.length c] 31 := below_blk b2 k1.lt k1
  have k2 : Blk w2 b #[.int .u64 em, .slice q' m.length c'] 31 := k2
  have b12 := b1.trans (b2.mono z1)
  refine ⟨en, k1.cell rfl, em, k2.cell rfl, c_ne (fun hne => ⟨by rw [decide_eq_false fun e => hne e.1], b12⟩) (fun e1 => ?_)⟩
  refine ⟨q, l.length, c, by rw [Addr.add_lit]; exact k1.cell rfl, q', m.length, c', by rw [Addr.add_lit]; exact k2.cell rfl, c_ne (fun hne => ⟨by rw [decide_eq_false fun e => hne (by rw [e.2])], b12⟩) (fun e2 => ?_)⟩
  have e2 : l.length = m.length := by omega
  refine ⟨fun t w' => ∃ i : Nat, t = ((i : Int), ()) ∧ i ≤ l.length ∧ l.take i = m.take i ∧ Below w2.heap.size w2 w', fun t _ => l.length - t.1.toNat, ⟨(((0 : Nat) : Int), ()), rfl, 0, rfl, Nat.zero_le _, by simp, Below.refl _ _⟩, ?_⟩
  rintro _ _ w3 ⟨i, rfl, hi, he, b3⟩
  have k13 := below_blk b3 k1.lt k1
  have k23 := below_blk b3 k2.lt k2
  refine ⟨q, l.length, c, by rw [Addr.add_lit]; exact k13.cell rfl, c_dec (fun hlt => ?_) (fun hge => ?_)⟩
  · have hlt : i < l.length := by simpa using hlt
    have hsx : l[i]? = some (l[i]'hlt) := List.getElem?_eq_getElem hlt
    have hsy : m[i]? = some (m[i]'(by omega)) := List.getElem?_eq_getElem (by omega)
    generalize l[i]'hlt = x at hsx
    generalize m[i]'(by omega) = y at hsy
    have B : Below w.heap.size w w3.drew := (b12.trans (b3.mono (by omega))).trans (below_drew _ _)
    have rd3 : RdT 38 4 N w3.drew q l.length vs := rd.up (UpT.of_below B)
    have rd3' : RdT 38 4 M w3.drew q' m.length vs' := rd'.up (UpT.of_below B)
    have sx := (sg.keep (UpT.of_below B)).get hsx
    have sy := (sg'.keep (UpT.of_below B)).get hsy
    obtain ⟨xq, xn, xc, ex, rx, mx⟩ := sx.cells
    obtain ⟨yq, yn, yc, ey, ry, my⟩ := sy.cells
    -- the reads of the region hold wherever what was there stays
    refine ⟨fun w' => Below w3.drew.heap.size w3.drew w', Below.refl _ _, q, l.length, c, fun w' hb => by rw [Addr.add_lit]; exact (below_blk hb k13.lt k13.drew).cell rfl, ?_⟩
    refine rd3.1.atK hlt fun ax hqx rx4 ex4 => ?_
    rw [ex] at rx4 ex4
    refine ⟨#[.int .u64 x.va, .int .u32 x.fl, .slice xq xn xc, .int .u64 x.mem], rfl, fun w' hb => ?_, q', m.length, c', fun w' hb => by rw [Addr.add_lit]; exact (below_blk hb k23.lt k23.drew).cell rfl, ?_⟩
    · show RowAt w' (ax.add (i * 4)) _
      exact rx4.keep (hb.block _ (rx4.lt (by simp)))
    refine rd3'.1.atK (by omega) fun ay hqy ry4 ey4 => ?_
    rw [ey] at ry4 ey4
    refine ⟨#[.int .u64 y.va, .int .u32 y.fl, .slice yq yn yc, .int .u64 y.mem], rfl, fun w' hb => ?_, ?_⟩
    · show RowAt w' (ay.add (i * 4)) _
      exact ry4.keep (hb.block _ (ry4.lt (by simp)))
    have fin1 : ∀ w', Below w3.drew.heap.size w3.drew w' → x ≠ y → (Value.bool false = .bool (decide (en = em ∧ l = m)) ∧ Below w.heap.size w w') := fun w' hb hxy => ⟨by
      rw [decide_eq_false]
      rintro ⟨_, rfl⟩
      rw [hsx] at hsy
      exact hxy (Option.some.inj hsy), B.trans (hb.mono (by have := b3.size; show w.heap.size ≤ w3.heap.size; omega))⟩
    have fin2 : ∀ w', Below w3.drew.heap.size w3.drew w' → x = y → ∃ t' : Int × Unit, ([.int .i64 (IntKind.i64.wrap ((i : Int) + (1 : Int)))] : List Value) = tv [(5, .int .i64)] t' ∧
        (fun (t : Int × Unit) w' => ∃ i : Nat, t = ((i : Int), ()) ∧ i ≤ l.length ∧ l.take i = m.take i ∧ Below w2.heap.size w2 w') t' w' ∧ (fun (t : Int × Unit) (_ : World) => l.length - t.1.toNat) t' w' < (fun (t : Int × Unit) (_ : World) => l.length - t.1.toNat) ((i : Int), ()) w3 := fun w' hb hxy => by
      refine ⟨(((i + 1 : Nat) : Int), ()), by (try dsimp only); rw [step1 hlt (by omega)]; rfl, ⟨i + 1, rfl, hlt, ?_, (b3.trans (below_drew _ _)).trans (hb.mono b3.size)⟩, ?_⟩
      · subst hxy; rw [takeS_snoc hsx, takeS_snoc hsy, he]
      · show l.length - (((i + 1 : Nat) : Int)).toNat < l.length - (i : Int).toNat
        omega
    constructor
    · refine newW_intro fun a4 w4 k4 l4 b4 => ⟨_, fun w' h => h, b4, newW_intro fun a5 w5 k5 l5 b5 => ?_⟩
      have z4 := b4.size
      have z5 := b5.size
      have b45 := b4.trans (b5.mono z4)
      refine ⟨_, fun w' h => h, b45, stW_intro (below_blk b5 k4.lt k4) fun w6 k6 m6 s6 => ?_⟩
      have b6 := b45.trans (m6.below (by omega) l4)
      refine ⟨_, fun w' h => h, b6, stW_intro (m6.blk (by have := k4.lt; omega) k5) fun w7 k7 m7 s7 => ?_⟩
      have b7 := b6.trans (m7.below (by omega) (by omega))
      have k67 := m7.blk (c := a4) (by have := k4.lt; omega) k6
      exact same_tail (x := x) (y := y) k67 k7 (rx.below b7) (ry.below b7) mx (fun h => fin1 _ b7 h) (fun w' hb h => fin1 _ (b7.trans (hb.mono b7.size)) h) (fun w' hb h => fin2 _ (b7.trans (hb.mono b7.size)) h)
    · refine newW_intro fun a4 w4 k4 l4 b4 => ⟨_, fun w' h => h, b4, newW_intro fun a5 w5 k5 l5 b5 => ?_⟩
      have z4 := b4.size
      have z5 := b5.size
      have b45 := b4.trans (b5.mono z4)
      refine ⟨_, fun w' h => h, b45, stW_intro k5 fun w6 k6 m6 s6 => ?_⟩
      have b6 := b45.trans (m6.below (by omega) (by omega))
      have k46 := m6.blk (c := a4) (by have := k4.lt; omega) (below_blk b5 k4.lt k4)
      refine ⟨_, fun w' h => h, b6, stW_intro k46 fun w7 k7 m7 s7 => ?_⟩
      have b7 := b6.trans (m7.below (by omega) l4)
      have k57 := m7.blk (c := a5) (by have := k4.lt; omega) k6
      exact same_tail (x := x) (y := y) k57 k7 (rx.below b7) (ry.below b7) mx (fun h => fin1 _ b7 h) (fun w' hb h => fin1 _ (b7.trans (hb.mono b7.size)) h) (fun w' hb h => fin2 _ (b7.trans (hb.mono b7.size)) h)
  · have hge : ¬ i < l.length := by simpa using hge
    refine ⟨?_, b12.trans (b3.mono (by omega))⟩
    rw [List.take_of_length_le (by omega), List.take_of_length_le (by omega)] at he
    rw [decide_eq_true ⟨e1, he⟩]
end Go.Proofs.Ytceciiemnagdoaa
