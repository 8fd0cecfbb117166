/- A refusal told as plain data; no condition. -/
import Derived.Test.YthihjppjollekaaLf
set_option linter.unusedVariables false
namespace Go.Proofs.Ythihjppjollekaa
open Go.RowKit Go.Hx

def strP : ByteArray := ⟨#[112, 114, 111, 99]⟩
/-- A refusal as plain data: its one link lies there. -/
def Flt (w : World) (g : Array Value) (at_ : Int) : Prop :=
  ∃ (k c : Nat) (cs : Array Value), g = #[.slice (some ⟨k, 0, none⟩) 1 c, .int .i64 4] ∧ Blk w k cs 112 ∧ cs[0]? = some (.string strP) ∧ cs[1]? = some (.int .i64 at_)
theorem Flt.below {w w' : World} {g : Array Value} {at_ : Int} (h : Flt w g at_) (hb : Below w.heap.size w w') : Flt w' g at_ := by
  obtain ⟨k, c, cs, h1, h2, h3⟩ := h
  exact ⟨k, c, cs, h1, below_blk hb h2.lt h2, h3⟩
theorem bld84 : bldP Try.prog 84 [] (.agg #[.slice none 0 0, .int .i64 0]) := fun w => by kernel_rfl
theorem bld112 (s : ByteArray) (n : Int) : bldP Try.prog 112 [(0, .string s), (1, .int .i64 n)] (.agg #[.string s, .int .i64 n]) := fun w => by kernel_rfl
theorem bsl82 (s : ByteArray) (n : Int) : bslP Try.prog 82 1 [(0, .agg #[.string s, .int .i64 n])] #[.string s, .int .i64 n] 112 := fun w => by kernel_rfl
theorem bld84f (k c : Nat) (n : Int) : bldP Try.prog 84 [(0, .slice (some ⟨k, 0, none⟩) 1 c), (1, .int .i64 n)] (.agg #[.slice (some ⟨k, 0, none⟩) 1 c, .int .i64 n]) := fun w => by kernel_rfl
theorem one2 {a b c : Nat} {n : Int} : ∀ x ∈ (#[.slice (some ⟨a, 0, none⟩) b c, .int .i64 n] : Array Value).toList, one x = true := by
  intro x hx; simp at hx; rcases hx with rfl | rfl <;> rfl
/-- The refusal that the document names. -/
theorem c34 (at_ : Int) (w : World) : Calls Try.prog 34 #[.string strP, .int .i64 at_, .int .i64 4] w (Ret fun v w' => ∃ g, v = .agg g ∧ Flt w' g at_ ∧ Below w.heap.size w w') := by
  refine W34_ok _ _ _ w _ ?_
  refine newW_intro fun a w1 k1 l1 b1 => ⟨_, bld112 _ _, _, bsl82 _ _, newW_intro fun k w2 k2 l2 b2 => ⟨_, bld84f _ _ _, ?_⟩⟩
  have z1 := b1.size
  have y1 := k1.lt
  have y2 := k2.lt
  refine stA_intro (below_blk b2 k1.lt k1) rfl (by simp) one2 fun w3 k3 m3 s3 => ?_
  rw [ovw_all (cs := #[.slice none 0 0, .int .i64 0]) (g := #[.slice (some ⟨k, 0, none⟩) 1 1, .int .i64 4]) rfl] at k3
  exact ⟨_, rfl, row_whole k3, _, rfl, ⟨k, 1, _, rfl, m3.blk (by omega) k2, rfl, rfl⟩, (b1.trans (b2.mono z1)).trans (m3.below (by have := b2.size; omega) l1)⟩
/-- The type's description, as it is loaded. -/
noncomputable def inf112 : TypeInfo := (Try.prog.info? 112).getD default
theorem hi112 : Try.prog.info? 112 = some inf112 := by kernel_rfl
theorem hz112 : inf112.zero = some (.agg #[.string ByteArray.empty, .int .i64 0]) := by kernel_rfl
theorem sz112 : inf112.size = 2 := by kernel_rfl
theorem by112 : inf112.bytes = 24 := by kernel_rfl
theorem hu82 : Try.prog.underlying 82 = some (.slice 112) := by kernel_rfl
def z84 : Array Value := #[.slice none 0 0, .int .i64 0]
set_option maxRecDepth 10000 in
theorem c65 {f : Nat} {at_ : Int} {w : World} (hf : Blk w f (fltA at_) 105) : Calls Try.prog 65 #[.iface 103 (.pointer (some ⟨f, 0, none⟩))] w (Ret fun v w' => ∃ g, v = .tuple #[.agg g, .bool true] ∧ Flt w' g at_ ∧ Below w.heap.size w w') := by
  refine W65_ok _ w _ ?_
  refine newW_intro fun a1 w1 k1 l1 b1 => ⟨#[.slice none 0 0, .int .i64 0], bld84, newW_intro fun a3 w2 k2 l2 b2 => ?_⟩
  have z1 := b1.size
  have z2 := b2.size
  have y1 := k1.lt
  have y2 := k2.lt
  have yf := hf.lt
  refine stA_intro (g := #[.slice none 0 0, .int .i64 0]) (o := 0) k2 rfl (by simp) (by intro x hx; simp at hx; rcases hx with rfl | rfl <;> rfl) fun w3 k3 m3 s3 => ?_
  have k3 : Blk w3 a3 z84 84 := k3
  have k13 : Blk w3 a1 z84 84 := m3.blk (by omega) (below_blk b2 y1 k1)
  have b3 : Below w.heap.size w w3 := (b1.trans (b2.mono z1)).trans (m3.below (by omega) (by omega))
  have hne : a1 ≠ a3 := by omega
  refine ⟨fun x w4 => Blk w4 a1 z84 84 ∧ Below w.heap.size w w4 ∧ ((x = (.iface 103 (.pointer (some ⟨f, 0, none⟩)), 0, ()) ∧ Blk w4 a3 z84 84) ∨
      (x = (.iface 56 (.int .i64 4), 1, ()) ∧ ∃ (k c : Nat) (cs : Array Value), Blk w4 a3 #[.slice (some ⟨k, 0, none⟩) 1 c, .int .i64 0] 84 ∧ Blk w4 k cs 112 ∧ cs[0]? = some (.string strP) ∧ cs[1]? = some (.int .i64 at_))),
    fun x _ => (2 - x.2.1).toNat, ⟨(.iface 103 (.pointer (some ⟨f, 0, none⟩)), 0, ()), rfl, k13, b3, Or.inl ⟨rfl, k3⟩⟩, ?_⟩
  rintro _ x w4 ⟨q1, q2, ⟨rfl, q3⟩ | ⟨rfl, k, c, cs, q3, q4, q5, q6⟩⟩
  · dsimp only
    have z4 := q2.size
    have qf : Blk w4 f (fltA at_) 105 := below_blk q2 yf hf
    refine c_dec (fun _ => ⟨false, rfl, c_b (fun h => by cases h) (fun _ => Or.inr ⟨103, _, rfl, c_b (fun _ => ⟨_, rfl, c_b (fun h => by cases h) (fun _ => ?_)⟩) (fun h => absurd h (by decide))⟩)⟩) (fun h => absurd (by decide) h)
    let S : World → Prop := fun w' => Blk w' a3 z84 84 ∧ Blk w' f (fltA at_) 105
    have s4 : S w4.drew := ⟨q3, qf⟩
    simp only [nlW, Addr.add_lit, Nat.zero_add]
    refine ⟨S, s4, none, 0, 0, fun w' q => q.1.cell rfl, strP, fun w' q => q.2.cell rfl, at_, fun w' q => q.2.cell rfl, _, bld112 _ _, _, bsl82 _ _, newW_intro fun e w5 k5 l5 b5 => ?_⟩
    have b5 : Below w4.heap.size w4 w5 := below_undrew b5
    have z5 := b5.size
    have y3 := q3.lt
    have yf4 := qf.lt
    have s5 : S w5 := ⟨below_blk b5 y3 q3, below_blk b5 yf4 qf⟩
    have q15 := below_blk b5 q1.lt q1
    have b05 := q2.trans (b5.mono z4)
    refine ⟨S, fun _ q => q, s5, ?_⟩
    have hn : ∀ (j : Nat) (u : Value), ([.string strP, .int .i64 at_] : List Value)[j]? = some u → w5.cell? ((⟨e, 0, none⟩ : Addr).add j) = some u := fun j u hu => by
      rw [Addr.add_lit, Nat.zero_add]
      exact k5.cell (by rw [← hu]; simp)
    refine apn_grow (i := inf112) (olds := []) hu82 hi112 hz112 (Src.ofSlice w5 hu82 ⟨e, 0, none⟩ 1 1 [.string strP, .int .i64 at_] (by rw [sz112]; rfl) hn (by intro u hu; simp at hu; rcases hu with rfl | rfl <;> rfl)) (by omega) (by simp) (fun a h => by cases h) (fun _ => rfl) (by decide) (by rw [by112]; decide) ?_
    intro nc kb w6 hnc _ k6 l6 b6
    have z6 := b6.size
    have s6 : S w6 := ⟨below_blk b6 s5.1.lt s5.1, below_blk b6 s5.2.lt s5.2⟩
    have q16 := below_blk b6 q15.lt q15
    have y35 := s5.1.lt
    refine ⟨fun _ => True, trivial, stC_intro s6.1 (by simp [z84]) fun w7 k7 m7 s7 => ⟨fun _ => True, trivial, ?_⟩⟩
    have b07 := (b05.trans (b6.mono b05.size)).trans (m7.below (by omega) (by omega))
    have f7 := m7.blk (blk_ne s6.2 s6.1 (by decide)) s6.2
    refine ⟨.iface 56 (.int .i64 4), f7.cell rfl, (.iface 56 (.int .i64 4), 1, ()), rfl, ⟨m7.blk hne q16, b07, Or.inr ⟨rfl, kb, nc, _, k7, m7.blk (blk_ne k6 s6.1 (by decide)) k6, by rw [Array.getElem?_append_left (by simp)]; rfl, by rw [Array.getElem?_append_left (by simp)]; rfl⟩⟩, by dsimp only; omega⟩
  · dsimp only
    have z4 := q2.size
    refine c_dec (fun _ => ⟨false, rfl, c_b (fun h => by cases h) (fun _ => Or.inr ⟨56, _, rfl, c_b (fun h => absurd h (by decide)) (fun _ => Or.inr ⟨56, _, rfl, c_b (fun _ => ⟨4, rfl, ?_⟩) (fun h => absurd h (by decide))⟩)⟩)⟩) (fun h => absurd (by decide) h)
    simp only [Addr.add_lit, Nat.zero_add]
    refine stC_intro q3 (by simp) fun w5 k5 m5 s5 => ?_
    have k5 : Blk w5 a3 #[.slice (some ⟨k, 0, none⟩) 1 c, .int .i64 4] 84 := k5
    have q15 := m5.blk hne q1
    have q45 := m5.blk (blk_ne q4 q3 (by decide)) q4
    have y15 := q15.lt
    refine ⟨fun w' => Blk w' a3 #[.slice (some ⟨k, 0, none⟩) 1 c, .int .i64 4] 84, k5, _, rfl, fun w' q => row_whole q, _, _, _, fun w' q => q.cell rfl, c_dec (fun _ => ⟨4, fun w' q => q.cell rfl, ?_⟩) (fun h => absurd (by decide) h)⟩
    refine stA_intro (w := w5.drew) (show Blk w5.drew a1 z84 84 from q15) rfl (by simp [z84]) one2 fun w6 k6 m6 s6 => ?_
    rw [ovw_all (cs := z84) (g := #[.slice (some ⟨k, 0, none⟩) 1 c, .int .i64 4]) rfl] at k6
    have b06 := (q2.trans (m5.below z4 (by omega))).trans (m6.undrew.below (by have := m5.size; omega) (by omega))
    exact ⟨_, fun _ q => q, m6.blk hne.symm (show Blk w5.drew a3 _ 84 from k5), _, rfl, row_whole k6, _, rfl, ⟨k, c, cs, rfl, m6.blk (blk_ne (show Blk w5.drew k cs 112 from q45) (show Blk w5.drew a1 z84 84 from q15) (by decide)) q45, q5, q6⟩, b06⟩
end Go.Proofs.Ythihjppjollekaa
