/- The program of an image: asm.Program and the document's, and the law's comparison. No condition. -/
import Derived.Test.YtceciiemnagdoaaBy
import Derived.Test.YtceciiemnagdoaaWa
set_option linter.unusedVariables false
namespace Go.Proofs.Ytceciiemnagdoaa
open Go.RowKit Go.Hx
structure SegS where
  va : Int
  fl : Int
  data : List UInt8
  mem : Int
deriving DecidableEq
def SegAt (N : Nat) (w : World) (vs : List Value) (s : SegS) : Prop := ∃ (q : Option Addr) (n c : Nat), vs = [.int .u64 s.va, .int .u32 s.fl, .slice q n c, .int .u64 s.mem] ∧ RdT 5 1 N w q n (bv s.data) ∧ n ≤ maxLen
def SegsAt (N : Nat) (w : World) : List Value → List SegS → Prop
  | vs, [] => vs = []
  | vs, s :: r => ∃ v1 v2, vs = v1 ++ v2 ∧ SegAt N w v1 s ∧ SegsAt N w v2 r
theorem SegAt.keep {N : Nat} {w w' : World} {vs : List Value} {s : SegS} (h : SegAt N w vs s) (hu : UpT 5 N w w') : SegAt N w' vs s := by
  obtain ⟨q, n, c, h1, h2, h3⟩ := h
  exact ⟨q, n, c, h1, h2.up hu, h3⟩
theorem SegsAt.keep {N : Nat} {w w' : World} (hu : UpT 5 N w w') : ∀ {vs : List Value} {l : List SegS}, SegsAt N w vs l → SegsAt N w' vs l
  | _, [], h => h
  | _, _ :: _, ⟨v1, v2, h1, h2, h3⟩ => ⟨v1, v2, h1, h2.keep hu, SegsAt.keep hu h3⟩
theorem SegsAt.snoc {N : Nat} {w : World} : ∀ {vs : List Value} {l : List SegS} {v : List Value} {s : SegS}, SegsAt N w vs l → SegAt N w v s → SegsAt N w (vs ++ v) (l ++ [s])
  | vs, [], v, s, h, hs => ⟨v, [], by rw [show vs = [] from h]; simp, hs, rfl⟩
  | vs, x :: r, v, s, ⟨v1, v2, h1, h2, h3⟩, hs => ⟨v1, v2 ++ v, by rw [h1, List.append_assoc], h2, SegsAt.snoc h3 hs⟩
theorem SegAt.len {N : Nat} {w : World} {vs : List Value} {s : SegS} (h : SegAt N w vs s) : vs.length = 4 := by
  obtain ⟨q, n, c, h1, _⟩ := h
  rw [h1]; rfl
theorem SegsAt.len {N : Nat} {w : World} : ∀ {vs : List Value} {l : List SegS}, SegsAt N w vs l → vs.length = l.length * 4
  | _, [], h => by rw [show _ = [] from h]; rfl
  | _, _ :: r, ⟨v1, v2, h1, h2, h3⟩ => by rw [h1, List.length_append, h2.len, SegsAt.len h3, List.length_cons]; omega
theorem SegsAt.get {N : Nat} {w : World} : ∀ {vs : List Value} {l : List SegS}, SegsAt N w vs l → ∀ {i : Nat} {s : SegS}, l[i]? = some s → SegAt N w ((vs.drop (i * 4)).take 4) s
  | _, [], _, i, s, h => by simp at h
  | vs, x :: r, ⟨v1, v2, h1, h2, h3⟩, 0, s, h => by
    simp at h
    subst h
    rw [h1, Nat.zero_mul, List.drop_zero, List.take_append_of_le_length (by rw [h2.len]; omega), List.take_of_length_le (by rw [h2.len]; omega)]
    exact h2
  | vs, x :: r, ⟨v1, v2, h1, h2, h3⟩, i + 1, s, h => by
    have := SegsAt.get h3 (i := i) (s := s) (by simpa using h)
    rw [h1, show (i + 1) * 4 = v1.length + i * 4 by rw [h2.len]; omega, List.drop_append, List.drop_of_length_le (by omega), Nat.add_sub_cancel_left, List.nil_append]
    exact this
/-- A program, all of it in blocks from N on. -/
def ElfAt (N : Nat) (w : World) (g : Array Value) (en : Int) (l : List SegS) : Prop := ∃ (q : Option Addr) (c : Nat) (vs : List Value), g = #[.int .u64 en, .slice q l.length c] ∧ RdT 38 4 N w q l.length vs ∧ SegsAt N w vs l ∧ l.length ≤ 2
theorem ElfAt.keep {N : Nat} {w w' : World} {g : Array Value} {en : Int} {l : List SegS} (h : ElfAt N w g en l) (hu : UpT 5 N w w') (hv : UpT 38 N w w') : ElfAt N w' g en l := by
  obtain ⟨q, c, vs, h1, h2, h4, h5⟩ := h
  exact ⟨q, c, vs, h1, h2.up hv, h4.keep hu, h5⟩
theorem ElfAt.below {N : Nat} {w w' : World} {g : Array Value} {en : Int} {l : List SegS} (h : ElfAt N w g en l) (hb : Below w.heap.size w w') : ElfAt N w' g en l := h.keep (UpT.of_below hb) (UpT.of_below hb)
theorem ElfAt.size {N : Nat} {w : World} {g : Array Value} {en : Int} {l : List SegS} (h : ElfAt N w g en l) : g.size = 2 := by
  obtain ⟨q, c, vs, h1, _⟩ := h
  rw [h1]; rfl

theorem bld31 (n : Int) : bldP Try.prog 31 [(0, .int .u64 n)] (.agg #[.int .u64 n, .slice none 0 0]) := fun w => by kernel_rfl
theorem bldSeg1 (q : Option Addr) (n c : Nat) (m : Int) : bldP Try.prog 38 [(1, .int .u32 (5 : Int)), (2, .slice q n c), (3, .int .u64 m)] (.agg #[.int .u64 0, .int .u32 5, .slice q n c, .int .u64 m]) := fun w => by kernel_rfl
theorem bldSeg2 (a m : Int) : bldP Try.prog 38 [(0, .int .u64 a), (1, .int .u32 (6 : Int)), (3, .int .u64 m)] (.agg #[.int .u64 a, .int .u32 6, .slice none 0 0, .int .u64 m]) := fun w => by kernel_rfl
theorem bldSeg3 (a m : Int) (q : Option Addr) (n c : Nat) : bldP Try.prog 38 [(0, .int .u64 a), (1, .int .u32 (6 : Int)), (2, .slice q n c), (3, .int .u64 m)] (.agg #[.int .u64 a, .int .u32 6, .slice q n c, .int .u64 m]) := fun w => by kernel_rfl
theorem kSegs : slT Try.prog 29 38 = true := by kernel_rfl
theorem kSeg : infB Try.prog 38 4 48 = true := by kernel_rfl
theorem bv_oneC (xs : List UInt8) : ∀ u ∈ bv xs, u.oneCell' = true := fun u hu => by
  simp only [bv, List.mem_map] at hu
  obtain ⟨b, _, rfl⟩ := hu
  rfl
theorem seg_oneC {a b c : Int} {q : Option Addr} {n m : Nat} : ∀ u ∈ [Value.int .u64 a, .int .u32 b, .slice q n m, .int .u64 c], u.oneCell' = true := by
  intro u hu
  simp only [List.mem_cons, List.not_mem_nil, or_false] at hu
  rcases hu with rfl | rfl | rfl | rfl <;> rfl

/-- slices.Clone; copied. -/
theorem c_Clone {xb : Option Addr} {xl xc : Nat} {xs : List UInt8} {w : World} (hx : Rd 1 w xb xl (bv xs)) (hm : xl ≤ 140737488351232) :
    Calls Try.prog 17 #[.slice xb xl xc] w (Ret fun v w' => ∃ q c, v = .slice q xl c ∧ RdT 5 1 w.heap.size w' q xl (bv xs) ∧ Below w.heap.size w w') := by
  refine W17_ok _ _ _ w _ ?_
  have lx : xs.length = xl := by have := hx.len; rw [bv_length, Nat.mul_one] at this; exact this
  refine c_b (fun h => ?_) (fun h => ?_)
  · have hn : xb = none := by simpa using h
    have := hx.nil hn
    subst this
    have : xs = [] := List.length_eq_zero_iff.1 lx
    subst this
    exact ⟨none, 0, rfl, RdT.none _ _ _ _, Below.refl _ _⟩
  · refine ⟨#[], fun w => by kernel_rfl, newW_intro fun b w1 k1 l1 b1 => ?_⟩
    have z1 := b1.size
    refine apn_copy (hx.below b1) (.inr ⟨_, rfl⟩) kBs kB (bv_oneC xs) (by omega) (by unfold maxLen; omega) (fun h0 => ?_) (fun q' c' w' h1 h2 h3 => ?_)
    · subst h0
      have : xs = [] := List.length_eq_zero_iff.1 lx
      subst this
      exact ⟨_, _, rfl, ⟨Rd.empty _ _ _, fun a h => by cases h; exact ⟨l1, _, k1⟩⟩, b1⟩
    · exact ⟨_, _, rfl, h1.rdT.mono z1, b1.trans (h2.mono z1)⟩
theorem c_copied {xb : Option Addr} {xl xc : Nat} {xs : List UInt8} {w : World} (hx : Rd 1 w xb xl (bv xs)) (hm : xl ≤ 140737488351232) :
    Calls Try.prog 18 #[.slice xb xl xc] w (Ret fun v w' => ∃ q c, v = .slice q xl c ∧ RdT 5 1 w.heap.size w' q xl (bv xs) ∧ Below w.heap.size w w') := by
  refine W18_ok _ _ _ w _ ?_
  have lx : xs.length = xl := by have := hx.len; rw [bv_length, Nat.mul_one] at this; exact this
  refine apn_copy hx (.inl rfl) kBs kB (bv_oneC xs) (by omega) (by unfold maxLen; omega) (fun h0 => ?_) (fun q' c' w' h1 h2 h3 => ?_)
  · subst h0
    have : xs = [] := List.length_eq_zero_iff.1 lx
    subst this
    exact ⟨_, _, rfl, RdT.none _ _ _ _, Below.refl _ _⟩
  · exact ⟨_, _, rfl, h1.rdT, h2⟩

/-- An image's cells. -/
def imgC (cb : Option Addr) (cl cc : Nat) (db : Option Addr) (dl dc : Nat) (at_ bss n en : Int) (sb : Option Addr) (sl sc : Nat) : Array Value :=
  #[.slice cb cl cc, .slice db dl dc, .int .u64 at_, .int .u64 bss, .int .u64 n, .int .u64 en, .slice sb sl sc]
def memP (at_ bss n : Int) : Int := IntKind.u64.wrap (IntKind.u64.wrap (bss + n) - at_)
def progS (xs ys : List UInt8) (at_ bss n : Int) : List SegS :=
  (if xs.length > 0 then [⟨0, 5, xs, IntKind.u64.wrap (xs.length : Int)⟩] else []) ++ (if memP at_ bss n > 0 then [⟨at_, 6, ys, memP at_ bss n⟩] else [])
/-- The list under way: it lies in the cell 1 of the block e. -/
structure Way (N : Nat) (w : World) (e : Nat) (en : Int) (l : List SegS) (q : Option Addr) (c : Nat) (vs : List Value) : Prop where
  low : N ≤ e
  blk : Blk w e #[.int .u64 en, .slice q l.length c] 31
  own : Ow 38 4 N w q l.length c vs
  segs : SegsAt N w vs l
theorem Way.below {N : Nat} {w w' : World} {e : Nat} {en : Int} {l : List SegS} {q : Option Addr} {c : Nat} {vs : List Value} (h : Way N w e en l q c vs) (hb : Below w.heap.size w w') : Way N w' e en l q c vs :=
  ⟨h.low, below_blk hb h.blk.lt h.blk, h.own.below hb, h.segs.keep (UpT.of_below hb)⟩
/-- e.Segs = append(e.Segs, s), the literal in a block of its own. -/
theorem Way.push {N : Nat} {w : World} {e m : Nat} {en : Int} {l : List SegS} {s : SegS} {q : Option Addr} {c : Nat} {vs : List Value} {g : Array Value}
    (h : Way N w e en l q c vs) (hN : N ≤ w.heap.size) (hl : l.length ≤ 1)
    (hg : Blk w m g 38) (hs : SegAt N w g.toList s) (hm : ∀ a, q = some a → a.block ≠ m) {K : World → Prop} (hK : ∀ w' q' c' vs', Way N w' e en (l ++ [s]) q' c' vs' → Below N w w' → (∀ k cs t, Blk w k cs t → t ≠ 38 → k ≠ e → Blk w' k cs t) → K w') :
    apnW Try.prog 29 29 (.slice q l.length c) (.slice (some ⟨m, 0, none⟩) 1 1) w fun qb ql qc w => stC ⟨e, 1, none⟩ (.slice qb ql qc) w K := by
  have h4l : g.size = 4 := by have := hs.len; simpa using this
  refine h.own.app1 hN kSegs kSeg hg h4l (by
    obtain ⟨q0, n0, c0, h5, _⟩ := hs
    rw [h5]; exact seg_oneC) hm (by omega) (by unfold maxLen; omega) fun q' c' w1 o1 b1 g1 => ?_
  have hqt : ∀ a, q = some a → ∃ cs, Blk w a.block cs 38 := fun a ha => (h.own.rdT.2 a ha).2
  have hne : ∀ a, q = some a → a.block ≠ e := fun a ha hh => by
    obtain ⟨cs, hcs⟩ := hqt a ha
    rw [hh] at hcs
    exact absurd (hcs.ty h.blk) (by decide)
  have hb1 : Blk w1 e #[.int .u64 en, .slice q l.length c] 31 := g1.blk h.blk fun a ha hh => hne a ha hh.symm
  refine stC_intro hb1 (by simp) fun w2 k2 m2 s2 => ?_
  have hq' : ∀ a, q' = some a → a.block ≠ e := fun a ha hh => by
    rcases g1.new a ha with h6 | h6
    · exact hne a h6 hh
    · have := h.blk.lt; omega
  have u1 : UpT 5 N w w1 := g1.up fun a ha => by obtain ⟨cs, hcs⟩ := hqt a ha; exact ⟨cs, _, hcs, by decide⟩
  have u2 : UpT 5 N w1 w2 := UpT.of_mod m2 hb1 (by decide)
  refine hK w2 q' c' (vs ++ g.toList) ⟨h.low, by rw [List.length_append]; exact k2, ?_, ((h.segs.keep u1).keep u2).snoc ((hs.keep u1).keep u2)⟩ (b1.trans (m2.below (Nat.le_trans hN g1.size) h.low)) fun k cs t hk ht hke => m2.blk hke (g1.blk hk fun a ha hh => by
    obtain ⟨cs', hcs⟩ := hqt a ha
    rw [← hh] at hcs
    exact ht (hk.ty hcs))
  rw [List.length_append]
  exact o1.keep fun a ha => m2.block _ (o1.lt ha).1 (hq' a ha)
end Go.Proofs.Ytceciiemnagdoaa
