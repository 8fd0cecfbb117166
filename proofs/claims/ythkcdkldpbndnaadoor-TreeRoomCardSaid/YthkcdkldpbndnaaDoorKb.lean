/- The memory of frames: what its functions hand back. No condition. -/
import Derived.Test.YthkcdkldpbndnaaDoorKa
import Derived.Test.YthkcdkldpbndnaaDoorHm
import Derived.Test.YthkcdkldpbndnaaDoorNt
set_option linter.unusedVariables false
namespace Go.Proofs.YthkcdkldpbndnaaDoor
open Go.RowKit Go.Hx
/-- A window of bytes. -/
def win (bs : List UInt8) (a n : Nat) : List UInt8 := (bs.drop a).take n
theorem win_get (bs : List UInt8) (a n j : Nat) : (win bs a n)[j]? = if j < n then bs[a + j]? else none := by
  unfold win
  by_cases h : j < n
  · rw [if_pos h, List.getElem?_take_of_lt h, List.getElem?_drop]
  · rw [if_neg h, List.getElem?_eq_none (by rw [List.length_take]; omega)]
theorem win_len {bs : List UInt8} {a n : Nat} (h : a + n ≤ bs.length) : (win bs a n).length = n := by
  unfold win
  rw [List.length_take, List.length_drop]; omega
theorem win_off {bs : List UInt8} {o a n : Nat} {x : List UInt8} (h : o + x.length ≤ bs.length) (hd : a + n ≤ o ∨ o + x.length ≤ a) : win (ovl bs o x) a n = win bs a n := by
  apply List.ext_getElem?
  intro j
  rw [win_get, win_get]
  by_cases hj : j < n
  · rw [if_pos hj, if_pos hj, ovl_get h, if_neg (by omega)]
  · rw [if_neg hj, if_neg hj]
theorem win_in {bs : List UInt8} {o a n : Nat} {x : List UInt8} (h : o + x.length ≤ bs.length) (h1 : o ≤ a) (h2 : a + n ≤ o + x.length) : win (ovl bs o x) a n = win x (a - o) n := by
  apply List.ext_getElem?
  intro j
  rw [win_get, win_get]
  by_cases hj : j < n
  · rw [if_pos hj, if_pos hj, ovl_get h, if_pos (by omega)]
    congr 1; omega
  · rw [if_neg hj, if_neg hj]
theorem ovl_ovl {bs : List UInt8} {o : Nat} {x y : List UInt8} (h : o + x.length ≤ bs.length) (hy : y.length ≤ x.length) : ovl (ovl bs o x) o y = ovl bs o (y ++ x.drop y.length) := by
  apply List.ext_getElem?
  intro j
  have hl : (y ++ x.drop y.length).length = x.length := by rw [List.length_append, List.length_drop]; omega
  rw [ovl_get (by rw [ovl_len h]; omega), ovl_get h, ovl_get (by rw [hl]; exact h), hl]
  by_cases h1 : o ≤ j ∧ j < o + y.length
  · rw [if_pos h1, if_pos (by omega), List.getElem?_append_left (by omega)]
  · rw [if_neg h1]
    by_cases h2 : o ≤ j ∧ j < o + x.length
    · rw [if_pos h2, if_pos h2, List.getElem?_append_right (by omega), List.getElem?_drop]
      congr 1; omega
    · rw [if_neg h2, if_neg h2]
/-- A frame's address. -/
def fa (i : Nat) : Nat := 2147483648 + i * 4096
theorem fa_inj {i j : Nat} (h : fa i = fa j) : i = j := by unfold fa at h; omega
def nx : List Nat → Nat
  | [] => 0
  | i :: _ => fa i
def Chain (bs : List UInt8) : List Nat → Prop
  | [] => True
  | i :: r => unle (win bs (i * 4096) 8) = nx r ∧ Chain bs r
theorem Chain.keep {bs bs' : List UInt8} : ∀ {l : List Nat}, Chain bs l → (∀ i ∈ l, win bs' (i * 4096) 8 = win bs (i * 4096) 8) → Chain bs' l
  | [], _, _ => trivial
  | i :: r, ⟨h1, h2⟩, h => ⟨by rw [h i (List.mem_cons_self ..)]; exact h1, h2.keep fun j hj => h j (List.mem_cons_of_mem _ hj)⟩
/-- The memory at r: its bytes at mb, its held frames at hb. -/
structure RamAt (N : Nat) (w : World) (r mb hb : Nat) (F : Nat) (fl : List Nat) (bs : List UInt8) : Prop where
  F1 : 1 ≤ F
  F2 : F ≤ 4096
  len : bs.length = F * 4096
  kr : Blk w r #[.slice (some ⟨mb, 0, none⟩) (F * 4096) (F * 4096), .map (some hb), .int .u64 ((nx fl : Nat) : Int), .int .i64 ((fl.length : Nat) : Int)] 137
  km : Blk w mb (bv bs).toArray 5
  kh : ∃ ks, MpAt .u64 (.agg #[]) w hb ks ∧ ∀ x, x ∈ ks ↔ ∃ i, i < F ∧ i ∉ fl ∧ x = ((fa i : Nat) : Int)
  nd : fl.Nodup
  low : ∀ i ∈ fl, 1 ≤ i ∧ i < F
  ch : Chain bs fl
  lo : N ≤ r ∧ N ≤ mb ∧ N ≤ hb
def RS (r mb hb : Nat) (k : Nat) : Prop := k = r ∨ k = mb ∨ k = hb
section
variable {N : Nat} {w : World} {r mb hb F : Nat} {fl : List Nat} {bs : List UInt8}
theorem ram_ne_byte : (137 : TypeId) ≠ 5 := by decide
theorem RamAt.r_mb (h : RamAt N w r mb hb F fl bs) : r ≠ mb := fun e => ram_ne_byte (h.kr.ty (by rw [e]; exact h.km))
theorem mp_ne {k : IntKind} {v : Value} {ks : List Int} {b : Nat} {cs : Array Value} {t : TypeId} (h : MpAt k v w hb ks) (hB : Blk w b cs t) : b ≠ hb := fun e => by
  subst e
  obtain ⟨es, clock, h1, _⟩ := h
  obtain ⟨lo, hi, h2, _⟩ := hB
  rw [h1] at h2
  cases h2
theorem RamAt.r_hb (h : RamAt N w r mb hb F fl bs) : r ≠ hb := by
  obtain ⟨ks, hk, _⟩ := h.kh
  exact mp_ne hk h.kr
theorem RamAt.mb_hb (h : RamAt N w r mb hb F fl bs) : mb ≠ hb := by
  obtain ⟨ks, hk, _⟩ := h.kh
  exact mp_ne hk h.km
theorem RamAt.keep {w' : World} (h : RamAt N w r mb hb F fl bs) (hk : ∀ k, RS r mb hb k → w'.heap[k]? = w.heap[k]?) : RamAt N w' r mb hb F fl bs := by
  obtain ⟨ks, h1, h2⟩ := h.kh
  exact ⟨h.F1, h.F2, h.len, h.kr.keep (hk _ (.inl rfl)), h.km.keep (hk _ (.inr (.inl rfl))), ⟨ks, h1.keep (hk _ (.inr (.inr rfl))), h2⟩, h.nd, h.low, h.ch, h.lo⟩
theorem RamAt.lt (h : RamAt N w r mb hb F fl bs) : ∀ k, RS r mb hb k → k < w.heap.size := by
  obtain ⟨ks, h1, h2⟩ := h.kh
  rintro k (rfl | rfl | rfl)
  · exact h.kr.lt
  · exact h.km.lt
  · exact h1.lt
theorem RamAt.below {w' : World} (h : RamAt N w r mb hb F fl bs) (b : Below w.heap.size w w') : RamAt N w' r mb hb F fl bs := h.keep fun k hk => b.block k (h.lt k hk)
theorem RamAt.drew (h : RamAt N w r mb hb F fl bs) : RamAt N w.drew r mb hb F fl bs := h.keep fun _ _ => rfl
theorem RamAt.mono {M : Nat} (h : RamAt N w r mb hb F fl bs) (hM : M ≤ N) : RamAt M w r mb hb F fl bs := ⟨h.F1, h.F2, h.len, h.kr, h.km, h.kh, h.nd, h.low, h.ch, by obtain ⟨a, b, c⟩ := h.lo; omega⟩
theorem kp_of_mod {S : Nat → Prop} {b : Nat} {w w' : World} (h : Mod b w w') (hb : S b) : Kp S w.heap.size w w' := Kp.of_mod h (fun _ => hb) (Nat.le_refl _)
theorem kp_then {S : Nat → Prop} {x y z : World} (h : Kp S x.heap.size x y) (k : Kp S y.heap.size y z) : Kp S x.heap.size x z := h.trans (k.mono (fun _ _ h => h) h.size)
theorem kp_drew {S : Nat → Prop} {w : World} : Kp S w.heap.size w w.drew := Kp.of_below (below_drew _ _) (Nat.le_refl _)
/-- A pointer to the memory. -/
abbrev rp (r : Nat) : Value := .pointer (some ⟨r, 0, none⟩)
theorem c_rnone (h : RamAt N w r mb hb F fl bs) : Calls Tryd.prog 116 #[rp r] w (Ret fun v w' => v = .bool false ∧ w = w') := by
  refine W116_ok _ w _ ⟨_, _, _, h.kr.cell rfl, ?_, rfl⟩
  have := h.F1
  congr 1
  simp; omega
theorem c_rFrames (h : RamAt N w r mb hb F fl bs) : Calls Tryd.prog 99 #[rp r] w (Ret fun v w' => v = .int .i64 ((F : Nat) : Int) ∧ w = w') := by
  refine W99_ok _ w _ ((c_rnone h).mono ?_)
  rintro _ _ ⟨_, rfl, rfl, rfl⟩
  have := h.F2
  refine ⟨_, rfl, _, _, _, h.kr.cell rfl, by decide, ?_, rfl⟩
  congr 1
  rw [Int.tdiv_eq_ediv_of_nonneg (by omega), wrap_in (by omega) (by omega)]
  omega
theorem c_rCount (h : RamAt N w r mb hb F fl bs) : Calls Tryd.prog 68 #[rp r] w (Ret fun v w' => v = .int .i64 ((fl.length : Nat) : Int) ∧ w = w') := by
  refine W68_ok _ w _ ((c_rnone h).mono ?_)
  rintro _ _ ⟨_, rfl, rfl, rfl⟩
  exact ⟨_, rfl, _, by rw [Addr.add_lit]; exact h.kr.cell rfl, rfl, rfl⟩
theorem wuI {n : Int} (h : 0 ≤ n) (h2 : n < 18446744073709551616) : IntKind.u64.wrap n = n := by
  have := wu64 n.toNat (by omega)
  rw [show ((n.toNat : Nat) : Int) = n by omega] at this
  exact this
theorem fa_sub (i : Nat) (h : i < 4096) : IntKind.u64.wrap (((fa i : Nat) : Int) - 2147483648) = ((i * 4096 : Nat) : Int) := by
  unfold fa
  rw [wuI (by omega) (by omega)]; omega
theorem fa_end (i : Nat) (h : i < 4096) : IntKind.u64.wrap (((i * 4096 : Nat) : Int) + 4096) = ((i * 4096 + 4096 : Nat) : Int) := by
  rw [wuI (by omega) (by omega)]; omega
/-- Where a frame begins. -/
def fp (mb i : Nat) : Option Addr := some ⟨mb, i * 4096, none⟩
theorem slB_frame {mb m o : Nat} (h : o < m) : slB (some ⟨mb, 0, none⟩) o m 1 = some ⟨mb, o, none⟩ := by
  rw [slB_pos h]
  show some ((⟨mb, 0, none⟩ : Addr).add (o * 1)) = _
  rw [Addr.add_lit, Nat.zero_add, Nat.mul_one]
theorem c_rbytes (h : RamAt N w r mb hb F fl bs) {i : Nat} (hi : i < F) : Calls Tryd.prog 128 #[rp r, .int .u64 ((fa i : Nat) : Int)] w (Ret fun v w' => v = .slice (fp mb i) 4096 (F * 4096 - i * 4096) ∧ w = w') := by
  have hF := h.F2
  refine W128_ok _ _ w _ ⟨_, _, _, h.kr.cell rfl, ?_⟩
  rw [fa_sub i (by omega), fa_end i (by omega), Int.toNat_natCast, Int.toNat_natCast]
  refine ⟨⟨by omega, by omega⟩, ⟨by omega, by omega⟩, ?_, rfl⟩
  rw [slB_frame (by omega), show i * 4096 + 4096 - i * 4096 = 4096 by omega]
  rfl
theorem c_rframe (h : RamAt N w r mb hb F fl bs) {i : Nat} (hi : i < F) : Calls Tryd.prog 155 #[rp r, .int .u64 ((fa i : Nat) : Int)] w (Ret fun v w' => v = .bool true ∧ w = w') := by
  have hF := h.F2
  refine W155_ok _ _ w _ (c_dec (fun _ => ⟨by decide, c_eq (fun _ => ⟨_, _, _, h.kr.cell rfl, ?_, rfl⟩) (fun hn => absurd ?_ hn)⟩) (fun hn => absurd (by unfold fa; omega) hn))
  · rw [fa_sub i (by omega), wu64 _ (by omega)]
    congr 1
    rw [decide_eq_true (by omega)]
  · rw [Int.tmod_eq_emod_of_nonneg (by omega)]
    unfold fa; omega
theorem zU : (zeroValue 228).run Tryd.prog w = .ok (.agg #[]) w := by kernel_rfl
theorem bU : bldP Tryd.prog 228 [] (.agg #[]) := fun w => by kernel_rfl
theorem mapT : Tryd.prog.underlying 135 = some (.map 100 228) := by kernel_rfl
theorem keyT : Tryd.prog.underlying 100 = some (.int .u64) := by kernel_rfl
theorem mem_held {ks : List Int} (h : ∀ x, x ∈ ks ↔ ∃ i, i < F ∧ i ∉ fl ∧ x = ((fa i : Nat) : Int)) {i : Nat} (hi : i < F) : ((fa i : Nat) : Int) ∈ ks ↔ i ∉ fl := by
  rw [h]
  constructor
  · rintro ⟨j, _, h2, h3⟩
    have : i = j := fa_inj (by omega)
    subst this; exact h2
  · exact fun h2 => ⟨i, hi, h2, rfl⟩
theorem c_IsFree (h : RamAt N w r mb hb F fl bs) {i : Nat} (hi : i < F) : Calls Tryd.prog 156 #[rp r, .int .u64 ((fa i : Nat) : Int)] w (Ret fun v w' => v = .bool (decide (i ∈ fl)) ∧ Below w.heap.size w w') := by
  refine W156_ok _ _ w _ ((c_rnone h).mono ?_)
  rintro _ _ ⟨_, rfl, rfl, rfl⟩
  refine ⟨_, rfl, (c_rframe h hi).mono ?_⟩
  rintro _ _ ⟨_, rfl, rfl, rfl⟩
  obtain ⟨ks, hk, hm⟩ := h.kh
  refine ⟨_, rfl, .map (some hb), by rw [Addr.add_lit]; exact h.kr.cell rfl, #[], _, mp_has hk mapT keyT zU _, newW_intro fun a w1 k1 l1 b1 => stW_intro k1 fun w2 k2 m2 s2 => ⟨?_, b1.trans (m2.below b1.size l1)⟩⟩
  have hmi := mem_held hm hi
  by_cases hf : i ∈ fl
  · rw [decide_eq_true hf, decide_eq_false (fun hn => hmi.1 hn hf)]; rfl
  · rw [decide_eq_false hf, decide_eq_true (hmi.2 hf)]; rfl
/-- thread: a held frame is put at the free list's beginning. -/
def thrB (bs : List UInt8) (i : Nat) (fl : List Nat) : List UInt8 := ovl bs (i * 4096) (leN 8 (nx fl) ++ List.replicate 4088 5)
theorem nx_lt {fl : List Nat} (h : ∀ i ∈ fl, i < 4096) : nx fl < 18446744073709551616 := by
  cases fl with
  | nil => decide
  | cons i r =>
    have := h i (List.mem_cons_self ..)
    show 2147483648 + i * 4096 < _
    omega
end
end Go.Proofs.YthkcdkldpbndnaaDoor
