/- The law AsmPrograms, walked. No condition. -/
import Derived.Test.YtceciiemnagdoaaPc
set_option linter.unusedVariables false
namespace Go.Proofs.Ytceciiemnagdoaa
open Go.RowKit Go.Hx
/-- The first i bytes turned. -/
def xo (k : UInt8) (xs : List UInt8) (i : Nat) : List UInt8 := (xs.take i).map (· ^^^ k) ++ xs.drop i
theorem xo_length (k : UInt8) (xs : List UInt8) (i : Nat) : (xo k xs i).length = xs.length := by simp [xo]; omega
theorem xo_zero (k : UInt8) (xs : List UInt8) : xo k xs 0 = xs := by simp [xo]
theorem xo_get (k : UInt8) (xs : List UInt8) (i : Nat) : (xo k xs i)[i]? = xs[i]? := by
  unfold xo
  by_cases h : i < xs.length
  · rw [List.getElem?_append_right (by simp; omega)]
    simp only [List.length_map, List.length_take, List.getElem?_drop]
    congr 1; omega
  · rw [List.getElem?_eq_none (by simp; omega), List.getElem?_eq_none (by omega)]
theorem xo_set {k : UInt8} {xs : List UInt8} {i : Nat} {b : UInt8} (h : xs[i]? = some b) : (xo k xs i).set i (b ^^^ k) = xo k xs (i + 1) := by
  have hi : i < xs.length := (List.getElem?_eq_some_iff.1 h).1
  have hb : xs[i] = b := (List.getElem?_eq_some_iff.1 h).2
  unfold xo
  rw [List.set_append, if_neg (by simp; omega), List.drop_eq_getElem_cons hi, hb]
  have : i - (List.map (· ^^^ k) (List.take i xs)).length = 0 := by simp; omega
  rw [this, List.set_cons_zero, List.take_add_one, h]
  simp
theorem xor_val (b k : UInt8) : IntKind.u8.wrap (((BitVec.ofInt IntKind.u8.bits ((b.toNat : Nat) : Int) ^^^ BitVec.ofInt IntKind.u8.bits ((k.toNat : Nat) : Int)).toNat : Nat)) = (((b ^^^ k).toNat : Nat) : Int) := by
  have e : ∀ c : UInt8, BitVec.ofInt IntKind.u8.bits ((c.toNat : Nat) : Int) = c.toBitVec := fun c => by
    simp only [IntKind.bits]
    apply BitVec.eq_of_toNat_eq
    simp
  rw [e, e]
  have h2 : ((b.toBitVec ^^^ k.toBitVec : BitVec 8)).toNat = (b ^^^ k).toNat := by rfl
  have h3 := (b ^^^ k).toNat_lt
  refine Eq.trans (congrArg (fun n : Nat => IntKind.u8.wrap ((n : Nat) : Int)) h2) ?_
  show IntKind.u8.wrap (((b ^^^ k).toNat : Nat) : Int) = _
  generalize (b ^^^ k).toNat = m at h3
  unfold IntKind.wrap
  simp only [IntKind.bits, IntKind.signed]
  simp
  omega
theorem bv_set (xs : List UInt8) (i : Nat) (b : UInt8) : (bv xs).set i (.int .u8 ((b.toNat : Nat) : Int)) = bv (xs.set i b) := by simp [bv, List.map_set]
/-- What is lent is written over. -/
theorem Lent.set {N : Nat} {w : World} {q : Option Addr} {n c : Nat} {xs : List UInt8} (h : Lent N w q n c xs) {i : Nat} (hi : i < n) {b : UInt8} {K : World → Prop}
    (hK : ∀ a w', q = some a → Lent N w' q n c (xs.set i b) → Mod a.block w w' → w'.heap.size = w.heap.size → K w') {a : Addr} (ha : q = some a) : stC (a.add (i * 1)) (.int .u8 ((b.toNat : Nat) : Int)) w K := by
  obtain ⟨m, rfl, h1, h2, h3, h4⟩ := h
  cases ha
  rw [Addr.add_lit, Nat.zero_add, Nat.mul_one]
  refine stC_intro h4 (by simp [bv_length]; omega) fun w' k md s => hK _ w' rfl ⟨m, rfl, h1, h2, by simp [h3], ?_⟩ md s
  have e : (bv (xs ++ marks)).toArray.setIfInBounds i (.int .u8 ((b.toNat : Nat) : Int)) = (bv (xs.set i b ++ marks)).toArray := by
    rw [List.setIfInBounds_toArray, bv_set, List.set_append, if_pos (by omega)]
  rw [e] at k
  exact k
/-- All that the two rounds of turning bytes look at. -/
structure Mid (M : Nat) (ws : World) (o5 o26 : Nat) (bc bd : Nat) (t1 : Option Addr) (c1 : Nat) (t2 : Option Addr) (c2 : Nat) (cl dl : Nat) (img : Option Addr → Nat → Nat → Option Addr → Nat → Nat → Array Value) (xs ys xt yt : List UInt8) (w : World) : Prop where
  k5 : Blk w o5 (img (some ⟨bc, 0, none⟩) cl (cl + 64) (some ⟨bd, 0, none⟩) dl (dl + 64)) 27
  k26 : Blk w o26 (img t1 cl c1 t2 dl c2) 27
  lc : Lent 0 w (some ⟨bc, 0, none⟩) cl (cl + 64) xs
  ld : Lent 0 w (some ⟨bd, 0, none⟩) dl (dl + 64) ys
  o1 : Ow 5 1 M w t1 cl c1 (bv xt)
  o2 : Ow 5 1 M w t2 dl c2 (bv yt)
  kp : Kp (fun k => k = bc ∨ k = bd) M ws w
  ms : M ≤ w.heap.size
  cd : bc ≠ bd
  lcM : bc < M
  ldM : bd < M
  tt : ∀ a b, t1 = some a → t2 = some b → a.block ≠ b.block
section
variable {M : Nat} {ws : World} {o5 o26 : Nat} {bc bd : Nat} {t1 : Option Addr} {c1 : Nat} {t2 : Option Addr} {c2 : Nat} {cl dl : Nat} {img : Option Addr → Nat → Nat → Option Addr → Nat → Nat → Array Value} {xs ys xt yt : List UInt8} {w : World}
theorem Mid.drew (h : Mid M ws o5 o26 bc bd t1 c1 t2 c2 cl dl img xs ys xt yt w) : Mid M ws o5 o26 bc bd t1 c1 t2 c2 cl dl img xs ys xt yt w.drew :=
  ⟨h.k5, h.k26, h.lc.keep fun _ _ => rfl, h.ld.keep fun _ _ => rfl, h.o1.drew, h.o2.drew, h.kp.trans (Kp.of_below (below_drew M w) (Nat.le_refl _)), h.ms, h.cd, h.lcM, h.ldM, h.tt⟩
theorem img_ne_byte : (27 : TypeId) ≠ 5 := by decide
theorem Lent.blk {N : Nat} {q : Option Addr} {n c : Nat} (h : Lent N w q n c xs) {a : Addr} (ha : q = some a) : ∃ cs, Blk w a.block cs 5 := by
  obtain ⟨b, rfl, _, _, _, h4⟩ := h
  cases ha
  exact ⟨_, h4⟩
theorem Mid.ne (h : Mid M ws o5 o26 bc bd t1 c1 t2 c2 cl dl img xs ys xt yt w) {b : Nat} {cs : Array Value} (hB : Blk w b cs 5) : o5 ≠ b ∧ o26 ≠ b :=
  ⟨fun e => img_ne_byte (h.k5.ty (by rw [e]; exact hB)), fun e => img_ne_byte (h.k26.ty (by rw [e]; exact hB))⟩
theorem Mid.bcB (h : Mid M ws o5 o26 bc bd t1 c1 t2 c2 cl dl img xs ys xt yt w) : ∃ cs, Blk w bc cs 5 := h.lc.blk (a := ⟨bc, 0, none⟩) rfl
theorem Mid.bdB (h : Mid M ws o5 o26 bc bd t1 c1 t2 c2 cl dl img xs ys xt yt w) : ∃ cs, Blk w bd cs 5 := h.ld.blk (a := ⟨bd, 0, none⟩) rfl
/-- The lent code is written over. -/
theorem Mid.setC (h : Mid M ws o5 o26 bc bd t1 c1 t2 c2 cl dl img xs ys xt yt w) {i : Nat} {b : UInt8} (hi : i < cl) {K : World → Prop} (hK : ∀ w', Mid M ws o5 o26 bc bd t1 c1 t2 c2 cl dl img (xs.set i b) ys xt yt w' → K w') :
    stC ((⟨bc, 0, none⟩ : Addr).add (i * 1)) (.int .u8 ((b.toNat : Nat) : Int)) w K := by
  refine h.lc.set hi (fun a w' ha l m s => ?_) rfl
  cases ha
  obtain ⟨cs, hB⟩ := h.bcB
  obtain ⟨cs', hD⟩ := h.bdB
  have hM := h.lcM
  obtain ⟨n5, n26⟩ := h.ne hB
  exact hK w' ⟨m.blk n5 h.k5, m.blk n26 h.k26, l,
    h.ld.keep fun a ha => by cases ha; exact m.block _ hD.lt h.cd.symm,
    h.o1.keep fun a ha => m.block _ (h.o1.lt ha).1 (by have h1 := (h.o1.lt ha).2; show a.block ≠ bc; omega),
    h.o2.keep fun a ha => m.block _ (h.o2.lt ha).1 (by have h1 := (h.o2.lt ha).2; show a.block ≠ bc; omega),
    h.kp.trans (Kp.of_mod m (fun _ => .inl rfl) h.ms), by rw [s]; exact h.ms, h.cd, h.lcM, h.ldM, h.tt⟩
theorem Mid.setD (h : Mid M ws o5 o26 bc bd t1 c1 t2 c2 cl dl img xs ys xt yt w) {i : Nat} {b : UInt8} (hi : i < dl) {K : World → Prop} (hK : ∀ w', Mid M ws o5 o26 bc bd t1 c1 t2 c2 cl dl img xs (ys.set i b) xt yt w' → K w') :
    stC ((⟨bd, 0, none⟩ : Addr).add (i * 1)) (.int .u8 ((b.toNat : Nat) : Int)) w K := by
  refine h.ld.set hi (fun a w' ha l m s => ?_) rfl
  cases ha
  obtain ⟨cs, hB⟩ := h.bdB
  obtain ⟨cs', hD⟩ := h.bcB
  have hM := h.ldM
  obtain ⟨n5, n26⟩ := h.ne hB
  exact hK w' ⟨m.blk n5 h.k5, m.blk n26 h.k26, h.lc.keep fun a ha => by cases ha; exact m.block _ hD.lt h.cd, l,
    h.o1.keep fun a ha => m.block _ (h.o1.lt ha).1 (by have h1 := (h.o1.lt ha).2; show a.block ≠ bd; omega),
    h.o2.keep fun a ha => m.block _ (h.o2.lt ha).1 (by have h1 := (h.o2.lt ha).2; show a.block ≠ bd; omega),
    h.kp.trans (Kp.of_mod m (fun _ => .inr rfl) h.ms), by rw [s]; exact h.ms, h.cd, h.lcM, h.ldM, h.tt⟩
theorem Mid.setTC (h : Mid M ws o5 o26 bc bd t1 c1 t2 c2 cl dl img xs ys xt yt w) {i : Nat} {b : UInt8} (hi : i < cl) {a : Addr} (ha : t1 = some a) {K : World → Prop} (hK : ∀ w', Mid M ws o5 o26 bc bd t1 c1 t2 c2 cl dl img xs ys (xt.set i b) yt w' → K w') :
    stC (a.add (i * 1)) (.int .u8 ((b.toNat : Nat) : Int)) w K := by
  refine h.o1.set1 hi (fun a' w' ha' l m s => ?_) ha
  rw [bv_set] at l
  obtain ⟨hM, cs, hB⟩ := h.o1.rdT.2 a' ha'
  obtain ⟨cs1, hC⟩ := h.bcB
  obtain ⟨cs2, hD⟩ := h.bdB
  have h1 := h.lcM
  have h2 := h.ldM
  obtain ⟨n5, n26⟩ := h.ne hB
  exact hK w' ⟨m.blk n5 h.k5, m.blk n26 h.k26, h.lc.keep fun a ha => (by cases ha; exact m.block _ hC.lt (by show bc ≠ _; omega)), h.ld.keep fun a ha => (by cases ha; exact m.block _ hD.lt (by show bd ≠ _; omega)), l,
    h.o2.keep fun b hb => m.block _ (h.o2.lt hb).1 (h.tt _ _ ha' hb).symm,
    h.kp.trans (Kp.of_mod m (fun h => by omega) h.ms), by rw [s]; exact h.ms, h.cd, h.lcM, h.ldM, h.tt⟩
theorem Mid.setTD (h : Mid M ws o5 o26 bc bd t1 c1 t2 c2 cl dl img xs ys xt yt w) {i : Nat} {b : UInt8} (hi : i < dl) {a : Addr} (ha : t2 = some a) {K : World → Prop} (hK : ∀ w', Mid M ws o5 o26 bc bd t1 c1 t2 c2 cl dl img xs ys xt (yt.set i b) w' → K w') :
    stC (a.add (i * 1)) (.int .u8 ((b.toNat : Nat) : Int)) w K := by
  refine h.o2.set1 hi (fun a' w' ha' l m s => ?_) ha
  rw [bv_set] at l
  obtain ⟨hM, cs, hB⟩ := h.o2.rdT.2 a' ha'
  obtain ⟨cs1, hC⟩ := h.bcB
  obtain ⟨cs2, hD⟩ := h.bdB
  have h1 := h.lcM
  have h2 := h.ldM
  obtain ⟨n5, n26⟩ := h.ne hB
  exact hK w' ⟨m.blk n5 h.k5, m.blk n26 h.k26, h.lc.keep fun a ha => (by cases ha; exact m.block _ hC.lt (by show bc ≠ _; omega)), h.ld.keep fun a ha => (by cases ha; exact m.block _ hD.lt (by show bd ≠ _; omega)),
    h.o1.keep fun b hb => m.block _ (h.o1.lt hb).1 (h.tt _ _ hb ha'), l,
    h.kp.trans (Kp.of_mod m (fun h => by omega) h.ms), by rw [s]; exact h.ms, h.cd, h.lcM, h.ldM, h.tt⟩
end
/-- x[i] = x[i] ^ k, the slice read twice out of its cell. -/
theorem turn {w : World} {o : Addr} {q : Option Addr} {n c i : Nat} {zs : List UInt8} (slot : w.cell? o = some (.slice q n c)) (rd : Rd 1 w q n (bv zs)) (hi : i < n) (k : UInt8) {kk : Int} (hk : kk = ((k.toNat : Nat) : Int)) {K : World → Prop}
    (hK : ∀ a b, q = some a → zs[i]? = some b → stC (a.add (i * 1)) (.int .u8 (((b ^^^ k).toNat : Nat) : Int)) w.drew K) :
    ∃ S : World → Prop, S w.drew ∧ ∃ (q37b : Option Addr) (q37l q37c : Nat), (∀ w', S w' → w'.cell? o = some (.slice q37b q37l q37c)) ∧ ∃ (q38b : Option Addr) (q38l q38c : Nat), (∀ w', S w' → w'.cell? o = some (.slice q38b q38l q38c)) ∧
      nlW q38b fun a39 => ((0 ≤ (i : Int) ∧ (i : Int) < ((q38l : Nat) : Int)) ∧ ∃ n40 : Int, (∀ w', S w' → w'.cell? (a39.add ((i : Int).toNat * 1)) = some (.int .u8 n40)) ∧
      nlW q37b fun a41 => ((0 ≤ (i : Int) ∧ (i : Int) < ((q37l : Nat) : Int)) ∧
        stC (a41.add ((i : Int).toNat * 1)) (.int .u8 (IntKind.u8.wrap (((BitVec.ofInt IntKind.u8.bits n40 ^^^ BitVec.ofInt IntKind.u8.bits kk).toNat : Nat)))) w.drew K)) := by
  refine ⟨fun w' => w' = w.drew, rfl, q, n, c, fun w' e => by rw [e]; exact slot, q, n, c, fun w' e => by rw [e]; exact slot, ?_⟩
  refine rd.at1 hi fun a v hq hv hc => ?_
  rw [bv_get] at hv
  cases e : zs[i]? with
  | none => rw [e] at hv; cases hv
  | some b =>
    rw [e] at hv
    simp only [Option.map_some, Option.some.injEq] at hv
    refine ⟨((b.toNat : Nat) : Int), fun w' e => by rw [e, hv, Int.toNat_natCast]; exact hc, ?_⟩
    subst hq
    refine ⟨⟨by omega, by omega⟩, ?_⟩
    rw [hk, xor_val, Int.toNat_natCast]
    exact hK a b rfl e
theorem UpT.of_kp {t N M : Nat} {S : Nat → Prop} {ws w : World} (h : Kp S M ws w) (hM : ws.heap.size ≤ M) (hS : ∀ k, N ≤ k → ¬ S k) : UpT t N ws w := fun k cs hk hb => h.block k (by have := hb.lt; omega) (hS k hk)
theorem elf_slots {N : Nat} {w : World} {g : Array Value} {en : Int} {l : List SegS} (h : ElfAt N w g en l) : g.toList.all one = true := by
  obtain ⟨q, c, vs, rfl, _⟩ := h
  rfl
theorem one_mul' (i : Nat) : i * 1 = i := Nat.mul_one i
variable {at_ bss n en : Int} {sb : Option Addr} {sl sc : Nat}
/-- The law. -/
theorem c_law {ib jb : Option Addr} {il ic jl jc : Nat} {xs ys : List UInt8} {w : World} (hx : Rd 1 w ib il (bv xs)) (hy : Rd 1 w jb jl (bv ys)) (hc : il ≤ 140737488351232) (hd : jl ≤ 140737488351232) :
    Calls Try.prog 10 #[.agg (imgC ib il ic jb jl jc at_ bss n en sb sl sc)] w (Ret fun v w' => v = .bool true ∧ Below w.heap.size w w') := by
  have lx : xs.length = il := by have := hx.len; rw [bv_length, Nat.mul_one] at this; exact this
  have ly : ys.length = jl := by have := hy.len; rw [bv_length, Nat.mul_one] at this; exact this
  refine W10_ok _ w _ (newW_intro fun a1 w1 k1 l1 b1 => ?_)
  have z1 := b1.size
  refine ⟨ib, il, ic, k1.cell rfl, jb, jl, jc, by rw [Addr.add_lit]; exact k1.cell rfl, c_dec (fun _ => ⟨rfl, b1⟩) (fun hmost => ?_)⟩
  have hmost : il + jl ≤ 300000 := by
    rw [wrap_in (by omega) (by omega)] at hmost
    omega
  refine ⟨_, rfl, row_whole k1, newW_intro fun a5 w5 k5 l5 b5 => stW_intro k5 fun w6 k6 m6 s6 => ?_⟩
  have z5 := b5.size
  have k16 := m6.blk (c := a1) (by have := k1.lt; omega) (below_blk b5 k1.lt k1)
  have b6 : Below w.heap.size w w6 := (b1.trans (b5.mono z1)).trans (m6.below (by omega) (by omega))
  have z6 := b6.size
  refine ⟨_, _, _, k16.cell rfl, (c_Lend (hx.below b6) (by omega)).mono ?_⟩
  rintro _ w7 ⟨_, rfl, q7, c7, rfl, e7, b7⟩
  have z7 := b7.size
  obtain ⟨bc, rfl, hbc, rfl, hxl, hB7⟩ := e7
  have a5lt := k6.lt
  have k67 := below_blk b7 k6.lt k6
  have k17 := below_blk b7 k16.lt k16
  have a5bc : a5 ≠ bc := by omega
  refine ⟨_, _, _, rfl, stC_intro k67 (show 0 < 7 by decide) fun w8 k8 m8 s8 => ?_⟩
  have k18 := m8.blk (c := a1) (by have := k1.lt; omega) k17
  have b8 : Below w.heap.size w w8 := (b6.trans (b7.mono z6)).trans (m8.below (by omega) (by omega))
  have z8 := b8.size
  have hB8 := m8.blk a5bc.symm hB7
  refine ⟨_, _, _, by rw [Addr.add_lit]; exact k18.cell rfl, (c_Lend (hy.below b8) (by omega)).mono ?_⟩
  rintro _ w9 ⟨_, rfl, q9, c9, rfl, e9, b9⟩
  have z9 := b9.size
  obtain ⟨bd, rfl, hbd, rfl, hyl, hB9⟩ := e9
  have hcd : bc ≠ bd := by have := hB8.lt; omega
  have a5bd : a5 ≠ bd := by have := k8.lt; omega
  have k89 := below_blk b9 k8.lt k8
  have k19 := below_blk b9 k18.lt k18
  have hC9 := below_blk b9 hB8.lt hB8
  refine ⟨_, _, _, rfl, ?_⟩
  rw [Addr.add_lit]
  refine stC_intro k89 (show 0 + 1 < 7 by decide) fun w10 k10 m10 s10 => ?_
  have k110 := m10.blk (c := a1) (by have := k1.lt; omega) k19
  have b10 : Below w.heap.size w w10 := (b8.trans (b9.mono z8)).trans (m10.below (by omega) (by omega))
  have z10 := b10.size
  have hC10 := m10.blk a5bc.symm hC9
  have hD10 := m10.blk a5bd.symm hB9
  have k10 : Blk w10 a5 (imgC (some ⟨bc, 0, none⟩) il (il + 64) (some ⟨bd, 0, none⟩) jl (jl + 64) at_ bss n en sb sl sc) 27 := k10
  have lc10 : Lent 0 w10 (some ⟨bc, 0, none⟩) il (il + 64) xs := ⟨bc, rfl, Nat.zero_le _, rfl, hxl, hC10⟩
  have ld10 : Lent 0 w10 (some ⟨bd, 0, none⟩) jl (jl + 64) ys := ⟨bd, rfl, Nat.zero_le _, rfl, hyl, hD10⟩
  have x10 : Rd 1 w10 (some ⟨bc, 0, none⟩) il (bv xs) := (lc10.own (by unfold maxLen; omega)).rd
  have y10 : Rd 1 w10 (some ⟨bd, 0, none⟩) jl (bv ys) := (ld10.own (by unfold maxLen; omega)).rd
  refine ⟨_, rfl, row_whole k10, (c_asmProg x10 y10 (by omega) (by omega)).mono ?_⟩
  rintro _ w11 ⟨_, rfl, g11, rfl, e11, b11⟩
  have z11 := b11.size
  have B11 := b10.trans (b11.mono z10)
  refine ⟨g11, rfl, newW_intro fun a12 w12 k12 l12 b12 => stW_intro k12 (fun w13 k13 m13 s13 => ?_) e11.size rfl (elf_slots e11)⟩
  have z12 := b12.size
  have k113 := m13.blk (c := a1) (by have := k110.lt; omega) (below_blk b12 (by have := k110.lt; omega) (below_blk b11 k110.lt k110))
  have b13 : Below w11.heap.size w11 w13 := b12.trans (m13.below (by omega) (by omega))
  have z13 := b13.size
  have B13 := B11.trans (b13.mono B11.size)
  have e13 := e11.below b13
  refine ⟨_, rfl, row_whole k113, (c_refProg (hx.below B13) (hy.below B13) (by omega) (by omega)).mono ?_⟩
  rintro _ w14 ⟨_, rfl, g14, rfl, f14, b14⟩
  have z14 := b14.size
  have B14 := B13.trans (b14.mono B13.size)
  have e14 := e13.below b14
  refine ⟨g14, rfl, newW_intro fun a15 w15 k15 l15 b15 => stW_intro k15 (fun w16 k16 m16 s16 => ?_) f14.size rfl (elf_slots f14)⟩
  have z15 := b15.size
  have b16 : Below w14.heap.size w14 w16 := b15.trans (m16.below (by omega) (by omega))
  have z16 := b16.size
  have B16 := B14.trans (b16.mono B14.size)
  have e16 := e14.below b16
  have f16 := f14.below b16
  have k1216 := below_blk b16 (by have := k13.lt; omega) (below_blk b14 k13.lt k13)
  have b1016 : Below w10.heap.size w10 w16 := ((b11.trans (b13.mono z11)).trans (b14.mono (by omega))).trans (b16.mono (by omega))
  refine ⟨_, e16.size, row_whole k1216, _, f16.size, row_whole k16, (c_sameElf e16 f16).mono ?_⟩
  rintro _ w17 ⟨_, rfl, rfl, b17⟩
  have z17 := b17.size
  refine ⟨_, rfl, ?_⟩
  rw [decide_eq_true ⟨rfl, rfl⟩]
  show ∃ _, _
  have B17 := B16.trans (b17.mono B16.size)
  have b1017 := b1016.trans (b17.mono b1016.size)
  have k517 := below_blk b1017 k10.lt k10
  have k117 := below_blk b1017 k110.lt k110
  have lc17 : Lent 0 w17 (some ⟨bc, 0, none⟩) il (il + 64) xs := ⟨bc, rfl, Nat.zero_le _, rfl, hxl, below_blk b1017 hC10.lt hC10⟩
  have ld17 : Lent 0 w17 (some ⟨bd, 0, none⟩) jl (jl + 64) ys := ⟨bd, rfl, Nat.zero_le _, rfl, hyl, below_blk b1017 hD10.lt hD10⟩
  refine ⟨_, _, _, k517.cell rfl, _, _, _, k117.cell rfl, (c_Kept lc17 (hx.below B17) (by omega)).mono ?_⟩
  rintro _ w18 ⟨_, rfl, rfl, b18⟩
  have z18 := b18.size
  refine ⟨_, rfl, ?_⟩
  rw [decide_eq_true rfl]
  show ∃ _, _
  have B18 := B17.trans (b18.mono B17.size)
  have k518 := below_blk b18 k517.lt k517
  have k118 := below_blk b18 k117.lt k117
  have ld18 := ld17.below b18
  refine ⟨_, _, _, k518.cell rfl, _, _, _, by rw [Addr.add_lit]; exact k118.cell rfl, (c_Kept ld18 (hy.below B18) (by omega)).mono ?_⟩
  rintro _ w19 ⟨_, rfl, rfl, b19⟩
  have z19 := b19.size
  refine ⟨_, rfl, ?_⟩
  rw [decide_eq_true rfl]
  show ∃ _, _
  have B19 := B18.trans (b19.mono B18.size)
  have k119 := below_blk b19 k118.lt k118
  have k519 := below_blk b19 k518.lt k518
  have lc19 := (lc17.below b18).below b19
  have ld19 := ld18.below b19
  have e19 := ((e16.below b17).below b18).below b19
  have f19 := ((f16.below b17).below b18).below b19
  have k1219 := below_blk b19 (by have := k1216.lt; omega) (below_blk b18 (by have := k1216.lt; omega) (below_blk b17 k1216.lt k1216))
  have k1519 := below_blk b19 (by have := k16.lt; omega) (below_blk b18 (by have := k16.lt; omega) (below_blk b17 k16.lt k16))
  have a1lt := k119.lt
  have a5lt' := k519.lt
  have bclt := hC10.lt
  have bdlt := hD10.lt
  -- the turned image
  refine ⟨_, rfl, row_whole k119, newW_intro fun a26 w20 k20 l20 b20 => stW_intro k20 fun w21 k21 m21 s21 => ?_⟩
  have z20 := b20.size
  have k121 := m21.blk (c := a1) (by omega) (below_blk b20 k119.lt k119)
  have b21 : Below w19.heap.size w19 w21 := b20.trans (m21.below (by omega) (by omega))
  have z21 := b21.size
  have B21 := B19.trans (b21.mono B19.size)
  refine ⟨_, _, _, k121.cell rfl, (c_CopyBytes (hx.below B21) (by omega)).mono ?_⟩
  rintro _ w22 ⟨_, rfl, t1, c1, rfl, o22, b22⟩
  have z22 := b22.size
  have k2622 := below_blk b22 k21.lt k21
  have a26lt := k21.lt
  refine ⟨_, _, _, rfl, stC_intro k2622 (show 0 < 7 by decide) fun w23 k23 m23 s23 => ?_⟩
  have b23 : Below w19.heap.size w19 w23 := (b21.trans (b22.mono z21)).trans (m23.below (by omega) (by omega))
  have z23 := b23.size
  have B23 := B19.trans (b23.mono B19.size)
  have k123 := below_blk b23 k119.lt k119
  have o23 := o22.keep fun a ha => m23.block _ (o22.lt ha).1 (by have := (o22.lt ha).2; omega)
  refine ⟨_, _, _, by rw [Addr.add_lit]; exact k123.cell rfl, (c_CopyBytes (hy.below B23) (by omega)).mono ?_⟩
  rintro _ w24 ⟨_, rfl, t2, c2, rfl, p24, b24⟩
  have z24 := b24.size
  have k2624 := below_blk b24 k23.lt k23
  have o24 := o23.below b24
  refine ⟨_, _, _, rfl, ?_⟩
  rw [Addr.add_lit]
  refine stC_intro k2624 (show 0 + 1 < 7 by decide) fun w25 k25 m25 s25 => ?_
  have b25 : Below w19.heap.size w19 w25 := (b23.trans (b24.mono z23)).trans (m25.below (by omega) (by omega))
  have z25 := b25.size
  have o25 := o24.keep fun a ha => m25.block _ (o24.lt ha).1 (by have := (o24.lt ha).2; omega)
  have p25 := p24.keep fun a ha => m25.block _ (p24.lt ha).1 (by have := (p24.lt ha).2; omega)
  have k525 := below_blk b25 k519.lt k519
  have mid0 : Mid w19.heap.size w19 a5 a26 bc bd t1 c1 t2 c2 il jl (fun q k c r m d => imgC q k c r m d at_ bss n en sb sl sc) xs ys xs ys w25 :=
    ⟨k525, k25, lc19.below b25, ld19.below b25, o25.mono (by omega), p25.mono (by omega), Kp.of_below b25 (Nat.le_refl _), b25.size, hcd, by omega, by omega, fun a b ha hb => by
      have h1 := (o22.lt ha).1
      have h2 := (p24.lt hb).2
      omega⟩
  have o5a : ∀ {w' : World} {A C A' C' : List UInt8}, Mid w19.heap.size w19 a5 a26 bc bd t1 c1 t2 c2 il jl (fun q k c r m d => imgC q k c r m d at_ bss n en sb sl sc) A C A' C' w' → w'.cell? ⟨a5, 0, none⟩ = some (.slice (some ⟨bc, 0, none⟩) il (il + 64)) := fun h => h.k5.cell rfl
  have o5b : ∀ {w' : World} {A C A' C' : List UInt8}, Mid w19.heap.size w19 a5 a26 bc bd t1 c1 t2 c2 il jl (fun q k c r m d => imgC q k c r m d at_ bss n en sb sl sc) A C A' C' w' → w'.cell? ((⟨a5, 0, none⟩ : Addr).add 1) = some (.slice (some ⟨bd, 0, none⟩) jl (jl + 64)) := fun h => by rw [Addr.add_lit]; exact h.k5.cell rfl
  have o26a : ∀ {w' : World} {A C A' C' : List UInt8}, Mid w19.heap.size w19 a5 a26 bc bd t1 c1 t2 c2 il jl (fun q k c r m d => imgC q k c r m d at_ bss n en sb sl sc) A C A' C' w' → w'.cell? ⟨a26, 0, none⟩ = some (.slice t1 il c1) := fun h => h.k26.cell rfl
  have o26b : ∀ {w' : World} {A C A' C' : List UInt8}, Mid w19.heap.size w19 a5 a26 bc bd t1 c1 t2 c2 il jl (fun q k c r m d => imgC q k c r m d at_ bss n en sb sl sc) A C A' C' w' → w'.cell? ((⟨a26, 0, none⟩ : Addr).add 1) = some (.slice t2 jl c2) := fun h => by rw [Addr.add_lit]; exact h.k26.cell rfl
  refine ⟨fun t w' => ∃ i : Nat, t = ((i : Int), ()) ∧ i ≤ il ∧ Mid w19.heap.size w19 a5 a26 bc bd t1 c1 t2 c2 il jl (fun q k c r m d => imgC q k c r m d at_ bss n en sb sl sc) (xo 60 xs i) ys (xo 60 xs i) ys w', fun t _ => il - t.1.toNat,
    ⟨(((0 : Nat) : Int), ()), rfl, 0, rfl, Nat.zero_le _, by rw [xo_zero]; exact mid0⟩, ?_⟩
  rintro _ _ w30 ⟨i, rfl, hi, mid⟩
  refine ⟨_, _, _, o5a mid, c_dec (fun hlt => ?_) (fun hge => ?_)⟩
  · have hlt : i < il := by simpa using hlt
    refine turn (o5a mid) (mid.lc.own (by unfold maxLen; omega)).rd hlt 60 rfl fun a b ha hb => ?_
    cases ha
    refine mid.drew.setC hlt fun w31 mid1 => ?_
    refine turn (o26a mid1) mid1.o1.rd hlt 60 rfl fun a b' ha hb' => ?_
    rw [hb] at hb'
    cases hb'
    refine mid1.drew.setTC hlt ha fun w32 mid2 => ?_
    rw [xo_get] at hb
    rw [xo_set hb] at mid2
    refine ⟨(((i + 1 : Nat) : Int), ()), by (try dsimp only); rw [step1 hlt (by omega)]; rfl, ⟨i + 1, rfl, hlt, mid2⟩, ?_⟩
    show il - (((i + 1 : Nat) : Int)).toNat < il - (i : Int).toNat
    omega
  · have hge : ¬ i < il := by simpa using hge
    have ei : i = il := by omega
    subst ei
    refine ⟨fun t w' => ∃ j : Nat, t = ((j : Int), ()) ∧ j ≤ jl ∧ Mid w19.heap.size w19 a5 a26 bc bd t1 c1 t2 c2 i jl (fun q k c r m d => imgC q k c r m d at_ bss n en sb sl sc) (xo 60 xs i) (xo 195 ys j) (xo 60 xs i) (xo 195 ys j) w', fun t _ => jl - t.1.toNat,
      ⟨(((0 : Nat) : Int), ()), rfl, 0, rfl, Nat.zero_le _, by rw [xo_zero 195]; exact mid⟩, ?_⟩
    rintro _ _ w40 ⟨j, rfl, hj, mid⟩
    refine ⟨_, _, _, o5b mid, c_dec (fun hlt => ?_) (fun hge => ?_)⟩
    · have hlt : j < jl := by simpa using hlt
      refine turn (o5b mid) (mid.ld.own (by unfold maxLen; omega)).rd hlt 195 rfl fun a b ha hb => ?_
      cases ha
      refine mid.drew.setD hlt fun w31 mid1 => ?_
      refine turn (o26b mid1) mid1.o2.rd hlt 195 rfl fun a b' ha hb' => ?_
      rw [hb] at hb'
      cases hb'
      refine mid1.drew.setTD hlt ha fun w32 mid2 => ?_
      rw [xo_get] at hb
      rw [xo_set hb] at mid2
      refine ⟨(((j + 1 : Nat) : Int), ()), by (try dsimp only); rw [step1 hlt (by omega)]; rfl, ⟨j + 1, rfl, hlt, mid2⟩, ?_⟩
      show jl - (((j + 1 : Nat) : Int)).toNat < jl - (j : Int).toNat
      omega
    · have hS : ∀ k, w10.heap.size ≤ k → ¬ (k = bc ∨ k = bd) := fun k hk h => by omega
      have hS' : ∀ k, w13.heap.size ≤ k → ¬ (k = bc ∨ k = bd) := fun k hk h => by omega
      have kp := mid.drew.kp
      have e40 := e19.keep (UpT.of_kp kp (Nat.le_refl _) hS) (UpT.of_kp kp (Nat.le_refl _) hS)
      have f40 := f19.keep (UpT.of_kp kp (Nat.le_refl _) hS') (UpT.of_kp kp (Nat.le_refl _) hS')
      have k1240 := kp.blk k1219 k1219.lt (hS _ (by omega))
      have k1540 := kp.blk k1519 k1519.lt (hS _ (by omega))
      have B40 : Below w.heap.size w w40.drew := B19.trans (kp.below B19.size fun k hk h => by omega)
      refine ⟨fun w' => w' = w40.drew, rfl, _, e40.size, fun w' e => (by rw [e]; exact row_whole k1240), _, f40.size, fun w' e => (by rw [e]; exact row_whole k1540), (c_sameElf e40 f40).mono ?_⟩
      rintro _ w41 ⟨_, rfl, rfl, b41⟩
      refine ⟨_, rfl, ?_⟩
      rw [decide_eq_true ⟨rfl, rfl⟩]
      show ∃ _, _
      have z41 := b41.size
      have B41 := B40.trans (b41.mono B40.size)
      have k541 := below_blk b41 mid.drew.k5.lt mid.drew.k5
      have k2641 := below_blk b41 mid.drew.k26.lt mid.drew.k26
      have lc41 := mid.drew.lc.below b41
      have ld41 := mid.drew.ld.below b41
      have o41 := mid.drew.o1.below b41
      have p41 := mid.drew.o2.below b41
      refine ⟨fun w' => Blk w' a5 _ _ ∧ Blk w' a26 _ _, ⟨k541, k2641⟩, _, rfl, fun w' h => row_whole h.1, _, rfl, fun w' h => row_whole h.2,
        (c_asmProg (lc41.own (by unfold maxLen; omega)).rd (ld41.own (by unfold maxLen; omega)).rd (by omega) (by omega)).mono ?_⟩
      rintro _ w42 ⟨_, rfl, g42, rfl, e42, b42⟩
      have z42 := b42.size
      have B42 := B41.trans (b42.mono B41.size)
      refine ⟨g42, rfl, fun w' => Blk w' a5 _ _ ∧ Blk w' a26 _ _, fun w' h => h, ⟨below_blk b42 k541.lt k541, below_blk b42 k2641.lt k2641⟩,
        (c_refProg (o41.below b42).rd (p41.below b42).rd (by omega) (by omega)).mono ?_⟩
      rintro _ w43 ⟨_, rfl, g43, rfl, f43, b43⟩
      have z43 := b43.size
      have B43 := B42.trans (b43.mono B42.size)
      refine ⟨g43, rfl, (c_sameElf (e42.below b43) f43).mono ?_⟩
      rintro _ w44 ⟨_, rfl, rfl, b44⟩
      refine ⟨_, rfl, ?_, B43.trans (b44.mono B43.size)⟩
      rw [decide_eq_true ⟨rfl, rfl⟩]
end Go.Proofs.Ytceciiemnagdoaa
