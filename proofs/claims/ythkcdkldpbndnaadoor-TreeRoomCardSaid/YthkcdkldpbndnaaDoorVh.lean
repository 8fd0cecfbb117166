/- Scripts as laws are handed them; the law TreeOne, walked. No condition. -/
import Derived.Test.YthkcdkldpbndnaaDoorVg
set_option linter.unusedVariables false
namespace Go.Proofs.YthkcdkldpbndnaaDoor
open Go.RowKit Go.Hx Go.WideShapes
section
variable {H : Type} {enc : TypeId × Value → H} {P : Program} {W w : World} {base : Nat} {spare : Nat → Bool} {held : Bool}
/-- The fields of a struct whose fields have one cell each. -/
theorem trod_cells {t : TypeId} {fuel : Nat} {cs : List Value} {x : DataW H × List MemPlace} {fs : Array Field} {tl : List TypeId} (hu : P.underlying t = some (.struct fs)) (hm : fs.toList.map (fun f => (f.type, f.offset)) = tl.zipIdx) (h1 : (tl.all fun u => Nat.beq (P.cellsOf u) 1) = true) (hcs : cs.length = tl.length)
    (h : DataW.trod enc P w base spare held fuel t cs = some x) : ∀ (i : Nat) (u : TypeId), tl[i]? = some u → ∃ (c : Value) (y : DataW H × List MemPlace) (m : Nat), cs[i]? = some c ∧ DataW.trod enc P w base spare held m u [c] = some y := fun i u hi => by
  obtain ⟨xs, m, _, hx, hl, hlen, hf⟩ := DataW.trod_struct hu h
  have hil : i < tl.length := (List.getElem?_eq_some_iff.1 hi).1
  have hz : (fs.toList.map (fun f => (f.type, f.offset)))[i]? = some (u, i) := by
    rw [hm, List.getElem?_zipIdx, hi]; simp
  rw [List.getElem?_map, Array.getElem?_toList] at hz
  obtain ⟨f, g, e⟩ := Option.map_eq_some_iff.1 hz
  simp only [Prod.mk.injEq] at e
  have r := hf i f g
  have hc1 : P.cellsOf u = 1 := Nat.eq_of_beq_eq_true (List.all_eq_true.1 h1 u (List.mem_of_getElem? hi))
  rw [e.1, e.2, hc1] at r
  have hix : i < xs.length := by rw [hlen]; exact (Array.getElem?_eq_some_iff.1 g).1
  rw [List.getElem?_eq_getElem hix] at r
  have hic : i < cs.length := by omega
  have ed : (cs.drop i).take 1 = [cs[i]] := by
    rw [List.drop_eq_getElem_cons hic]; rfl
  rw [ed] at r
  exact ⟨_, _, m, List.getElem?_eq_getElem hic, r⟩
theorem trod_bytes0 {t e : TypeId} {fuel : Nat} {v : Value} {x : DataW H × List MemPlace} (he : P.underlying t = some (.slice e)) (h8 : P.underlying e = some (.int .u8)) (hc : P.cellsOf e = 1)
    (h : DataW.trod enc P w base spare held fuel t [v] = some x) : ∃ (q : Option Addr) (n c : Nat) (xs : List UInt8), v = .slice q n c ∧ Rd 1 w q n (bv xs) ∧ n ≤ c := by
  rcases Go.ChangeShapes.open_ints he h8 hc h with ⟨h5, _⟩ | ⟨a2, l2, c2, zs, h5, _, hl2, _, hz, _, hcell, hwf⟩
  · have h5 : v = .slice none 0 0 := by simpa using h5
    exact ⟨none, 0, 0, [], h5, Rd.empty _ _ _, Nat.le_refl _⟩
  · have h5 : v = .slice (some a2) l2 c2 := by simpa using h5
    have hle : l2 ≤ zs.length := by rw [hz]; split <;> omega
    refine ⟨some a2, l2, c2, (zs.take l2).map fun n => UInt8.ofNat n.toNat, h5, ⟨?_, fun h => (by cases h), fun b hb' => ?_⟩, hl2⟩
    · rw [bv_length, List.length_map, List.length_take]; omega
    · cases hb'
      rw [← ints_bv _ fun n hn => hwf n (List.mem_of_mem_take hn)]
      intro j v hv
      rw [List.getElem?_toArray, List.getElem?_map] at hv
      cases e1 : (zs.take l2)[j]? with
      | none => rw [e1] at hv; cases hv
      | some z =>
        rw [e1] at hv
        cases hv
        have hj := (List.getElem?_eq_some_iff.1 e1).1
        rw [List.length_take] at hj
        rw [hcell j (by omega)]
        rw [List.getElem?_take_of_lt (by omega)] at e1
        rw [List.getD_eq_getElem?_getD, e1]; rfl
/-- A slice of structs of k cells each. -/
theorem arg_structs {t e : TypeId} {v : Value} {k : Nat} {α : Type} [Inhabited α] {f : α → List Value} {Good : α → Prop} (h : ArgIs enc P W t v) (hu : P.underlying t = some (.slice e)) (hk : P.cellsOf e = k) (hfk : ∀ x, (f x).length = k) (hk0 : 0 < k)
    (hel : ∀ (cs : List Value) (m : Nat) (x : DataW H × List MemPlace), cs.length = k → DataW.trod enc P W 0 (fun _ => true) true m e cs = some x → ∃ y, cs = f y ∧ Good y) :
    ∃ (q : Option Addr) (n c : Nat) (l : List α), v = .slice q n c ∧ n ≤ c ∧ n ≤ maxLen ∧ l.length = n ∧ Rd k W q n ((l.map f).flatten) ∧ ∀ (i : Nat) (y : α), l[i]? = some y → Good y := by
  obtain ⟨b0, d, p, h1, ⟨fuel, h2⟩, hw⟩ := h
  obtain ⟨a, len, cap, rfl⟩ := okWide_slice hu h1
  rcases Go.Deep.open_slice hu h2 with ⟨h0, _⟩ | ⟨a', len', cap', m, n, D, Pl, h0, _, hl, hm, hmm, _, hx⟩
  · have h0 : [Value.slice a len cap] = [.slice none 0 0] := h0
    cases h0
    exact ⟨none, 0, 0, [], rfl, Nat.le_refl _, Nat.zero_le _, rfl, Rd.empty _ _ _, fun i y hy => by simp at hy⟩
  · have h0 : [Value.slice a len cap] = [.slice (some a') len' cap'] := h0
    cases h0
    have hlm : len ≤ m := by rw [hmm]; split <;> omega
    have key : ∀ i, i < len → ∃ y : α, RowAt W (a'.add (i * k)) (f y).toArray ∧ Good y := fun i hi => by
      obtain ⟨cs, h3, h4⟩ := hx i (by omega)
      rw [hk] at h3
      obtain ⟨h5, h6⟩ := cells_row _ _ h3
      obtain ⟨y, rfl, hy⟩ := hel cs n _ h5 h4
      exact ⟨y, h6, hy⟩
    let X : Nat → α := fun i => if h : i < len then Classical.choose (key i h) else default
    have hX : ∀ i, i < len → RowAt W (a'.add (i * k)) (f (X i)).toArray ∧ Good (X i) := fun i hi => by
      have : X i = Classical.choose (key i hi) := dif_pos hi
      rw [this]
      exact Classical.choose_spec (key i hi)
    have hget : ∀ i, i < len → ((List.range len).map X)[i]? = some (X i) := fun i hi => by rw [List.getElem?_map, List.getElem?_range hi]; rfl
    refine ⟨some a', len, cap, (List.range len).map X, rfl, hl, by omega, by simp, ⟨by rw [flat_len hfk]; simp, fun h => (by cases h), fun b hb' => ?_⟩, fun i y hy => ?_⟩
    · cases hb'
      intro j v hv
      rw [List.getElem?_toArray] at hv
      have hj := (List.getElem?_eq_some_iff.1 hv).1
      rw [flat_len hfk, List.length_map, List.length_range] at hj
      have hi : j / k < len := Nat.div_lt_of_lt_mul (by rw [Nat.mul_comm]; exact hj)
      have hr : j % k < k := Nat.mod_lt _ hk0
      have hjj : j = j / k * k + j % k := by rw [Nat.mul_comm]; exact (Nat.div_add_mod j k).symm
      have hfa := flat_at hfk (hget _ hi)
      have hv2 : (f (X (j / k)))[j % k]? = some v := by
        rw [← hfa, List.getElem?_take_of_lt hr, List.getElem?_drop, ← hjj]
        exact hv
      have := (hX _ hi).1 (j % k) v (by rw [List.getElem?_toArray]; exact hv2)
      rw [Addr.add_add, ← hjj] at this
      exact this
    · by_cases hi : i < len
      · rw [hget i hi] at hy
        cases hy
        exact (hX i hi).2
      · rw [List.getElem?_eq_none (by simpa using hi)] at hy; cases hy
end
structure OpD where
  k : Int
  cwd : Int
  ino : Int
  path : List UInt8
  ty : Int
  ma : Int
  mi : Int
  off : Int
  n : Int
  q : Option Addr
  l : Nat
  c : Nat
  xs : List UInt8
instance : Inhabited OpD := ⟨⟨0, 0, 0, [], 0, 0, 0, 0, 0, none, 0, 0, []⟩⟩
def opCs (o : OpD) : List Value := (opL o.k o.cwd o.ino o.path o.ty o.ma o.mi o.off o.n o.q o.l o.c).toList
theorem opCs_len (o : OpD) : (opCs o).length = 10 := rfl
set_option maxRecDepth 100000 in
/-- A script. -/
theorem arg_ops {H : Type} {enc : TypeId × Value → H} {W : World} {v : Value} (h : ArgIs enc Tryd.prog W 139 v) :
    ∃ (q : Option Addr) (n c : Nat) (l : List OpD), v = .slice q n c ∧ n ≤ c ∧ n ≤ maxLen ∧ l.length = n ∧ Rd 10 W q n ((l.map opCs).flatten) ∧ ∀ (i : Nat) (o : OpD), l[i]? = some o → Rd 1 W o.q o.l (bv o.xs) ∧ o.l ≤ o.c := by
  refine arg_structs (e := 126) (f := opCs) h (by kernel_rfl) (by kernel_rfl) opCs_len (by decide) fun cs m x hl ht => ?_
  have hf := trod_cells (fs := opF) (tl := [3, 3, 3, 9, 3, 46, 46, 3, 3, 24]) (by kernel_rfl) (by kernel_rfl) (by kernel_rfl) hl ht
  match cs, hl with
  | [c0, c1, c2, c3, c4, c5, c6, c7, c8, c9], _ =>
    have int : ∀ i u (k : IntKind) c, Tryd.prog.underlying u = some (.int k) → ([3, 3, 3, 9, 3, 46, 46, 3, 3, 24] : List TypeId)[i]? = some u → [c0, c1, c2, c3, c4, c5, c6, c7, c8, c9][i]? = some c → ∃ n, c = Value.int k n := fun i u k c hu hi hc => by
      obtain ⟨c', x, m, e, r⟩ := hf i u hi
      rw [hc] at e
      cases e
      obtain ⟨n, hn, _⟩ := DataW.trod_int hu r
      exact ⟨n, by simpa using hn⟩
    obtain ⟨n0, rfl⟩ := int 0 _ .i64 _ (by kernel_rfl) rfl rfl
    obtain ⟨n1, rfl⟩ := int 1 _ .i64 _ (by kernel_rfl) rfl rfl
    obtain ⟨n2, rfl⟩ := int 2 _ .i64 _ (by kernel_rfl) rfl rfl
    obtain ⟨n4, rfl⟩ := int 4 _ .i64 _ (by kernel_rfl) rfl rfl
    obtain ⟨n5, rfl⟩ := int 5 _ .i16 _ (by kernel_rfl) rfl rfl
    obtain ⟨n6, rfl⟩ := int 6 _ .i16 _ (by kernel_rfl) rfl rfl
    obtain ⟨n7, rfl⟩ := int 7 _ .i64 _ (by kernel_rfl) rfl rfl
    obtain ⟨n8, rfl⟩ := int 8 _ .i64 _ (by kernel_rfl) rfl rfl
    obtain ⟨c', x, m, e, r⟩ := hf 3 _ rfl
    cases e
    obtain ⟨s, h3, _⟩ := DataW.trod_string (by kernel_rfl) r
    have h3 : c3 = .string s := by simpa using h3
    subst h3
    obtain ⟨c', x, m, e, r⟩ := hf 9 _ rfl
    cases e
    obtain ⟨q, n, c, xs, rfl, hrd, hle⟩ := trod_bytes0 (e := 5) (by kernel_rfl) (by kernel_rfl) (by kernel_rfl) r
    refine ⟨⟨n0, n1, n2, s.data.toList, n4, n5, n6, n7, n8, q, n, c, xs⟩, ?_, hrd, hle⟩
    show _ = [_, _, _, Value.string (str s.data.toList), _, _, _, _, _, _]
    rw [← str_of]
theorem wrap_u32 (n : Int) : IntKind.u32.wrap n = n % 4294967296 := by
  unfold IntKind.wrap
  simp only [IntKind.bits, IntKind.signed]
  simp
/-- How many frames a house of that number has. -/
def houseF (n : Int) : Nat := 16 + (n % 4294967296 % 280).toNat
theorem houseF_ok (n : Int) : 16 ≤ houseF n ∧ houseF n < 296 := by
  unfold houseF
  omega
theorem houseF_eq (n : Int) : IntKind.i64.wrap ((16 : Int) + (IntKind.i64.wrap ((IntKind.u32.wrap n).tmod (280 : Int)))) = ((houseF n : Nat) : Int) := by
  rw [wrap_u32, Int.tmod_eq_emod_of_nonneg (by omega)]
  have e3 : IntKind.i64.wrap (n % 4294967296 % 280) = n % 4294967296 % 280 := wrap_in (by omega) (by omega)
  rw [e3, wrap_in (by omega) (by omega)]
  unfold houseF
  omega
theorem c_cheap (o : OpD) (w : World) : Calls Tryd.prog 57 #[.agg (opCs o).toArray] w (Ret fun v w' => v = .bool (decide (o.l ≤ 400000 ∧ o.path.length ≤ 1000)) ∧ Below w.heap.size w w') := by
  refine W57_ok _ w _ (newW_intro fun a1 w1 k1 l1 b1 => ⟨o.q, o.l, o.c, by rw [Addr.add_lit]; exact k1.cell rfl, c_dec (fun h1 => ⟨_, by rw [Addr.add_lit]; exact k1.cell rfl, ?_, b1⟩) (fun h1 => ⟨?_, b1⟩)⟩)
  · rw [str_size]
    congr 1
    rw [decide_eq_decide]
    have h1 : ((o.l : Nat) : Int) ≤ 400000 := h1
    omega
  · have h1 : ¬ ((o.l : Nat) : Int) ≤ 400000 := h1
    rw [decide_eq_false (by omega)]
/-- A step of a script. -/
def stepM (M : List ND) (n : Nat) (o : OpD) : MS := doesM M n o.k o.cwd o.ino o.path o.ty o.ma o.mi o.off o.xs
section
variable {N t r mb hb F : Nat} {H : List Nat} {Q : List SH} {w : World} {M : List ND} {n : Nat}
theorem c_step (h : TI N t r mb hb F H Q w M n) (hN : N ≤ w.heap.size) (vt : VT M 0) (o : OpD) (hq : Rd 1 w o.q o.l (bv o.xs)) (hl : o.l ≤ 400000) :
    Calls Tryd.prog 58 #[rp t, .agg (opCs o).toArray] w (Ret fun v w' => v = .tuple #[] ∧ ∃ Q' M' n', (M', n') = stepM M n o ∧ TI N t r mb hb F H Q' w' M' n' ∧ VT M' 0 ∧ TrG t r mb hb Q Q' w w') := by
  refine (c_does h hN vt hq hl).mono ?_
  rintro _ w1 ⟨v, rfl, rfl, Q', h1, g1⟩
  exact ⟨_, rfl, rfl, Q', _, _, rfl, h1, VT.does h vt h1.ok, g1⟩
end
set_option maxRecDepth 100000 in
theorem c_treeOne {xb : Option Addr} {xl xc : Nat} {ops : List OpD} {x0 : Int} {w : World} (hx : Rd 10 w xb xl ((ops.map opCs).flatten)) (hl : ops.length = xl) (ho : ∀ (i : Nat) (o : OpD), ops[i]? = some o → Rd 1 w o.q o.l (bv o.xs) ∧ o.l ≤ o.c) :
    Calls Tryd.prog 8 #[.int .i64 x0, .slice xb xl xc] w (Ret fun v w' => v = .bool true ∧ Below w.heap.size w w') := by
  have hF := houseF_ok x0
  refine W8_ok _ _ _ _ w _ ⟨by decide, ?_⟩
  rw [houseF_eq]
  refine (c_house (F := houseF x0) (by omega) (by omega)).mono ?_
  rintro _ w1 ⟨_, rfl, t, r, mb, hb, Q, rfl, h1, b1⟩
  refine ⟨_, _, rfl, c_b (fun h => by cases h) (fun _ => ⟨fun _ W => ∃ Q M n, TI w.heap.size t r mb hb (houseF x0) [] Q W M n ∧ VT M 0 ∧ Below w.heap.size w W, ?_, ?_⟩)⟩
  · rintro _ _ w2 ⟨Q2, M2, n2, h2, v2, b2⟩
    refine (c_census h2).mono ?_
    rintro _ w3 ⟨_, rfl, V, rfl, hc, b3⟩
    refine ⟨_, rfl, (c_right hc v2).mono ?_⟩
    rintro _ w4 ⟨_, rfl, rfl, b4⟩
    exact ⟨_, rfl, rfl, (b2.trans (b3.mono b2.size)).trans (b4.mono (Nat.le_trans b2.size b3.size))⟩
  · refine ⟨fun t' W => ∃ (i : Nat) (Q : List SH) (M : List ND) (n : Nat), t' = ((i : Int), ()) ∧ i ≤ 400 ∧ TI w.heap.size t r mb hb (houseF x0) [] Q W M n ∧ VT M 0 ∧ Below w.heap.size w W, fun t' _ => 400 - t'.1.toNat,
      ⟨(((0 : Nat) : Int), ()), rfl, 0, Q, M0, _, rfl, Nat.zero_le _, h1, VT0, b1⟩, ?_⟩
    rintro _ _ w2 ⟨i, Q2, M2, n2, rfl, hi, h2, v2, b2⟩
    have done : ∃ u : Unit, ([] : List Value) = tv [] u ∧ (fun (_ : Unit) (W : World) => ∃ Q M n, TI w.heap.size t r mb hb (houseF x0) [] Q W M n ∧ VT M 0 ∧ Below w.heap.size w W) u w2 := ⟨(), rfl, Q2, M2, n2, h2, v2, b2⟩
    refine c_dec (fun hlt => c_dec (fun hlt4 => ?_) (fun _ => done)) (fun _ => done)
    have hltN : i < xl := by
      have : (i : Int) < ((xl : Nat) : Int) := hlt
      omega
    have hltM : i < 400 := by
      have : (i : Int) < 400 := hlt4
      omega
    refine rd_flat opCs_len (hx.below b2) hl hltN fun a o _ hoo hr => ⟨_, rfl, by rw [Int.toNat_natCast]; exact hr, (c_cheap o w2).mono ?_⟩
    rintro _ w3 ⟨_, rfl, rfl, b3⟩
    have z2 := b2.size
    have b03 := b2.trans (b3.mono z2)
    have h3 := h2.below b3
    refine ⟨_, rfl, c_dec (fun hch => ?_) (fun _ => ?_)⟩
    · refine rd_flat opCs_len (hx.below b03) hl hltN fun a' o' _ hoo' hr' => ⟨_, rfl, by rw [Int.toNat_natCast]; exact hr', ?_⟩
      rw [hoo] at hoo'
      cases hoo'
      refine (c_step h3 b03.size v2 o ((ho i o hoo).1.below b03) hch.1).mono ?_
      rintro _ w4 ⟨_, rfl, rfl, Q4, M4, n4, _, h4, v4, g4⟩
      have b04 := b03.trans (g4.bel h3 b03.size)
      refine ⟨rfl, (c_census h4).mono ?_⟩
      rintro _ w5 ⟨_, rfl, V, rfl, hc, b5⟩
      refine ⟨_, rfl, (c_right hc v4).mono ?_⟩
      rintro _ w6 ⟨_, rfl, rfl, b6⟩
      have b46 := b5.trans (b6.mono b5.size)
      refine ⟨_, rfl, c_nb (fun hf => absurd hf (by decide)) (fun _ => ⟨(((i + 1 : Nat) : Int), ()), by (try dsimp only); rw [step1 hltM (by omega)]; rfl, ⟨i + 1, Q4, M4, n4, rfl, hltM, h4.below b46, v4, b04.trans (b46.mono b04.size)⟩, ?_⟩)⟩
      show 400 - (((i + 1 : Nat) : Int)).toNat < 400 - ((i : Nat) : Int).toNat
      omega
    · refine ⟨(((i + 1 : Nat) : Int), ()), by (try dsimp only); rw [step1 hltM (by omega)]; rfl, ⟨i + 1, Q2, M2, n2, rfl, hltM, h3, v2, b03⟩, ?_⟩
      show 400 - (((i + 1 : Nat) : Int)).toNat < 400 - ((i : Nat) : Int).toNat
      omega
end Go.Proofs.YthkcdkldpbndnaaDoor
