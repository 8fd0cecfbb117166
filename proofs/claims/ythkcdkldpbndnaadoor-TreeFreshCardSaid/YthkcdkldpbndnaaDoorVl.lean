/- Two lists of entries share no memory: lone; sameDir. No condition. -/
import Derived.Test.YthkcdkldpbndnaaDoorVg
import Derived.Test.YthkcdkldpbndnaaDoorVk
set_option linter.unusedVariables false
namespace Go.Proofs.YthkcdkldpbndnaaDoor
open Go.RowKit Go.Hx
theorem rdTakeK {k : Nat} {w : World} {q : Option Addr} {n i : Nat} {vs : List Value} (h : Rd k w q n vs) (hi : i ≤ n) : Rd k w q i (vs.take (i * k)) :=
  ⟨by rw [List.length_take, h.len, Nat.min_eq_left (Nat.mul_le_mul_right _ hi)], fun hq => by have := h.nil hq; omega, fun a ha j v hv => by
    rw [List.getElem?_toArray] at hv
    have hj := (List.getElem?_eq_some_iff.1 hv).1
    rw [List.length_take] at hj
    rw [List.getElem?_take_of_lt (by omega)] at hv
    exact h.cell ha hv⟩
/-- A row of two is written. -/
theorem owSetE {e N : Nat} {w : World} {q : Option Addr} {n c : Nat} {vs : List Value} (h : Ow e 2 N w q n c vs) {i : Nat} (hi : i < n) {x : Int} {s : List UInt8} {K : World → Prop}
    (hK : ∀ a w' vs', q = some a → Ow e 2 N w' q n c vs' → vs'[i * 2]? = some (.int .i64 x) → (∀ j, j < n → j ≠ i → vs'[j * 2]? = vs[j * 2]?) → Mod a.block w w' → K w') :
    nlW q fun a => (0 ≤ (i : Int) ∧ (i : Int) < ((n : Nat) : Int)) ∧ stA 2 (a.add ((i : Int).toNat * 2)) (dirC x s) w K :=
  h.rd.atK hi fun a ha _ _ => by
    rcases h.blk with ⟨rfl, _⟩ | ⟨b, cs, rfl, h1, h2, h3, h4⟩
    · cases ha
    · cases ha
      have hc := h.le
      have hcs : cs.size = c * 2 := h3
      rw [Addr.add_lit, Nat.zero_add, Int.toNat_natCast]
      refine stA_intro h2 (show (dirC x s).size = 2 from rfl) (by omega) (fun v hv => List.all_eq_true.1 (show (dirC x s).toList.all one = true from rfl) v hv) fun w' k m _ => ?_
      have hos : (ovw cs (i * 2) (dirC x s).toList).size = c * 2 := by rw [ovw_size, hcs]
      have hg : ∀ j, j < n * 2 → ((ovw cs (i * 2) (dirC x s).toList).toList.take (n * 2))[j]? = if i * 2 ≤ j ∧ j < i * 2 + 2 then (dirC x s).toList[j - i * 2]? else vs[j]? := fun j hj => by
        rw [List.getElem?_take_of_lt hj, Array.getElem?_toList, ovw_get _ _ _ _ (by omega)]
        show (if i * 2 ≤ j ∧ j < i * 2 + 2 then _ else _) = _
        by_cases hc : i * 2 ≤ j ∧ j < i * 2 + 2
        · rw [if_pos hc, if_pos hc]
        · rw [if_neg hc, if_neg hc, ← h4, List.getElem?_take_of_lt hj, Array.getElem?_toList]
      refine hK ⟨b, 0, none⟩ w' _ rfl ⟨?_, hc, h.cap, .inr ⟨b, _, rfl, h1, k, hos, rfl⟩⟩ ?_ (fun j hj hne => ?_) m
      · rw [List.length_take, Array.length_toList, hos]; omega
      · rw [hg _ (by omega), if_pos (by omega), Nat.sub_self]; rfl
      · rw [hg _ (by omega), if_neg (by omega)]
/-- The head of a row. -/
theorem rd_ino {w : World} {q : Option Addr} {n : Nat} {vs : List Value} (h : Rd 2 w q n vs) {i : Nat} (hi : i < n) {C : Int} (hv : vs[i * 2]? = some (.int .i64 C)) {K : Int → Prop} (hK : K C) :
    nlW q fun a => (0 ≤ (i : Int) ∧ (i : Int) < ((n : Nat) : Int)) ∧ ∃ m : Int, w.cell? (a.add ((i : Int).toNat * 2)) = some (.int .i64 m) ∧ K m :=
  h.atK hi fun a ha _ _ => ⟨C, by rw [Int.toNat_natCast]; exact h.cell ha hv, hK⟩
def SB (q : Option Addr) (k : Nat) : Prop := ∃ a, q = some a ∧ k = a.block
/-- One list grows. -/
structure G1 (N : Nat) (xb : Option Addr) (n : Nat) (va : List Value) (C : Int) (w0 : World) (k : Nat) (q : Option Addr) (c : Nat) (w : World) : Prop where
  old : RdT 23 2 N w xb n va
  own : ∃ us : List Value, Ow 23 2 N w q (n + k) c (va ++ us) ∧ us.length = k * 2 ∧ ∀ j, j < k → us[j * 2]? = some (.int .i64 C)
  or : q = xb ∨ Far q xb
  loc : ∀ a, q = some a → SB xb a.block ∨ w0.heap.size ≤ a.block
  kp : Kp (SB xb) w0.heap.size w0 w
section
variable {N n : Nat} {xb : Option Addr} {va : List Value} {C : Int} {w0 : World}
theorem G1.start {c : Nat} (o : Ow 23 2 N w0 xb n c va) : G1 N xb n va C w0 0 xb c w0 :=
  ⟨o.rdT, ⟨[], by rw [List.append_nil]; exact o, rfl, fun j hj => by omega⟩, .inl rfl, fun a ha => .inl ⟨a, ha, rfl⟩, Kp.refl _ _ _⟩
theorem G1.push {k c : Nat} {q : Option Addr} {w : World} (h : G1 N xb n va C w0 k q c w) (hN : N ≤ w0.heap.size) (hb : n + k ≤ 1000000000) {g17 : Array Value} (hg : g17 = dirC C [])
    {K : Option Addr → Nat → Nat → World → Prop} (hK : ∀ q' c' w', G1 N xb n va C w0 (k + 1) q' c' w' → K q' (n + k + 1) c' w') :
    ∃ g : Array Value, bslP Tryd.prog 132 1 [(0, .agg g17)] g 23 ∧ newW g 23 w fun a w => apnW Tryd.prog 132 132 (.slice q (n + k) c) (.slice (some a) 1 1) w K := by
  subst hg
  obtain ⟨us, o, hul, hu⟩ := h.own
  have hw := h.kp.size
  refine o.push (by omega) kDs kD rfl (by decide) (fun u hu => ?_) (by omega) (by unfold maxLen; omega) fun q' c' w' o' b' g' => ?_
  · simp [Value.cells, dirC] at hu
    rcases hu with rfl | rfl <;> rfl
  have hsz := g'.size
  have vl : va.length = n * 2 := h.old.1.len
  have o'' : Ow 23 2 N w' q' (n + (k + 1)) c' (va ++ (us ++ (dirC C []).toList)) := by
    rw [← List.append_assoc]; exact o'
  refine hK q' c' w' ⟨?_, ⟨_, o'', ?_, fun j hj => ?_⟩, ?_, fun a ha => ?_, h.kp.trans ⟨g'.os, g'.tape, g'.output, g'.size, fun b hb hs => g'.block b (by omega) fun a ha e => ?_⟩⟩
  · rcases h.or with he | hf
    · rcases g'.old with ho | ho
      · have hr := rdTakeK o''.rd (i := n) (by omega)
        rw [List.take_left' vl] at hr
        refine ⟨by rwa [ho, he] at hr, fun a ha => o''.rdT.2 a (by rw [ho, he]; exact ha)⟩
      · exact h.old.keep fun a ha => ho _ (h.old.lt ha)
    · exact h.old.keep fun a ha => g'.block _ (h.old.lt ha) fun b hb => (hf b a hb ha).symm
  · rw [List.length_append, hul]; show k * 2 + 2 = _; omega
  · rcases Nat.lt_or_ge j k with h1 | h1
    · rw [List.getElem?_append_left (by omega)]; exact hu j h1
    · have : j = k := by omega
      subst this
      rw [List.getElem?_append_right (by omega), hul, Nat.sub_self]; rfl
  · rcases h.or with he | hf
    · rcases g'.old with ho | ho
      · exact .inl (ho.trans he)
      · by_cases hq : q' = q
        · exact .inl (hq.trans he)
        · refine .inr fun a b ha hb' => ?_
          rcases g'.new a ha with h1 | h1
          · exact absurd (ha.trans h1.symm) hq
          · have := h.old.lt hb'; omega
    · refine .inr fun a b ha hb' => ?_
      rcases g'.new a ha with h1 | h1
      · exact hf a b h1 hb'
      · have := h.old.lt hb'; omega
  · rcases g'.new a ha with h1 | h1
    · exact h.loc a h1
    · exact .inr (by omega)
  · rcases h.loc a ha with h1 | h1
    · exact hs (e ▸ h1)
    · omega
end
theorem bE1 : bldP Tryd.prog 23 [(0, .int .i64 (1001 : Int)), (1, .string (⟨#[120]⟩ : ByteArray))] (.agg (dirC 1001 [120])) := fun w => by kernel_rfl
theorem bE2 : bldP Tryd.prog 23 [(0, .int .i64 (1002 : Int)), (1, .string (⟨#[121]⟩ : ByteArray))] (.agg (dirC 1002 [121])) := fun w => by kernel_rfl
theorem bE3 : bldP Tryd.prog 23 [(0, .int .i64 (1003 : Int))] (.agg (dirC 1003 [])) := fun w => by kernel_rfl
theorem bE4 : bldP Tryd.prog 23 [(0, .int .i64 (1004 : Int))] (.agg (dirC 1004 [])) := fun w => by kernel_rfl
section
variable {N : Nat} {w : World} {xb yb : Option Addr} {xl xc yl yc : Nat} {va vb : List Value}
def SB2 (p q : Option Addr) (k : Nat) : Prop := SB p k ∨ SB q k
set_option maxRecDepth 100000 in
theorem c_lone (hx : Ow 23 2 N w xb xl xc va) (hy : Ow 23 2 N w yb yl yc vb) (hN : N ≤ w.heap.size) (hf : Far xb yb) (hxl : xl ≤ 1000000) (hyl : yl ≤ 1000000) :
    Calls Tryd.prog 67 #[.slice xb xl xc, .slice yb yl yc] w (Ret fun v w' => v = .bool true ∧ Kp (SB2 xb yb) w.heap.size w w') := by
  refine W67_ok _ _ _ _ _ _ w _ ?_
  have hxlt := fun a ha => (hx.lt (a := a) ha).1
  have hylt := fun a ha => (hy.lt (a := a) ha).1
  -- the first is written over
  refine ⟨fun t W => ∃ (i : Nat) (va : List Value), t = ((i : Int), ()) ∧ i ≤ xl ∧ Ow 23 2 N W xb xl xc va ∧ (∀ j, j < i → va[j * 2]? = some (.int .i64 1001)) ∧ Ow 23 2 N W yb yl yc vb ∧ Kp (SB2 xb yb) w.heap.size w W, fun t _ => xl - t.1.toNat,
    ⟨(((0 : Nat) : Int), ()), rfl, 0, va, rfl, Nat.zero_le _, hx, fun j hj => by omega, hy, Kp.refl _ _ _⟩, ?_⟩
  rintro _ _ w1 ⟨i, va, rfl, hi, x1, p1, y1, k1⟩
  refine c_dec (fun hlt => ?_) (fun hge => ?_)
  · have hlt : i < xl := by simpa using hlt
    refine ⟨_, bE1, owSetE x1 hlt fun a w2 va2 ha x2 e1 e2 m2 => ?_⟩
    refine ⟨(((i + 1 : Nat) : Int), ()), by (try dsimp only); rw [step1 hlt (by omega)]; rfl, ⟨i + 1, va2, rfl, hlt, x2, fun j hj => ?_, y1.keep fun b hb => m2.block _ (y1.lt hb).1 fun e => hf a b ha hb e.symm, k1.trans (Kp.of_mod m2 (fun _ => .inl ⟨a, ha, rfl⟩) k1.size)⟩, ?_⟩
    · by_cases hji : j = i
      · rw [hji]; exact e1
      · rw [e2 j (by omega) hji]; exact p1 j (by omega)
    · show xl - (((i + 1 : Nat) : Int)).toNat < xl - (i : Int).toNat
      omega
  have ei : i = xl := by have : ¬ i < xl := by simpa using hge
                         omega
  subst ei
  -- the second
  refine ⟨fun t W => ∃ (j : Nat) (vb : List Value), t = ((j : Int), ()) ∧ j ≤ yl ∧ Ow 23 2 N W yb yl yc vb ∧ (∀ k, k < j → vb[k * 2]? = some (.int .i64 1002)) ∧ Ow 23 2 N W xb i xc va ∧ Kp (SB2 xb yb) w.heap.size w W, fun t _ => yl - t.1.toNat,
    ⟨(((0 : Nat) : Int), ()), rfl, 0, vb, rfl, Nat.zero_le _, y1, fun j hj => by omega, x1, k1⟩, ?_⟩
  rintro _ _ w2 ⟨j, vb, rfl, hj, y2, p2, x2, k2⟩
  refine c_dec (fun hlt => ?_) (fun hge => ?_)
  · have hlt : j < yl := by simpa using hlt
    refine ⟨_, bE2, owSetE y2 hlt fun a w3 vb3 ha y3 e1 e2 m3 => ?_⟩
    refine ⟨(((j + 1 : Nat) : Int), ()), by (try dsimp only); rw [step1 hlt (by omega)]; rfl, ⟨j + 1, vb3, rfl, hlt, y3, fun k hk => ?_, x2.keep fun b hb => m3.block _ (x2.lt hb).1 fun e => hf b a hb ha e, k2.trans (Kp.of_mod m3 (fun _ => .inr ⟨a, ha, rfl⟩) k2.size)⟩, ?_⟩
    · by_cases hkj : k = j
      · rw [hkj]; exact e1
      · rw [e2 k (by omega) hkj]; exact p2 k (by omega)
    · show yl - (((j + 1 : Nat) : Int)).toNat < yl - (j : Int).toNat
      omega
  have ej : j = yl := by have : ¬ j < yl := by simpa using hge
                         omega
  subst ej
  have hw2 := k2.size
  -- the first grows
  refine ⟨fun t W => ∃ (k : Nat) (q : Option Addr) (c : Nat), t = ((q, i + k, c), (k : Int), ()) ∧ k ≤ 16 ∧ G1 N xb i va 1003 w2 k q c W, fun t _ => 16 - t.2.1.toNat,
    ⟨((xb, i, xc), ((0 : Nat) : Int), ()), rfl, 0, xb, xc, rfl, Nat.zero_le _, G1.start x2⟩, ?_⟩
  rintro _ _ w3 ⟨k, q, c, rfl, hk, g3⟩
  refine c_dec (fun hlt => ?_) (fun hge => ?_)
  · have hlt : k < 16 := by
      have : (k : Int) < 16 := hlt
      omega
    refine ⟨_, bE3, g3.push (by omega) (by omega) rfl fun q' c' w4 g4 => ?_⟩
    refine ⟨((q', i + k + 1, c'), ((k + 1 : Nat) : Int), ()), by (try dsimp only); rw [step1 hlt (by omega)]; rfl, ⟨k + 1, q', c', rfl, hlt, g4⟩, ?_⟩
    show 16 - (((k + 1 : Nat) : Int)).toNat < 16 - (k : Int).toNat
    omega
  have ek : k = 16 := by
    have : ¬ (k : Int) < 16 := hge
    omega
  subst ek
  have hw3 := g3.kp.size
  have y2lt : ∀ a, yb = some a → a.block < w2.heap.size := fun a ha => (y2.lt ha).1
  have nxy : ∀ a, yb = some a → ¬ SB xb a.block := fun a ha ⟨b, hb, e⟩ => hf b a hb ha e.symm
  have y3 := y2.keep (w' := w3) fun a ha => g3.kp.block _ (y2lt a ha) (nxy a ha)
  -- the second grows
  refine ⟨fun t W => ∃ (k : Nat) (q : Option Addr) (c : Nat), t = ((q, j + k, c), (k : Int), ()) ∧ k ≤ 16 ∧ G1 N yb j vb 1004 w3 k q c W, fun t _ => 16 - t.2.1.toNat,
    ⟨((yb, j, yc), ((0 : Nat) : Int), ()), rfl, 0, yb, yc, rfl, Nat.zero_le _, G1.start y3⟩, ?_⟩
  rintro _ _ w4 ⟨k, p, d, rfl, hk, g4⟩
  refine c_dec (fun hlt => ?_) (fun hge => ?_)
  · have hlt : k < 16 := by
      have : (k : Int) < 16 := hlt
      omega
    refine ⟨_, bE4, g4.push (by omega) (by omega) rfl fun q' c' w5 g5 => ?_⟩
    refine ⟨((q', j + k + 1, c'), ((k + 1 : Nat) : Int), ()), by (try dsimp only); rw [step1 hlt (by omega)]; rfl, ⟨k + 1, q', c', rfl, hlt, g5⟩, ?_⟩
    show 16 - (((k + 1 : Nat) : Int)).toNat < 16 - (k : Int).toNat
    omega
  have ek : k = 16 := by
    have : ¬ (k : Int) < 16 := hge
    omega
  subst ek
  have hw4 := g4.kp.size
  obtain ⟨us, oq, lu, pu⟩ := g3.own
  obtain ⟨ut, op, lt, pt⟩ := g4.own
  have val : va.length = i * 2 := g3.old.1.len
  have vbl : vb.length = j * 2 := g4.old.1.len
  -- what the second's growth leaves
  have rx : Rd 2 w4 xb i va := (g3.old.keep fun a ha => g4.kp.block _ (g3.old.lt ha) fun ⟨b, hb, e⟩ => hf a b ha hb e).1
  have rq : Rd 2 w4 q (i + 16) (va ++ us) := (oq.keep fun a ha => g4.kp.block _ (oq.lt ha).1 fun ⟨b, hb, e⟩ => by
    rcases g3.loc a ha with ⟨a', ha', e'⟩ | h'
    · exact hf a' b ha' hb (by rw [← e', e])
    · have := y2lt b hb
      omega).rd
  have ry : Rd 2 w4 yb j vb := g4.old.1
  have rp : Rd 2 w4 p (j + 16) (vb ++ ut) := op.rd
  have kk : Kp (SB2 xb yb) w.heap.size w w4 := (k2.trans (g3.kp.mono (fun _ _ => .inl) hw2)).trans (g4.kp.mono (fun _ _ => .inr) (by omega))
  -- all is looked at
  refine ⟨fun t W => ∃ i' : Nat, t = ((i' : Int), ()) ∧ i' ≤ i + 16 ∧ w4 = W, fun t _ => i + 16 - t.1.toNat, ⟨(((0 : Nat) : Int), ()), rfl, 0, rfl, Nat.zero_le _, rfl⟩, ?_⟩
  rintro _ _ _ ⟨m, rfl, hm, rfl⟩
  refine c_dec (fun hlt => ?_) (fun _ => ?_)
  · have hlt : m < i + 16 := by
      have : (m : Int) < ((i + 16 : Nat) : Int) := hlt
      omega
    have fin : ∃ t' : Int × Unit, ([.int .i64 (IntKind.i64.wrap ((m : Int) + (1 : Int)))] : List Value) = tv [(11, .int .i64)] t' ∧ (∃ i' : Nat, t' = ((i' : Int), ()) ∧ i' ≤ i + 16 ∧ w4 = w4) ∧ i + 16 - t'.1.toNat < i + 16 - ((m : Nat) : Int).toNat := by
      refine ⟨(((m + 1 : Nat) : Int), ()), by rw [step1 hlt (by omega)]; rfl, ⟨m + 1, rfl, hlt, rfl⟩, ?_⟩
      show i + 16 - (((m + 1 : Nat) : Int)).toNat < i + 16 - (m : Int).toNat
      omega
    refine c_dec (fun hmi => ?_) (fun hmi => c_dec (fun hge => ?_) (fun _ => fin))
    · have hmi : m < i := by
        have : (m : Int) < ((i : Nat) : Int) := hmi
        omega
      refine rd_ino rx hmi (p1 m hmi) (c_ne (fun h => absurd rfl h) (fun _ => rd_ino rq (by omega) ?_ (c_ne (fun h => absurd rfl h) (fun _ => c_dec (fun hge => ?_) (fun _ => fin)))))
      · rw [List.getElem?_append_left (by omega)]; exact p1 m hmi
      · exfalso
        have : (m : Int) ≥ ((i : Nat) : Int) := hge
        omega
    · have hge : i ≤ m := by
        have : (m : Int) ≥ ((i : Nat) : Int) := hge
        omega
      refine rd_ino rq (by omega) (C := 1003) ?_ (c_ne (fun h => absurd rfl h) (fun _ => fin))
      rw [List.getElem?_append_right (by omega), val, ← Nat.sub_mul]
      exact pu _ (by omega)
  refine ⟨fun t W => ∃ i' : Nat, t = ((i' : Int), ()) ∧ i' ≤ j + 16 ∧ w4 = W, fun t _ => j + 16 - t.1.toNat, ⟨(((0 : Nat) : Int), ()), rfl, 0, rfl, Nat.zero_le _, rfl⟩, ?_⟩
  rintro _ _ _ ⟨m, rfl, hm, rfl⟩
  refine c_dec (fun hlt => ?_) (fun _ => ⟨rfl, kk⟩)
  have hlt : m < j + 16 := by
    have : (m : Int) < ((j + 16 : Nat) : Int) := hlt
    omega
  have fin : ∃ t' : Int × Unit, ([.int .i64 (IntKind.i64.wrap ((m : Int) + (1 : Int)))] : List Value) = tv [(12, .int .i64)] t' ∧ (∃ i' : Nat, t' = ((i' : Int), ()) ∧ i' ≤ j + 16 ∧ w4 = w4) ∧ j + 16 - t'.1.toNat < j + 16 - ((m : Nat) : Int).toNat := by
    refine ⟨(((m + 1 : Nat) : Int), ()), by rw [step1 hlt (by omega)]; rfl, ⟨m + 1, rfl, hlt, rfl⟩, ?_⟩
    show j + 16 - (((m + 1 : Nat) : Int)).toNat < j + 16 - (m : Int).toNat
    omega
  refine c_dec (fun hmi => ?_) (fun hmi => c_dec (fun hge => ?_) (fun _ => fin))
  · have hmi : m < j := by
      have : (m : Int) < ((j : Nat) : Int) := hmi
      omega
    refine rd_ino ry hmi (p2 m hmi) (c_ne (fun h => absurd rfl h) (fun _ => rd_ino rp (by omega) ?_ (c_ne (fun h => absurd rfl h) (fun _ => c_dec (fun hge => ?_) (fun _ => fin)))))
    · rw [List.getElem?_append_left (by omega)]; exact p2 m hmi
    · exfalso
      have : (m : Int) ≥ ((j : Nat) : Int) := hge
      omega
  · have hge : j ≤ m := by
      have : (m : Int) ≥ ((j : Nat) : Int) := hge
      omega
    refine rd_ino rp (by omega) (C := 1004) ?_ (c_ne (fun h => absurd rfl h) (fun _ => fin))
    rw [List.getElem?_append_right (by omega), vbl, ← Nat.sub_mul]
    exact pt _ (by omega)
end
def kDE : List Kd := [.int .i64, .str]
theorem eq_dir (e : Ent) : AggEq Tryd.prog 23 (dirC e.1 e.2) (dirC e.1 e.2) true := by
  have hx : conf kDE (dirC e.1 e.2).toList := ⟨⟨_, rfl⟩, ⟨_, rfl⟩, trivial⟩
  have h1 := aggEq_of (P := Tryd.prog) (t := 23) (ks := kDE) (D := 3) (by decide) (by kernel_rfl) (by kernel_rfl) hx hx
  have e' : leq (dirC e.1 e.2).toList (dirC e.1 e.2).toList = true := by rw [leq_iff hx hx]
  rw [e'] at h1
  exact h1
theorem c_sameDir {xb yb : Option Addr} {xl xc yl yc : Nat} {l : List Ent} {w : World} (hx : Rd 2 w xb xl (dvs l)) (hy : Rd 2 w yb yl (dvs l)) (hl : l.length = xl) (hl' : l.length = yl) (hm : xl ≤ 1000000) :
    Calls Tryd.prog 65 #[.slice xb xl xc, .slice yb yl yc] w (Ret fun v w' => v = .bool true ∧ Below w.heap.size w w') := by
  refine W65_ok _ _ _ _ _ _ w _ ?_
  refine c_ne (fun h => absurd (show ((xl : Nat) : Int) = ((yl : Nat) : Int) by omega) h) (fun _ => ?_)
  refine ⟨fun t w' => ∃ i : Nat, t = ((i : Int), ()) ∧ i ≤ xl ∧ Below w.heap.size w w', fun t _ => xl - t.1.toNat, ⟨(((0 : Nat) : Int), ()), rfl, 0, rfl, Nat.zero_le _, Below.refl _ _⟩, ?_⟩
  rintro _ _ w1 ⟨i, rfl, hi, hb⟩
  refine c_dec (fun hlt => ?_) (fun hge => ⟨rfl, hb⟩)
  have hlt : i < xl := by simpa using hlt
  have b1 : Below w.heap.size w w1.drew := hb.trans ⟨rfl, rfl, rfl, Nat.le_refl _, fun _ _ => rfl⟩
  refine rd_flat dirC_len (hx.below b1) hl hlt fun a e _ he hr => ⟨dirC e.1 e.2, rfl, by rw [Int.toNat_natCast]; exact hr, ?_⟩
  refine rd_flat dirC_len (hy.below b1) hl' (by omega) fun a' e' _ he' hr' => ⟨dirC e.1 e.2, rfl, ?_, true, eq_dir e, ?_⟩
  · rw [he] at he'; cases he'
    rw [Int.toNat_natCast]; exact hr'
  refine c_nb (fun hne => absurd hne (by decide)) (fun _ => ⟨(((i + 1 : Nat) : Int), ()), by (try dsimp only); rw [step1 hlt (by omega)]; rfl, ⟨i + 1, rfl, hlt, b1⟩, ?_⟩)
  show xl - (((i + 1 : Nat) : Int)).toNat < xl - (i : Int).toNat
  omega
end Go.Proofs.YthkcdkldpbndnaaDoor
