/- The laws' helpers on lists of numbers: FreeWords, Words, CopyWords. Printed by wip/mkvk.py out of Fr. No condition. -/
import Derived.Test.YthkcdkldpbndnaaDoorFr
import Derived.Test.YthkcdkldpbndnaaDoorTT
import Derived.Test.YthkcdkldpbndnaaDoorWb
set_option linter.unusedVariables false
namespace Go.Proofs.YthkcdkldpbndnaaDoor
open Go.RowKit Go.Hx
def uv (xs : List Int) : List Value := xs.map fun b => .int .u64 b
theorem uv_length (xs : List Int) : (uv xs).length = xs.length := by simp [uv]
theorem uv_set (xs : List Int) (i : Nat) (b : Int) : (uv xs).set i (.int .u64 b) = uv (xs.set i b) := by simp [uv, List.map_set]
theorem uv_app (xs ys : List Int) : uv (xs ++ ys) = uv xs ++ uv ys := by simp [uv]
theorem uv_take (xs : List Int) (n : Nat) : (uv xs).take n = uv (xs.take n) := by simp [uv, List.map_take]
theorem fv_uv (l : List Nat) : fv l = uv (l.map fun j => ((fa j : Nat) : Int)) := by simp [fv, uv]
theorem rd_u64 {w : World} {q : Option Addr} {n : Nat} {l : List Int} (h : Rd 1 w q n (uv l)) {i : Nat} (hi : i < n) {K : Int → Prop} (hK : ∀ x, l[i]? = some x → K x) :
    nlW q fun a => (0 ≤ (i : Int) ∧ (i : Int) < ((n : Nat) : Int)) ∧ ∃ m : Int, w.cell? (a.add ((i : Int).toNat * 1)) = some (.int .u64 m) ∧ K m :=
  h.at1 hi fun a v _ hv hc => by
    unfold uv at hv
    rw [List.getElem?_map] at hv
    obtain ⟨x, hx, rfl⟩ := Option.map_eq_some_iff.1 hv
    exact ⟨_, by rw [Int.toNat_natCast]; exact hc, hK x hx⟩
theorem kUUs : slT Tryd.prog 156 48 = true := by kernel_rfl
theorem kUU : infB Tryd.prog 48 1 24 = true := by kernel_rfl
theorem ne_UU : (100 : TypeId) ≠ 48 := by decide
theorem take_snocA {α : Type} {xs : List α} {i : Nat} {b : α} (h : xs[i]? = some b) : xs.take (i + 1) = xs.take i ++ [b] := by
  rw [List.take_add_one, h]; rfl
theorem c_Words {xb yb : Option Addr} {xl xc yl yc : Nat} {xs : List Int} {w : World} (hx : Rd 1 w xb xl (uv xs)) (hy : Rd 1 w yb yl (uv xs)) (hm : xl ≤ maxLen) :
    Calls Tryd.prog 64 #[.slice xb xl xc, .slice yb yl yc] w (Ret fun v w' => v = .bool true ∧ Below w.heap.size w w') := by
  refine W64_ok _ _ _ _ _ _ w _ ?_
  have lx : xs.length = xl := by have := hx.len; rw [uv_length, Nat.mul_one] at this; exact this
  have ly : xs.length = yl := by have := hy.len; rw [uv_length, Nat.mul_one] at this; exact this
  refine c_ne (fun h => absurd (show ((xl : Nat) : Int) = ((yl : Nat) : Int) by omega) h) (fun _ => ?_)
  refine ⟨fun t w' => ∃ i : Nat, t = ((i : Int), ()) ∧ i ≤ xl ∧ Below w.heap.size w w', fun t _ => xl - t.1.toNat, ⟨(((0 : Nat) : Int), ()), rfl, 0, rfl, Nat.zero_le _, Below.refl _ _⟩, ?_⟩
  rintro _ _ w1 ⟨i, rfl, hi, hb⟩
  refine c_dec (fun hlt => ?_) (fun hge => ⟨rfl, hb⟩)
  have hlt : i < xl := by simpa using hlt
  have b1 : Below w.heap.size w w1.drew := hb.trans ⟨rfl, rfl, rfl, Nat.le_refl _, fun _ _ => rfl⟩
  refine rd_u64 (hx.below b1) hlt fun a ha => ?_
  refine rd_u64 (hy.below b1) (by omega) fun b hb' => ?_
  rw [ha] at hb'; cases hb'
  refine c_ne (fun hne => absurd rfl hne) (fun _ => ⟨(((i + 1 : Nat) : Int), ()), by (try dsimp only); rw [step1 hlt (by unfold maxLen at hm; omega)]; rfl, ⟨i + 1, rfl, hlt, b1⟩, ?_⟩)
  show xl - (((i + 1 : Nat) : Int)).toNat < xl - (i : Int).toNat
  omega
theorem c_CopyWords {xb : Option Addr} {xl xc : Nat} {xs : List Int} {w : World} (hx : Rd 1 w xb xl (uv xs)) (hm : xl ≤ 10000000000000) :
    Calls Tryd.prog 63 #[.slice xb xl xc] w (Ret fun v w' => ∃ q c, v = .slice q xl c ∧ Ow 100 1 w.heap.size w' q xl c (uv xs) ∧ Below w.heap.size w w') := by
  refine W63_ok _ _ _ w _ ?_
  have lx : xs.length = xl := by have := hx.len; rw [uv_length, Nat.mul_one] at this; exact this
  refine ⟨fun t w' => ∃ (i : Nat) (q : Option Addr) (c : Nat), t = ((q, i, c), (i : Int), ()) ∧ i ≤ xl ∧ Ow 100 1 w.heap.size w' q i c (uv (xs.take i)) ∧ Below w.heap.size w w', fun t _ => xl - t.2.1.toNat, ⟨((none, 0, 0), ((0 : Nat) : Int), ()), rfl, 0, none, 0, rfl, Nat.zero_le _, Ow.nil _ _ _ _, Below.refl _ _⟩, ?_⟩
  rintro _ _ w1 ⟨i, q, c, rfl, hi, ho, hb⟩
  refine c_dec (fun hlt => ?_) (fun hge => ?_)
  · have hlt : i < xl := by simpa using hlt
    refine rd_u64 (hx.below hb) hlt fun a ha => ?_
    refine ho.push hb.size kUs kU rfl (by decide) (fun u hu => by simp [Value.cells] at hu; rw [hu]; rfl) (by omega) (by unfold maxLen; omega) fun q' c' w' h1 h2 _ => ?_
    refine ⟨((q', i + 1, c'), ((i + 1 : Nat) : Int), ()), by (try dsimp only); rw [step1 hlt (by omega)]; rfl, ⟨i + 1, q', c', rfl, hlt, by rw [take_snocA ha, uv_app]; exact h1, hb.trans h2⟩, ?_⟩
    show xl - (((i + 1 : Nat) : Int)).toNat < xl - (i : Int).toNat
    omega
  · have hge : ¬ i < xl := by simpa using hge
    have e : i = xl := by omega
    subst e
    rw [List.take_of_length_le (by omega)] at ho
    exact ⟨q, c, rfl, ho, hb⟩
namespace U
def mk1 (i : Nat) : Int := IntKind.u64.wrap ((4611686018427387905 : Int) + (IntKind.u64.wrap ((2 : Int) * (IntKind.u64.wrap (i : Int)))))
def mk2 (i : Nat) : Int := IntKind.u64.wrap ((2305843009213693953 : Int) + (IntKind.u64.wrap ((2 : Int) * (IntKind.u64.wrap (i : Int)))))
theorem mk1_val (i : Nat) : IntKind.u64.wrap ((4611686018427387905 : Int) + (IntKind.u64.wrap ((2 : Int) * (IntKind.u64.wrap (i : Int))))) = mk1 i := rfl
theorem mk2_val (i : Nat) : IntKind.u64.wrap ((2305843009213693953 : Int) + (IntKind.u64.wrap ((2 : Int) * (IntKind.u64.wrap (i : Int))))) = mk2 i := rfl
section
variable {N : Nat} {L : List Sl} {xb : Option Addr}
/-- The first round: those below i are marked, the i-th up to k. -/
structure R1 (N : Nat) (L : List Sl) (xb : Option Addr) (w0 : World) (i k : Nat) (w : World) : Prop where
  rd : RdT 48 1 0 w xb L.length (L.map slV)
  fam : ∀ (j : Nat) (x : Sl), L[j]? = some x → ∃ xs, Ow 100 1 N w x.1 x.2.1 x.2.2 (uv xs) ∧ (j < i → xs = List.replicate x.2.1 (mk1 j)) ∧ (j = i → xs.take k = List.replicate k (mk1 j))
  bel : Kp (InL L) w0.heap.size w0 w
theorem R1.step {w0 w : World} {i k : Nat} {x : Sl} (h : R1 N L xb w0 i k w) (hN : N ≤ w0.heap.size) (hd : Dis L) (hx : L[i]? = some x) (hk : k < x.2.1) {a : Addr} (ha : x.1 = some a) {K : World → Prop} (hK : ∀ w', R1 N L xb w0 i (k + 1) w' → K w') :
    stC (a.add (k * 1)) (.int .u64 (mk1 i)) w K := by
  obtain ⟨xs, o, _, ht⟩ := h.fam i x hx
  have ht := ht rfl
  have hl := o.len
  rw [uv_length, Nat.mul_one] at hl
  refine o.set1 hk (fun a' w' ha' o' m s => ?_) ha
  obtain ⟨hNa, cs, hB⟩ := o.rdT.2 a' ha'
  rw [uv_set] at o'
  refine hK w' ⟨h.rd.up (UpT.of_mod m hB ne_UU), fun j y hy => ?_, h.bel.trans (Kp.of_mod m (fun _ => ⟨i, x, a', hx, ha', rfl⟩) h.bel.size)⟩
  by_cases hj : j = i
  · subst hj
    rw [hx] at hy
    cases hy
    refine ⟨_, o', fun h => by omega, fun _ => ?_⟩
    rw [List.take_add_one, List.take_set, List.getElem?_set_self (by omega), ht]
    rw [List.set_eq_of_length_le (by simp), List.replicate_succ']
    rfl
  · obtain ⟨ys, oy, h1, h2⟩ := h.fam j y hy
    exact ⟨ys, oy.keep fun b hb => m.block _ (oy.lt hb).1 (hd j i y x hj hy hx b a' hb ha'), h1, fun e => absurd e hj⟩
theorem R1.next {w0 w : World} {i k : Nat} {x : Sl} (h : R1 N L xb w0 i k w) (hx : L[i]? = some x) (hk : ¬ k < x.2.1) : R1 N L xb w0 (i + 1) 0 w :=
  ⟨h.rd, fun j y hy => by
    obtain ⟨xs, o, h1, h2⟩ := h.fam j y hy
    refine ⟨xs, o, fun hj => ?_, fun _ => rfl⟩
    have hl := o.len
    rw [uv_length, Nat.mul_one] at hl
    by_cases hji : j = i
    · subst hji
      rw [hx] at hy
      cases hy
      have h3 := h2 rfl
      have h4 := congrArg List.length h3
      rw [List.length_take, List.length_replicate] at h4
      have : k = x.2.1 := by omega
      subst this
      rwa [List.take_of_length_le (by omega)] at h3
    · exact h1 (by omega), h.bel⟩
/-- The second round: the grown ones below i, and the one that grows, up to k. -/
structure R2 (N : Nat) (L M : List Sl) (xb mq : Option Addr) (mc : Nat) (w0 : World) (w : World) : Prop where
  rd : RdT 48 1 0 w xb L.length (L.map slV)
  old : ∀ (j : Nat) (x : Sl), L[j]? = some x → RdT 100 1 N w x.1 x.2.1 (uv (List.replicate x.2.1 (mk1 j))) ∧ (M.length ≤ j → Ow 100 1 N w x.1 x.2.1 x.2.2 (uv (List.replicate x.2.1 (mk1 j))))
  new : ∀ (j : Nat) (x y : Sl), L[j]? = some x → M[j]? = some y → y.2.1 = x.2.1 + 64 ∧ Ow 100 1 N w y.1 y.2.1 y.2.2 (uv (List.replicate x.2.1 (mk1 j) ++ List.replicate 64 (mk2 j)))
  far : ∀ (j j' : Nat) (x y : Sl), j ≠ j' → L[j]? = some x → M[j']? = some y → Far x.1 y.1
  farM : Dis M
  more : Ow 48 1 w0.heap.size w mq M.length mc (M.map slV)
  bel : Kp (InL L) w0.heap.size w0 w
/-- .. while one grows. -/
structure R3 (N : Nat) (L M : List Sl) (xb mq : Option Addr) (mc : Nat) (w0 : World) (k : Nat) (m : Sl) (w : World) : Prop where
  rd : RdT 48 1 0 w xb L.length (L.map slV)
  old : ∀ (j : Nat) (x : Sl), L[j]? = some x → RdT 100 1 N w x.1 x.2.1 (uv (List.replicate x.2.1 (mk1 j))) ∧ (M.length + 1 ≤ j → Ow 100 1 N w x.1 x.2.1 x.2.2 (uv (List.replicate x.2.1 (mk1 j))))
  new : ∀ (j : Nat) (x y : Sl), L[j]? = some x → M[j]? = some y → y.2.1 = x.2.1 + 64 ∧ Ow 100 1 N w y.1 y.2.1 y.2.2 (uv (List.replicate x.2.1 (mk1 j) ++ List.replicate 64 (mk2 j)))
  far : ∀ (j j' : Nat) (x y : Sl), j ≠ j' → L[j]? = some x → M[j']? = some y → Far x.1 y.1
  farM : Dis M
  more : Ow 48 1 w0.heap.size w mq M.length mc (M.map slV)
  bel : Kp (InL L) w0.heap.size w0 w
  own : ∀ x : Sl, L[M.length]? = some x → m.2.1 = x.2.1 + k ∧ Ow 100 1 N w m.1 m.2.1 m.2.2 (uv (List.replicate x.2.1 (mk1 M.length) ++ List.replicate k (mk2 M.length))) ∧ (m.1 = x.1 ∨ Far m.1 x.1)
  farL : ∀ (j : Nat) (x : Sl), j ≠ M.length → L[j]? = some x → Far m.1 x.1
  farN : ∀ (j : Nat) (y : Sl), M[j]? = some y → Far m.1 y.1
  loc : ∀ a, m.1 = some a → InL L a.block ∨ w0.heap.size ≤ a.block
theorem R2.start {M : List Sl} {mq : Option Addr} {mc : Nat} {w0 w : World} {x : Sl} (h : R2 N L M xb mq mc w0 w) (hd : Dis L) (hx : L[M.length]? = some x) : R3 N L M xb mq mc w0 0 x w :=
  ⟨h.rd, fun j y hy => ⟨(h.old j y hy).1, fun hj => (h.old j y hy).2 (by omega)⟩, h.new, h.far, h.farM, h.more, h.bel,
    fun y hy => by rw [hx] at hy; cases hy; exact ⟨rfl, by simpa using (h.old _ _ hx).2 (Nat.le_refl _), .inl rfl⟩,
    fun j y hj hy => hd _ _ _ _ hj.symm hx hy, fun j y hy => by
      have hj := (List.getElem?_eq_some_iff.1 hy).1
      exact h.far _ _ _ _ (by omega) hx hy, fun a ha => .inl ⟨_, x, a, hx, ha, rfl⟩⟩
theorem R3.push {M : List Sl} {mq : Option Addr} {mc : Nat} {w0 w : World} {k : Nat} {m x : Sl} (h : R3 N L M xb mq mc w0 k m w) (hN : N ≤ w0.heap.size) (hx : L[M.length]? = some x) (hb : x.2.1 + k ≤ 10000000000000)
    {K : Option Addr → Nat → Nat → World → Prop} (hK : ∀ q' c' w', R3 N L M xb mq mc w0 (k + 1) (q', m.2.1 + 1, c') w' → K q' (m.2.1 + 1) c' w') :
    ∃ g : Array Value, bslP Tryd.prog 48 1 [(0, .int .u64 (mk2 M.length))] g 100 ∧ newW g 100 w fun a w => apnW Tryd.prog 48 48 (.slice m.1 m.2.1 m.2.2) (.slice (some a) 1 1) w K := by
  obtain ⟨hm, o, hor⟩ := h.own x hx
  have hw := h.bel.size
  refine o.push (by omega) kUs kU rfl (by decide) (fun u hu => by simp [Value.cells] at hu; rw [hu]; rfl) (by omega) (by unfold maxLen; omega) fun q' c' w' o' b' g' => ?_
  have hsz := g'.size
  have hmT : ∀ a, m.1 = some a → ∃ cs t', Blk w a.block cs t' ∧ t' ≠ 48 := fun a ha => by
    obtain ⟨_, cs, hB⟩ := o.rdT.2 a ha
    exact ⟨cs, _, hB, ne_UU⟩
  -- what another block holds stays
  have keep : ∀ {q : Option Addr}, Far m.1 q → (∀ a, q = some a → a.block < w.heap.size) → ∀ a, q = some a → w'.heap[a.block]? = w.heap[a.block]? := fun hf hl a ha => g'.block _ (hl a ha) fun b hb => (hf b a hb ha).symm
  have farq : ∀ {q : Option Addr}, Far m.1 q → (∀ a, q = some a → a.block < w.heap.size) → Far q' q := fun hf hl a b ha hb' => by
    rcases g'.new a ha with h1 | h1
    · exact hf a b h1 hb'
    · have := hl b hb'; omega
  have o'' : Ow 100 1 N w' q' (m.2.1 + 1) c' (uv (List.replicate x.2.1 (mk1 M.length) ++ List.replicate (k + 1) (mk2 M.length))) := by
    rw [List.replicate_succ', ← List.append_assoc, uv_app (_ ++ _)]
    exact o'
  have hxlt : ∀ a, x.1 = some a → a.block < w.heap.size := fun a ha => (h.old _ _ hx).1.lt ha
  refine hK q' c' w' ⟨h.rd.up (g'.up hmT), fun j y hy => ?_, fun j y z hy hz => ?_, h.far, h.farM, ?_, h.bel.trans ⟨g'.os, g'.tape, g'.output, g'.size, fun k hk hs => g'.block k (by omega) fun a ha e => ?_⟩, fun y hy => ?_, fun j y hj hy => farq (h.farL j y hj hy) fun a ha => (h.old j y hy).1.lt ha, fun j y hy => farq (h.farN j y hy) fun a ha => ?_, fun a ha => ?_⟩
  · obtain ⟨h1, h3⟩ := h.old j y hy
    have h2 : ∀ a, y.1 = some a → a.block < w.heap.size := fun a ha => h1.lt ha
    refine ⟨?_, fun hj => ?_⟩
    · by_cases hj : j = M.length
      · subst hj
        rw [hx] at hy
        cases hy
        rcases hor with he | hf
        · rcases g'.old with ho | ho
          · have hr := o''.rd.take (i := x.2.1) (by omega)
            rw [uv_take, List.take_left' (by simp)] at hr
            refine ⟨by rwa [ho, he] at hr, fun a ha => ?_⟩
            exact o''.rdT.2 a (by rw [ho, he]; exact ha)
          · exact h1.keep fun a ha => ho _ (h2 a ha)
        · exact h1.keep fun a ha => keep hf h2 a ha
      · exact h1.keep fun a ha => keep (h.farL j y hj hy) h2 a ha
    · exact (h3 hj).keep fun a ha => keep (h.farL j y (by omega) hy) h2 a ha
  · obtain ⟨h1, h2⟩ := h.new j y z hy hz
    exact ⟨h1, h2.keep fun a ha => keep (h.farN j z hz) (fun a ha => (h2.lt ha).1) a ha⟩
  · refine h.more.keep fun a ha => g'.block _ (h.more.lt ha).1 fun b hb e => ?_
    obtain ⟨_, cs, hB⟩ := h.more.rdT.2 a ha
    obtain ⟨_, cs', hB'⟩ := o.rdT.2 b hb
    rw [e] at hB
    exact ne_UU (hB'.ty hB)
  · rcases h.loc a ha with h1 | h1
    · exact hs (e ▸ h1)
    · omega
  · rw [hx] at hy
    cases hy
    refine ⟨by show m.2.1 + 1 = _; omega, o'', ?_⟩
    rcases hor with he | hf
    · rcases g'.old with ho | ho
      · exact .inl (ho.trans he)
      · by_cases hq : q' = m.1
        · exact .inl (hq.trans he)
        · refine .inr fun a b ha hb' => ?_
          rcases g'.new a ha with h1 | h1
          · exact absurd (ha.trans h1.symm) hq
          · have := hxlt b hb'; omega
    · exact .inr (farq hf hxlt)
  · have hj := (List.getElem?_eq_some_iff.1 hy).1
    have hlL : j < L.length := by have := (List.getElem?_eq_some_iff.1 hx).1; omega
    exact ((h.new j _ y (List.getElem?_eq_getElem hlL) hy).2.lt ha).1
  · rcases g'.new a ha with h1 | h1
    · exact h.loc a h1
    · exact .inr (by omega)
theorem R3.done {M : List Sl} {mq : Option Addr} {mc : Nat} {w0 w : World} {m x : Sl} (h : R3 N L M xb mq mc w0 64 m w) (hN : N ≤ w0.heap.size) (hxb : ∀ a, xb = some a → a.block < w0.heap.size) (hx : L[M.length]? = some x) (hM : M.length ≤ 1000000000)
    {K : Option Addr → Nat → Nat → World → Prop} (hK : ∀ q' c' w', R2 N L (M ++ [m]) xb q' c' w0 w' → K q' (M.length + 1) c' w') :
    ∃ g : Array Value, bslP Tryd.prog 156 1 [(0, slV m)] g 48 ∧ newW g 48 w fun a w => apnW Tryd.prog 156 156 (.slice mq M.length mc) (.slice (some a) 1 1) w K := by
  obtain ⟨hm, o, hor⟩ := h.own x hx
  have hw := h.bel.size
  refine h.more.push hw kUUs kUU rfl (by decide) (sl_one m) (by omega) (by unfold maxLen; omega) fun q' c' w' o' b' g' => ?_
  have hsz := g'.size
  -- the other blocks have another type
  have keep : ∀ {a : Addr} {cs : Array Value}, Blk w a.block cs 100 → w'.heap[a.block]? = w.heap[a.block]? := fun hB => g'.block _ hB.lt fun b hb e => by
    obtain ⟨_, cs', hB'⟩ := h.more.rdT.2 b hb
    rw [e] at hB
    exact ne_UU (hB.ty hB')
  have keepO : ∀ {q : Option Addr} {n c : Nat} {vs : List Value}, Ow 100 1 N w q n c vs → Ow 100 1 N w' q n c vs := fun h1 => h1.keep fun a ha => by
    obtain ⟨_, cs, hB⟩ := h1.rdT.2 a ha
    exact keep hB
  have hml : (M ++ [m]).length = M.length + 1 := by simp
  refine hK q' c' w' ⟨h.rd.keep fun a ha => g'.block _ (h.rd.lt ha) fun b hb e => ?_, fun j y hy => ?_, fun j y z hy hz => ?_, fun j j' y z hj hy hz => ?_, fun j j' y z hj hy hz => ?_, ?_, h.bel.trans ⟨g'.os, g'.tape, g'.output, g'.size, fun k hk hs => g'.block k (by omega) fun b hb e => ?_⟩⟩
  · have := hxb a ha
    have := (h.more.lt hb).2
    omega
  · obtain ⟨h1, h3⟩ := h.old j y hy
    exact ⟨h1.keep fun a ha => (by obtain ⟨_, cs, hB⟩ := h1.2 a ha; exact keep hB), fun hj => keepO (h3 (by omega))⟩
  · rcases get_snoc hz with ⟨_, hz⟩ | ⟨hj, rfl⟩
    · obtain ⟨h1, h2⟩ := h.new j y z hy hz
      exact ⟨h1, keepO h2⟩
    · subst hj
      rw [hx] at hy
      cases hy
      exact ⟨hm, keepO o⟩
  · rcases get_snoc hz with ⟨_, hz⟩ | ⟨hj', rfl⟩
    · exact h.far j j' y z hj hy hz
    · exact (h.farL j y (by omega) hy).symm
  · rcases get_snoc hy with ⟨_, hy1⟩ | ⟨hj1, rfl⟩
    · rcases get_snoc hz with ⟨_, hz1⟩ | ⟨hj2, rfl⟩
      · exact h.farM j j' y z hj hy1 hz1
      · exact (h.farN j y hy1).symm
    · rcases get_snoc hz with ⟨_, hz1⟩ | ⟨hj2, rfl⟩
      · exact h.farN j' z hz1
      · exact absurd (hj1.trans hj2.symm) hj
  · rw [List.map_append, hml]
    exact o'
  · have := (h.more.lt hb).2
    omega
theorem mem_rep {n i : Nat} {b c : Int} (h : (List.replicate n b)[i]? = some c) : c = b := by
  rw [List.getElem?_replicate] at h
  split at h
  · cases h; rfl
  · cases h
theorem c_FreeWords {xc : Nat} {w : World} (hN : N ≤ w.heap.size) (hL : L.length ≤ 1000000000) (hrd : RdT 48 1 0 w xb L.length (L.map slV))
    (hfam : ∀ (j : Nat) (x : Sl), L[j]? = some x → x.2.1 ≤ 1000000000000 ∧ ∃ xs, Ow 100 1 N w x.1 x.2.1 x.2.2 (uv xs)) (hd : Dis L) :
    Calls Tryd.prog 66 #[.slice xb L.length xc] w (Ret fun v w' => v = .bool true ∧ Kp (InL L) w.heap.size w w') := by
  refine W66_ok _ _ _ w _ ?_
  have hxb : ∀ a, xb = some a → a.block < w.heap.size := fun a ha => hrd.lt ha
  have get : ∀ i, i < L.length → ∃ x, L[i]? = some x := fun i hi => ⟨_, List.getElem?_eq_getElem hi⟩
  -- all get marks
  refine ⟨fun t w' => ∃ i : Nat, t = ((i : Int), ()) ∧ i ≤ L.length ∧ R1 N L xb w i 0 w', fun t _ => L.length - t.1.toNat, ⟨(((0 : Nat) : Int), ()), rfl, 0, rfl, Nat.zero_le _, hrd, fun j x hx => ?_, Kp.refl _ _ _⟩, ?_⟩
  · obtain ⟨_, xs, o⟩ := hfam j x hx
    exact ⟨xs, o, fun h => by omega, fun _ => rfl⟩
  rintro _ _ w1 ⟨i, rfl, hi, r1⟩
  refine c_dec (fun hlt => ?_) (fun hge => ?_)
  · have hlt : i < L.length := by simpa using hlt
    obtain ⟨x, hx⟩ := get i hlt
    refine ⟨fun t w' => ∃ k : Nat, t = ((k : Int), ()) ∧ k ≤ x.2.1 ∧ R1 N L xb w i k w', fun t _ => x.2.1 - t.1.toNat, ⟨(((0 : Nat) : Int), ()), rfl, 0, rfl, Nat.zero_le _, r1⟩, ?_⟩
    rintro _ _ w2 ⟨k, rfl, hk, r⟩
    have hxb := (hfam i x hx).1
    refine rd_sl r.rd.1 hlt fun x' hx' => ?_
    rw [hx] at hx'
    cases hx'
    refine c_dec (fun hkl => ?_) (fun hkg => ?_)
    · have hkl : k < x.2.1 := by simpa using hkl
      refine rd_sl r.rd.1 hlt fun x' hx' => ?_
      rw [hx] at hx'
      cases hx'
      obtain ⟨xs, o, _⟩ := r.fam i x hx
      refine o.rd.at1 hkl fun a v ha _ _ => ?_
      dsimp only
      rw [mk1_val, Int.toNat_natCast]
      refine r.step hN hd hx hkl ha fun w3 r3 => ?_
      refine ⟨(((k + 1 : Nat) : Int), ()), by rw [step1 hkl (by omega)]; rfl, ⟨k + 1, rfl, hkl, r3⟩, ?_⟩
      show x.2.1 - (((k + 1 : Nat) : Int)).toNat < x.2.1 - (k : Int).toNat
      omega
    · have hkg : ¬ k < x.2.1 := by simpa using hkg
      refine ⟨(((i + 1 : Nat) : Int), ()), by (try dsimp only); rw [step1 hlt (by omega)]; rfl, ⟨i + 1, rfl, hlt, r.next hx hkg⟩, ?_⟩
      show L.length - (((i + 1 : Nat) : Int)).toNat < L.length - (i : Int).toNat
      omega
  · have hge : ¬ i < L.length := by simpa using hge
    have ei : i = L.length := by omega
    subst ei
    -- all grow
    refine ⟨fun t w' => ∃ (M : List Sl) (mq : Option Addr) (mc : Nat), t = ((mq, M.length, mc), ((M.length : Nat) : Int), ()) ∧ M.length ≤ L.length ∧ R2 N L M xb mq mc w w', fun t _ => L.length - t.2.1.toNat,
      ⟨((none, 0, 0), ((0 : Nat) : Int), ()), rfl, [], none, 0, rfl, Nat.zero_le _, r1.rd, fun j x hx => ?_, fun j x y _ hy => by simp at hy, fun j j' x y _ _ hy => by simp at hy, fun i j x y _ hx => by simp at hx, Ow.nil _ _ _ _, r1.bel⟩, ?_⟩
    · have hj := (List.getElem?_eq_some_iff.1 hx).1
      obtain ⟨xs, o, h1, _⟩ := r1.fam j x hx
      rw [h1 hj] at o
      exact ⟨o.rdT, fun _ => o⟩
    rintro _ _ w2 ⟨M, mq, mc, rfl, hM, r2⟩
    refine c_dec (fun hlt => ?_) (fun hge => ?_)
    · have hlt : M.length < L.length := by simpa using hlt
      obtain ⟨x, hx⟩ := get _ hlt
      have hxn := (hfam _ x hx).1
      refine rd_sl r2.rd.1 hlt fun x' hx' => ?_
      rw [hx] at hx'
      cases hx'
      refine ⟨fun t w' => ∃ (k : Nat) (m : Sl), t = (m, (k : Int), ()) ∧ k ≤ 64 ∧ R3 N L M xb mq mc w k m w', fun t _ => 64 - t.2.1.toNat, ⟨(x, ((0 : Nat) : Int), ()), rfl, 0, x, rfl, Nat.zero_le _, r2.start hd hx⟩, ?_⟩
      rintro _ _ w3 ⟨k, m, rfl, hk, r3⟩
      refine c_dec (fun hkl => ?_) (fun hkg => ?_)
      · have hkl : k < 64 := by
          have : (k : Int) < 64 := hkl
          omega
        dsimp only
        rw [mk2_val]
        refine r3.push hN hx (by omega) fun q' c' w4 r4 => ?_
        refine ⟨((q', m.2.1 + 1, c'), ((k + 1 : Nat) : Int), ()), by rw [step1 hkl (by omega)]; rfl, ⟨k + 1, _, rfl, hkl, r4⟩, ?_⟩
        show 64 - (((k + 1 : Nat) : Int)).toNat < 64 - (k : Int).toNat
        omega
      · have hk64 : k = 64 := by
          have : ¬ (k : Int) < 64 := hkg
          omega
        subst hk64
        dsimp only
        refine r3.done hN hxb hx (by omega) fun q' c' w4 r4 => ?_
        have hl : (M ++ [m]).length = M.length + 1 := by simp
        refine ⟨((q', M.length + 1, c'), ((M.length + 1 : Nat) : Int), ()), by rw [step1 hlt (by omega)]; rfl, ⟨M ++ [m], q', c', by rw [hl], by omega, r4⟩, ?_⟩
        show L.length - (((M.length + 1 : Nat) : Int)).toNat < L.length - ((M.length : Nat) : Int).toNat
        omega
    · have hge : ¬ M.length < L.length := by simpa using hge
      have hML : M.length = L.length := by omega
      -- all is looked at
      refine ⟨fun t w' => ∃ i : Nat, t = ((i : Int), ()) ∧ i ≤ L.length ∧ w2 = w', fun t _ => L.length - t.1.toNat, ⟨(((0 : Nat) : Int), ()), rfl, 0, rfl, Nat.zero_le _, rfl⟩, ?_⟩
      rintro _ _ _ ⟨i, rfl, hi, rfl⟩
      refine c_dec (fun hlt => ?_) (fun hge => ⟨rfl, r2.bel⟩)
      have hlt : i < L.length := by simpa using hlt
      obtain ⟨x, hx⟩ := get _ hlt
      have hxn := (hfam _ x hx).1
      refine rd_sl r2.rd.1 hlt fun x' hx' => ?_
      rw [hx] at hx'
      cases hx'
      refine ⟨fun t w' => ∃ k : Nat, t = ((k : Int), ()) ∧ k ≤ x.2.1 ∧ w2 = w', fun t _ => x.2.1 - t.1.toNat, ⟨(((0 : Nat) : Int), ()), rfl, 0, rfl, Nat.zero_le _, rfl⟩, ?_⟩
      rintro _ _ _ ⟨k, rfl, hk, rfl⟩
      refine c_dec (fun hkl => ?_) (fun hkg => ?_)
      · have hkl : k < x.2.1 := by simpa using hkl
        refine rd_sl r2.rd.1 hlt fun x' hx' => ?_
        rw [hx] at hx'
        cases hx'
        refine rd_u64 (r2.old i x hx).1.1 hkl fun b hb => ?_
        rw [mem_rep hb]
        dsimp only
        rw [mk1_val]
        refine c_ne (fun h => absurd rfl h) (fun _ => ⟨(((k + 1 : Nat) : Int), ()), by rw [step1 hkl (by omega)]; rfl, ⟨k + 1, rfl, hkl, rfl⟩, ?_⟩)
        show x.2.1 - (((k + 1 : Nat) : Int)).toNat < x.2.1 - (k : Int).toNat
        omega
      · refine ⟨fun t w' => ∃ k : Nat, t = ((k : Int), ()) ∧ k ≤ 64 ∧ w2 = w', fun t _ => 64 - t.1.toNat, ⟨(((0 : Nat) : Int), ()), rfl, 0, rfl, Nat.zero_le _, rfl⟩, ?_⟩
        rintro _ _ _ ⟨k, rfl, hk, rfl⟩
        refine c_dec (fun hkl => ?_) (fun hkg => ?_)
        · have hkl : k < 64 := by
            have : (k : Int) < 64 := hkl
            omega
          obtain ⟨y, hy⟩ : ∃ y, M[i]? = some y := ⟨_, List.getElem?_eq_getElem (by omega)⟩
          obtain ⟨h1, o⟩ := r2.new i x y hx hy
          dsimp only
          have hr := r2.more.rd
          rw [hML] at hr ⊢
          refine rd_sl hr hlt fun y' hy' => ?_
          rw [hy] at hy'
          cases hy'
          have e : IntKind.i64.wrap (((x.2.1 : Nat) : Int) + (k : Int)) = ((x.2.1 + k : Nat) : Int) := by rw [wrap_in (by omega) (by omega)]; omega
          rw [e]
          refine rd_u64 o.rd (by omega) fun b hb => ?_
          rw [List.getElem?_append_right (by simp)] at hb
          rw [mem_rep hb, mk2_val]
          refine c_ne (fun h => absurd rfl h) (fun _ => ⟨(((k + 1 : Nat) : Int), ()), by rw [step1 hkl (by omega)]; rfl, ⟨k + 1, rfl, hkl, rfl⟩, ?_⟩)
          show 64 - (((k + 1 : Nat) : Int)).toNat < 64 - (k : Int).toNat
          omega
        · refine ⟨(((i + 1 : Nat) : Int), ()), by (try dsimp only); rw [step1 hlt (by omega)]; rfl, ⟨i + 1, rfl, hlt, rfl⟩, ?_⟩
          show L.length - (((i + 1 : Nat) : Int)).toNat < L.length - (i : Int).toNat
          omega
end
end U
end Go.Proofs.YthkcdkldpbndnaaDoor
