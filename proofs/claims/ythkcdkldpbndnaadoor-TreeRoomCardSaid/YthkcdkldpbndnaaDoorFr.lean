/- The laws' helper Free: lists with blocks of their own may be written over, and behind their ends. No condition. -/
import Derived.Test.YthkcdkldpbndnaaDoorBy
import Derived.Test.YthkcdkldpbndnaaDoorHu
set_option linter.unusedVariables false
namespace Go.Proofs.YthkcdkldpbndnaaDoor
open Go.RowKit Go.Hx
abbrev Sl := Option Addr × Nat × Nat
def slV (x : Sl) : Value := .slice x.1 x.2.1 x.2.2
def mk1 (i : Nat) : UInt8 := UInt8.ofNat (i % 100)
def mk2 (i : Nat) : UInt8 := UInt8.ofNat (128 + i % 100)
theorem mk1_val (i : Nat) : IntKind.u8.wrap ((i : Int).tmod (100 : Int)) = (((mk1 i).toNat : Nat) : Int) := by
  rw [Int.tmod_eq_emod_of_nonneg (by omega)]
  unfold mk1 IntKind.wrap
  rw [UInt8.toNat_ofNat']
  simp only [IntKind.bits, IntKind.signed]
  simp
theorem mk2_val (i : Nat) : IntKind.u8.wrap (IntKind.i64.wrap ((128 : Int) + (i : Int).tmod (100 : Int))) = (((mk2 i).toNat : Nat) : Int) := by
  rw [Int.tmod_eq_emod_of_nonneg (by omega), wrap_in (by omega) (by omega)]
  unfold mk2 IntKind.wrap
  rw [UInt8.toNat_ofNat']
  simp only [IntKind.bits, IntKind.signed]
  simp
def Far (p q : Option Addr) : Prop := ∀ a b, p = some a → q = some b → a.block ≠ b.block
theorem Far.symm {p q : Option Addr} (h : Far p q) : Far q p := fun a b ha hb => (h b a hb ha).symm
def Dis (L : List Sl) : Prop := ∀ (i j : Nat) (x y : Sl), i ≠ j → L[i]? = some x → L[j]? = some y → Far x.1 y.1
theorem kBBs : slT Tryd.prog 36 24 = true := by kernel_rfl
theorem kBB : infB Tryd.prog 24 1 24 = true := by kernel_rfl
theorem ne_BB : (5 : TypeId) ≠ 24 := by decide
theorem sl_one (x : Sl) : ∀ u ∈ (slV x).cells.toList, u.oneCell' = true := by
  intro u hu
  have hu : u ∈ [slV x] := hu
  simp at hu
  subst hu; rfl
/-- A slice out of a list of slices. -/
theorem rd_sl {w : World} {q : Option Addr} {n : Nat} {l : List Sl} (h : Rd 1 w q n (l.map slV)) {i : Nat} (hi : i < n) {K : Option Addr → Nat → Nat → Prop} (hK : ∀ x, l[i]? = some x → K x.1 x.2.1 x.2.2) :
    nlW q fun a => (0 ≤ (i : Int) ∧ (i : Int) < ((n : Nat) : Int)) ∧ ∃ (b : Option Addr) (m c : Nat), w.cell? (a.add ((i : Int).toNat * 1)) = some (.slice b m c) ∧ K b m c :=
  h.at1 hi fun a v _ hv hc => by
    rw [List.getElem?_map] at hv
    obtain ⟨x, hx, rfl⟩ := Option.map_eq_some_iff.1 hv
    exact ⟨_, _, _, by rw [Int.toNat_natCast]; exact hc, hK x hx⟩
section
variable {N : Nat} {L : List Sl} {xb : Option Addr}
/-- The blocks of the lists. -/
def InL (L : List Sl) (k : Nat) : Prop := ∃ (j : Nat) (x : Sl) (a : Addr), L[j]? = some x ∧ x.1 = some a ∧ k = a.block
/-- The first round: those below i are marked, the i-th up to k. -/
structure R1 (N : Nat) (L : List Sl) (xb : Option Addr) (w0 : World) (i k : Nat) (w : World) : Prop where
  rd : RdT 24 1 0 w xb L.length (L.map slV)
  fam : ∀ (j : Nat) (x : Sl), L[j]? = some x → ∃ xs, Ow 5 1 N w x.1 x.2.1 x.2.2 (bv xs) ∧ (j < i → xs = List.replicate x.2.1 (mk1 j)) ∧ (j = i → xs.take k = List.replicate k (mk1 j))
  bel : Kp (InL L) w0.heap.size w0 w
theorem R1.step {w0 w : World} {i k : Nat} {x : Sl} (h : R1 N L xb w0 i k w) (hN : N ≤ w0.heap.size) (hd : Dis L) (hx : L[i]? = some x) (hk : k < x.2.1) {a : Addr} (ha : x.1 = some a) {K : World → Prop} (hK : ∀ w', R1 N L xb w0 i (k + 1) w' → K w') :
    stC (a.add (k * 1)) (.int .u8 (((mk1 i).toNat : Nat) : Int)) w K := by
  obtain ⟨xs, o, _, ht⟩ := h.fam i x hx
  have ht := ht rfl
  have hl := o.len
  rw [bv_length, Nat.mul_one] at hl
  refine o.set1 hk (fun a' w' ha' o' m s => ?_) ha
  obtain ⟨hNa, cs, hB⟩ := o.rdT.2 a' ha'
  rw [bv_set] at o'
  refine hK w' ⟨h.rd.up (UpT.of_mod m hB ne_BB), fun j y hy => ?_, h.bel.trans (Kp.of_mod m (fun _ => ⟨i, x, a', hx, ha', rfl⟩) h.bel.size)⟩
  by_cases hj : j = i
  · subst hj
    rw [hx] at hy
    cases hy
    refine ⟨_, o', fun h => by omega, fun _ => ?_⟩
    rw [List.take_add_one, List.take_set, List.getElem?_set_self (by omega), ht]
    rw [List.set_eq_of_length_le (by simp), List.replicate_succ']
    rfl
  · obtain ⟨ys, oy, h1, h2⟩ := h.fam j y hy
    exact ⟨ys, oy.keep fun b hb => m.block _ (oy.lt hb).1 (hd j i y x hj hy hx b a' hb ha'), h1, fun e => absurd e hj⟩
theorem R1.next {w0 w : World} {i k : Nat} {x : Sl} (h : R1 N L xb w0 i k w) (hx : L[i]? = some x) (hk : ¬ k < x.2.1) : R1 N L xb w0 (i + 1) 0 w :=
  ⟨h.rd, fun j y hy => by
    obtain ⟨xs, o, h1, h2⟩ := h.fam j y hy
    refine ⟨xs, o, fun hj => ?_, fun _ => rfl⟩
    have hl := o.len
    rw [bv_length, Nat.mul_one] at hl
    by_cases hji : j = i
    · subst hji
      rw [hx] at hy
      cases hy
      have h3 := h2 rfl
      have h4 := congrArg List.length h3
      rw [List.length_take, List.length_replicate] at h4
      have : k = x.2.1 := by omega
      subst this
      rwa [List.take_of_length_le (by omega)] at h3
    · exact h1 (by omega), h.bel⟩
/-- The second round: the grown ones below i, and the one that grows, up to k. -/
structure R2 (N : Nat) (L M : List Sl) (xb mq : Option Addr) (mc : Nat) (w0 : World) (w : World) : Prop where
  rd : RdT 24 1 0 w xb L.length (L.map slV)
  old : ∀ (j : Nat) (x : Sl), L[j]? = some x → RdT 5 1 N w x.1 x.2.1 (bv (List.replicate x.2.1 (mk1 j))) ∧ (M.length ≤ j → Ow 5 1 N w x.1 x.2.1 x.2.2 (bv (List.replicate x.2.1 (mk1 j))))
  new : ∀ (j : Nat) (x y : Sl), L[j]? = some x → M[j]? = some y → y.2.1 = x.2.1 + 64 ∧ Ow 5 1 N w y.1 y.2.1 y.2.2 (bv (List.replicate x.2.1 (mk1 j) ++ List.replicate 64 (mk2 j)))
  far : ∀ (j j' : Nat) (x y : Sl), j ≠ j' → L[j]? = some x → M[j']? = some y → Far x.1 y.1
  farM : Dis M
  more : Ow 24 1 w0.heap.size w mq M.length mc (M.map slV)
  bel : Kp (InL L) w0.heap.size w0 w
/-- .. while one grows. -/
structure R3 (N : Nat) (L M : List Sl) (xb mq : Option Addr) (mc : Nat) (w0 : World) (k : Nat) (m : Sl) (w : World) : Prop where
  rd : RdT 24 1 0 w xb L.length (L.map slV)
  old : ∀ (j : Nat) (x : Sl), L[j]? = some x → RdT 5 1 N w x.1 x.2.1 (bv (List.replicate x.2.1 (mk1 j))) ∧ (M.length + 1 ≤ j → Ow 5 1 N w x.1 x.2.1 x.2.2 (bv (List.replicate x.2.1 (mk1 j))))
  new : ∀ (j : Nat) (x y : Sl), L[j]? = some x → M[j]? = some y → y.2.1 = x.2.1 + 64 ∧ Ow 5 1 N w y.1 y.2.1 y.2.2 (bv (List.replicate x.2.1 (mk1 j) ++ List.replicate 64 (mk2 j)))
  far : ∀ (j j' : Nat) (x y : Sl), j ≠ j' → L[j]? = some x → M[j']? = some y → Far x.1 y.1
  farM : Dis M
  more : Ow 24 1 w0.heap.size w mq M.length mc (M.map slV)
  bel : Kp (InL L) w0.heap.size w0 w
  own : ∀ x : Sl, L[M.length]? = some x → m.2.1 = x.2.1 + k ∧ Ow 5 1 N w m.1 m.2.1 m.2.2 (bv (List.replicate x.2.1 (mk1 M.length) ++ List.replicate k (mk2 M.length))) ∧ (m.1 = x.1 ∨ Far m.1 x.1)
  farL : ∀ (j : Nat) (x : Sl), j ≠ M.length → L[j]? = some x → Far m.1 x.1
  farN : ∀ (j : Nat) (y : Sl), M[j]? = some y → Far m.1 y.1
  loc : ∀ a, m.1 = some a → InL L a.block ∨ w0.heap.size ≤ a.block
theorem R2.start {M : List Sl} {mq : Option Addr} {mc : Nat} {w0 w : World} {x : Sl} (h : R2 N L M xb mq mc w0 w) (hd : Dis L) (hx : L[M.length]? = some x) : R3 N L M xb mq mc w0 0 x w :=
  ⟨h.rd, fun j y hy => ⟨(h.old j y hy).1, fun hj => (h.old j y hy).2 (by omega)⟩, h.new, h.far, h.farM, h.more, h.bel,
    fun y hy => by rw [hx] at hy; cases hy; exact ⟨rfl, by simpa using (h.old _ _ hx).2 (Nat.le_refl _), .inl rfl⟩,
    fun j y hj hy => hd _ _ _ _ hj.symm hx hy, fun j y hy => by
      have hj := (List.getElem?_eq_some_iff.1 hy).1
      exact h.far _ _ _ _ (by omega) hx hy, fun a ha => .inl ⟨_, x, a, hx, ha, rfl⟩⟩
theorem far_new {p q : Option Addr} {n : Nat} (hp : ∀ a, p = some a → n ≤ a.block) (hq : ∀ a, q = some a → a.block < n) : Far p q := fun a b ha hb => by
  have := hp a ha
  have := hq b hb
  omega
theorem R3.push {M : List Sl} {mq : Option Addr} {mc : Nat} {w0 w : World} {k : Nat} {m x : Sl} (h : R3 N L M xb mq mc w0 k m w) (hN : N ≤ w0.heap.size) (hx : L[M.length]? = some x) (hb : x.2.1 + k ≤ 10000000000000)
    {K : Option Addr → Nat → Nat → World → Prop} (hK : ∀ q' c' w', R3 N L M xb mq mc w0 (k + 1) (q', m.2.1 + 1, c') w' → K q' (m.2.1 + 1) c' w') :
    ∃ g : Array Value, bslP Tryd.prog 24 1 [(0, .int .u8 (((mk2 M.length).toNat : Nat) : Int))] g 5 ∧ newW g 5 w fun a w => apnW Tryd.prog 24 24 (.slice m.1 m.2.1 m.2.2) (.slice (some a) 1 1) w K := by
  obtain ⟨hm, o, hor⟩ := h.own x hx
  have hw := h.bel.size
  refine o.push (by omega) kBs kB rfl (by decide) (fun u hu => by simp [Value.cells] at hu; rw [hu]; rfl) (by omega) (by unfold maxLen; omega) fun q' c' w' o' b' g' => ?_
  have hsz := g'.size
  have hmT : ∀ a, m.1 = some a → ∃ cs t', Blk w a.block cs t' ∧ t' ≠ 24 := fun a ha => by
    obtain ⟨_, cs, hB⟩ := o.rdT.2 a ha
    exact ⟨cs, _, hB, ne_BB⟩
  -- what another block holds stays
  have keep : ∀ {q : Option Addr}, Far m.1 q → (∀ a, q = some a → a.block < w.heap.size) → ∀ a, q = some a → w'.heap[a.block]? = w.heap[a.block]? := fun hf hl a ha => g'.block _ (hl a ha) fun b hb => (hf b a hb ha).symm
  have farq : ∀ {q : Option Addr}, Far m.1 q → (∀ a, q = some a → a.block < w.heap.size) → Far q' q := fun hf hl a b ha hb' => by
    rcases g'.new a ha with h1 | h1
    · exact hf a b h1 hb'
    · have := hl b hb'; omega
  have o'' : Ow 5 1 N w' q' (m.2.1 + 1) c' (bv (List.replicate x.2.1 (mk1 M.length) ++ List.replicate (k + 1) (mk2 M.length))) := by
    rw [List.replicate_succ', ← List.append_assoc, bv_app (_ ++ _)]
    exact o'
  have hxlt : ∀ a, x.1 = some a → a.block < w.heap.size := fun a ha => (h.old _ _ hx).1.lt ha
  refine hK q' c' w' ⟨h.rd.up (g'.up hmT), fun j y hy => ?_, fun j y z hy hz => ?_, h.far, h.farM, ?_, h.bel.trans ⟨g'.os, g'.tape, g'.output, g'.size, fun k hk hs => g'.block k (by omega) fun a ha e => ?_⟩, fun y hy => ?_, fun j y hj hy => farq (h.farL j y hj hy) fun a ha => (h.old j y hy).1.lt ha, fun j y hy => farq (h.farN j y hy) fun a ha => ?_, fun a ha => ?_⟩
  · obtain ⟨h1, h3⟩ := h.old j y hy
    have h2 : ∀ a, y.1 = some a → a.block < w.heap.size := fun a ha => h1.lt ha
    refine ⟨?_, fun hj => ?_⟩
    · by_cases hj : j = M.length
      · subst hj
        rw [hx] at hy
        cases hy
        rcases hor with he | hf
        · rcases g'.old with ho | ho
          · have hr := o''.rd.take (i := x.2.1) (by omega)
            rw [bv_take, List.take_left' (by simp)] at hr
            refine ⟨by rwa [ho, he] at hr, fun a ha => ?_⟩
            exact o''.rdT.2 a (by rw [ho, he]; exact ha)
          · exact h1.keep fun a ha => ho _ (h2 a ha)
        · exact h1.keep fun a ha => keep hf h2 a ha
      · exact h1.keep fun a ha => keep (h.farL j y hj hy) h2 a ha
    · exact (h3 hj).keep fun a ha => keep (h.farL j y (by omega) hy) h2 a ha
  · obtain ⟨h1, h2⟩ := h.new j y z hy hz
    exact ⟨h1, h2.keep fun a ha => keep (h.farN j z hz) (fun a ha => (h2.lt ha).1) a ha⟩
  · refine h.more.keep fun a ha => g'.block _ (h.more.lt ha).1 fun b hb e => ?_
    obtain ⟨_, cs, hB⟩ := h.more.rdT.2 a ha
    obtain ⟨_, cs', hB'⟩ := o.rdT.2 b hb
    rw [e] at hB
    exact ne_BB (hB'.ty hB)
  · rcases h.loc a ha with h1 | h1
    · exact hs (e ▸ h1)
    · omega
  · rw [hx] at hy
    cases hy
    refine ⟨by show m.2.1 + 1 = _; omega, o'', ?_⟩
    rcases hor with he | hf
    · rcases g'.old with ho | ho
      · exact .inl (ho.trans he)
      · by_cases hq : q' = m.1
        · exact .inl (hq.trans he)
        · refine .inr fun a b ha hb' => ?_
          rcases g'.new a ha with h1 | h1
          · exact absurd (ha.trans h1.symm) hq
          · have := hxlt b hb'; omega
    · exact .inr (farq hf hxlt)
  · have hj := (List.getElem?_eq_some_iff.1 hy).1
    have hlL : j < L.length := by have := (List.getElem?_eq_some_iff.1 hx).1; omega
    exact ((h.new j _ y (List.getElem?_eq_getElem hlL) hy).2.lt ha).1
  · rcases g'.new a ha with h1 | h1
    · exact h.loc a h1
    · exact .inr (by omega)
theorem get_snoc {α : Type} {M : List α} {m y : α} {j : Nat} (h : (M ++ [m])[j]? = some y) : (j < M.length ∧ M[j]? = some y) ∨ (j = M.length ∧ y = m) := by
  rcases Nat.lt_trichotomy j M.length with h1 | h1 | h1
  · exact .inl ⟨h1, by rwa [List.getElem?_append_left h1] at h⟩
  · subst h1
    exact .inr ⟨rfl, by simpa using h.symm⟩
  · rw [List.getElem?_eq_none (by simp; omega)] at h; cases h
theorem R3.done {M : List Sl} {mq : Option Addr} {mc : Nat} {w0 w : World} {m x : Sl} (h : R3 N L M xb mq mc w0 64 m w) (hN : N ≤ w0.heap.size) (hxb : ∀ a, xb = some a → a.block < w0.heap.size) (hx : L[M.length]? = some x) (hM : M.length ≤ 1000000000)
    {K : Option Addr → Nat → Nat → World → Prop} (hK : ∀ q' c' w', R2 N L (M ++ [m]) xb q' c' w0 w' → K q' (M.length + 1) c' w') :
    ∃ g : Array Value, bslP Tryd.prog 36 1 [(0, slV m)] g 24 ∧ newW g 24 w fun a w => apnW Tryd.prog 36 36 (.slice mq M.length mc) (.slice (some a) 1 1) w K := by
  obtain ⟨hm, o, hor⟩ := h.own x hx
  have hw := h.bel.size
  refine h.more.push hw kBBs kBB rfl (by decide) (sl_one m) (by omega) (by unfold maxLen; omega) fun q' c' w' o' b' g' => ?_
  have hsz := g'.size
  -- the other blocks have another type
  have keep : ∀ {a : Addr} {cs : Array Value}, Blk w a.block cs 5 → w'.heap[a.block]? = w.heap[a.block]? := fun hB => g'.block _ hB.lt fun b hb e => by
    obtain ⟨_, cs', hB'⟩ := h.more.rdT.2 b hb
    rw [e] at hB
    exact ne_BB (hB.ty hB')
  have keepO : ∀ {q : Option Addr} {n c : Nat} {vs : List Value}, Ow 5 1 N w q n c vs → Ow 5 1 N w' q n c vs := fun h1 => h1.keep fun a ha => by
    obtain ⟨_, cs, hB⟩ := h1.rdT.2 a ha
    exact keep hB
  have hml : (M ++ [m]).length = M.length + 1 := by simp
  refine hK q' c' w' ⟨h.rd.keep fun a ha => g'.block _ (h.rd.lt ha) fun b hb e => ?_, fun j y hy => ?_, fun j y z hy hz => ?_, fun j j' y z hj hy hz => ?_, fun j j' y z hj hy hz => ?_, ?_, h.bel.trans ⟨g'.os, g'.tape, g'.output, g'.size, fun k hk hs => g'.block k (by omega) fun b hb e => ?_⟩⟩
  · have := hxb a ha
    have := (h.more.lt hb).2
    omega
  · obtain ⟨h1, h3⟩ := h.old j y hy
    exact ⟨h1.keep fun a ha => (by obtain ⟨_, cs, hB⟩ := h1.2 a ha; exact keep hB), fun hj => keepO (h3 (by omega))⟩
  · rcases get_snoc hz with ⟨_, hz⟩ | ⟨hj, rfl⟩
    · obtain ⟨h1, h2⟩ := h.new j y z hy hz
      exact ⟨h1, keepO h2⟩
    · subst hj
      rw [hx] at hy
      cases hy
      exact ⟨hm, keepO o⟩
  · rcases get_snoc hz with ⟨_, hz⟩ | ⟨hj', rfl⟩
    · exact h.far j j' y z hj hy hz
    · exact (h.farL j y (by omega) hy).symm
  · rcases get_snoc hy with ⟨_, hy1⟩ | ⟨hj1, rfl⟩
    · rcases get_snoc hz with ⟨_, hz1⟩ | ⟨hj2, rfl⟩
      · exact h.farM j j' y z hj hy1 hz1
      · exact (h.farN j y hy1).symm
    · rcases get_snoc hz with ⟨_, hz1⟩ | ⟨hj2, rfl⟩
      · exact h.farN j' z hz1
      · exact absurd (hj1.trans hj2.symm) hj
  · rw [List.map_append, hml]
    exact o'
  · have := (h.more.lt hb).2
    omega
theorem step1' {i n : Nat} (h : i < n) (hn : n ≤ 9223372036854775807) : IntKind.i64.wrap ((i : Int) + 1) = ((i + 1 : Nat) : Int) := step1 h hn
theorem mem_rep {n i : Nat} {b c : UInt8} (h : (List.replicate n b)[i]? = some c) : c = b := by
  rw [List.getElem?_replicate] at h
  split at h
  · cases h; rfl
  · cases h
theorem c_Free {xc : Nat} {w : World} (hN : N ≤ w.heap.size) (hL : L.length ≤ 1000000000) (hrd : RdT 24 1 0 w xb L.length (L.map slV))
    (hfam : ∀ (j : Nat) (x : Sl), L[j]? = some x → x.2.1 ≤ 1000000000000 ∧ ∃ xs, Ow 5 1 N w x.1 x.2.1 x.2.2 (bv xs)) (hd : Dis L) :
    Calls Tryd.prog 22 #[.slice xb L.length xc] w (Ret fun v w' => v = .bool true ∧ Kp (InL L) w.heap.size w w') := by
  refine W22_ok _ _ _ w _ ?_
  have hxb : ∀ a, xb = some a → a.block < w.heap.size := fun a ha => hrd.lt ha
  have get : ∀ i, i < L.length → ∃ x, L[i]? = some x := fun i hi => ⟨_, List.getElem?_eq_getElem hi⟩
  -- all get marks
  refine ⟨fun t w' => ∃ i : Nat, t = ((i : Int), ()) ∧ i ≤ L.length ∧ R1 N L xb w i 0 w', fun t _ => L.length - t.1.toNat, ⟨(((0 : Nat) : Int), ()), rfl, 0, rfl, Nat.zero_le _, hrd, fun j x hx => ?_, Kp.refl _ _ _⟩, ?_⟩
  · obtain ⟨_, xs, o⟩ := hfam j x hx
    exact ⟨xs, o, fun h => by omega, fun _ => rfl⟩
  rintro _ _ w1 ⟨i, rfl, hi, r1⟩
  refine c_dec (fun hlt => ?_) (fun hge => ?_)
  · have hlt : i < L.length := by simpa using hlt
    obtain ⟨x, hx⟩ := get i hlt
    refine ⟨fun t w' => ∃ k : Nat, t = ((k : Int), ()) ∧ k ≤ x.2.1 ∧ R1 N L xb w i k w', fun t _ => x.2.1 - t.1.toNat, ⟨(((0 : Nat) : Int), ()), rfl, 0, rfl, Nat.zero_le _, r1⟩, ?_⟩
    rintro _ _ w2 ⟨k, rfl, hk, r⟩
    have hxb := (hfam i x hx).1
    refine rd_sl r.rd.1 hlt fun x' hx' => ?_
    rw [hx] at hx'
    cases hx'
    refine c_dec (fun hkl => ?_) (fun hkg => ?_)
    · have hkl : k < x.2.1 := by simpa using hkl
      refine rd_sl r.rd.1 hlt fun x' hx' => ⟨by decide, ?_⟩
      rw [hx] at hx'
      cases hx'
      obtain ⟨xs, o, _⟩ := r.fam i x hx
      refine o.rd.at1 hkl fun a v ha _ _ => ?_
      dsimp only
      rw [mk1_val, Int.toNat_natCast]
      refine r.step hN hd hx hkl ha fun w3 r3 => ?_
      refine ⟨(((k + 1 : Nat) : Int), ()), by rw [step1 hkl (by omega)]; rfl, ⟨k + 1, rfl, hkl, r3⟩, ?_⟩
      show x.2.1 - (((k + 1 : Nat) : Int)).toNat < x.2.1 - (k : Int).toNat
      omega
    · have hkg : ¬ k < x.2.1 := by simpa using hkg
      refine ⟨(((i + 1 : Nat) : Int), ()), by (try dsimp only); rw [step1 hlt (by omega)]; rfl, ⟨i + 1, rfl, hlt, r.next hx hkg⟩, ?_⟩
      show L.length - (((i + 1 : Nat) : Int)).toNat < L.length - (i : Int).toNat
      omega
  · have hge : ¬ i < L.length := by simpa using hge
    have ei : i = L.length := by omega
    subst ei
    -- all grow
    refine ⟨fun t w' => ∃ (M : List Sl) (mq : Option Addr) (mc : Nat), t = ((mq, M.length, mc), ((M.length : Nat) : Int), ()) ∧ M.length ≤ L.length ∧ R2 N L M xb mq mc w w', fun t _ => L.length - t.2.1.toNat,
      ⟨((none, 0, 0), ((0 : Nat) : Int), ()), rfl, [], none, 0, rfl, Nat.zero_le _, r1.rd, fun j x hx => ?_, fun j x y _ hy => by simp at hy, fun j j' x y _ _ hy => by simp at hy, fun i j x y _ hx => by simp at hx, Ow.nil _ _ _ _, r1.bel⟩, ?_⟩
    · have hj := (List.getElem?_eq_some_iff.1 hx).1
      obtain ⟨xs, o, h1, _⟩ := r1.fam j x hx
      rw [h1 hj] at o
      exact ⟨o.rdT, fun _ => o⟩
    rintro _ _ w2 ⟨M, mq, mc, rfl, hM, r2⟩
    refine c_dec (fun hlt => ?_) (fun hge => ?_)
    · have hlt : M.length < L.length := by simpa using hlt
      obtain ⟨x, hx⟩ := get _ hlt
      have hxn := (hfam _ x hx).1
      refine rd_sl r2.rd.1 hlt fun x' hx' => ?_
      rw [hx] at hx'
      cases hx'
      refine ⟨fun t w' => ∃ (k : Nat) (m : Sl), t = (m, (k : Int), ()) ∧ k ≤ 64 ∧ R3 N L M xb mq mc w k m w', fun t _ => 64 - t.2.1.toNat, ⟨(x, ((0 : Nat) : Int), ()), rfl, 0, x, rfl, Nat.zero_le _, r2.start hd hx⟩, ?_⟩
      rintro _ _ w3 ⟨k, m, rfl, hk, r3⟩
      refine c_dec (fun hkl => ⟨by decide, ?_⟩) (fun hkg => ?_)
      · have hkl : k < 64 := by
          have : (k : Int) < 64 := hkl
          omega
        dsimp only
        rw [mk2_val]
        refine r3.push hN hx (by omega) fun q' c' w4 r4 => ?_
        refine ⟨((q', m.2.1 + 1, c'), ((k + 1 : Nat) : Int), ()), by rw [step1 hkl (by omega)]; rfl, ⟨k + 1, _, rfl, hkl, r4⟩, ?_⟩
        show 64 - (((k + 1 : Nat) : Int)).toNat < 64 - (k : Int).toNat
        omega
      · have hk64 : k = 64 := by
          have : ¬ (k : Int) < 64 := hkg
          omega
        subst hk64
        dsimp only
        refine r3.done hN hxb hx (by omega) fun q' c' w4 r4 => ?_
        have hl : (M ++ [m]).length = M.length + 1 := by simp
        refine ⟨((q', M.length + 1, c'), ((M.length + 1 : Nat) : Int), ()), by rw [step1 hlt (by omega)]; rfl, ⟨M ++ [m], q', c', by rw [hl], by omega, r4⟩, ?_⟩
        show L.length - (((M.length + 1 : Nat) : Int)).toNat < L.length - ((M.length : Nat) : Int).toNat
        omega
    · have hge : ¬ M.length < L.length := by simpa using hge
      have hML : M.length = L.length := by omega
      -- all is looked at
      refine ⟨fun t w' => ∃ i : Nat, t = ((i : Int), ()) ∧ i ≤ L.length ∧ w2 = w', fun t _ => L.length - t.1.toNat, ⟨(((0 : Nat) : Int), ()), rfl, 0, rfl, Nat.zero_le _, rfl⟩, ?_⟩
      rintro _ _ _ ⟨i, rfl, hi, rfl⟩
      refine c_dec (fun hlt => ?_) (fun hge => ⟨rfl, r2.bel⟩)
      have hlt : i < L.length := by simpa using hlt
      obtain ⟨x, hx⟩ := get _ hlt
      have hxn := (hfam _ x hx).1
      refine rd_sl r2.rd.1 hlt fun x' hx' => ?_
      rw [hx] at hx'
      cases hx'
      refine ⟨fun t w' => ∃ k : Nat, t = ((k : Int), ()) ∧ k ≤ x.2.1 ∧ w2 = w', fun t _ => x.2.1 - t.1.toNat, ⟨(((0 : Nat) : Int), ()), rfl, 0, rfl, Nat.zero_le _, rfl⟩, ?_⟩
      rintro _ _ _ ⟨k, rfl, hk, rfl⟩
      refine c_dec (fun hkl => ?_) (fun hkg => ?_)
      · have hkl : k < x.2.1 := by simpa using hkl
        refine rd_sl r2.rd.1 hlt fun x' hx' => ?_
        rw [hx] at hx'
        cases hx'
        refine rd_byte (r2.old i x hx).1.1 hkl fun b hb => ⟨by decide, ?_⟩
        rw [mem_rep hb]
        dsimp only
        rw [mk1_val]
        refine c_ne (fun h => absurd rfl h) (fun _ => ⟨(((k + 1 : Nat) : Int), ()), by rw [step1 hkl (by omega)]; rfl, ⟨k + 1, rfl, hkl, rfl⟩, ?_⟩)
        show x.2.1 - (((k + 1 : Nat) : Int)).toNat < x.2.1 - (k : Int).toNat
        omega
      · refine ⟨fun t w' => ∃ k : Nat, t = ((k : Int), ()) ∧ k ≤ 64 ∧ w2 = w', fun t _ => 64 - t.1.toNat, ⟨(((0 : Nat) : Int), ()), rfl, 0, rfl, Nat.zero_le _, rfl⟩, ?_⟩
        rintro _ _ _ ⟨k, rfl, hk, rfl⟩
        refine c_dec (fun hkl => ?_) (fun hkg => ?_)
        · have hkl : k < 64 := by
            have : (k : Int) < 64 := hkl
            omega
          obtain ⟨y, hy⟩ : ∃ y, M[i]? = some y := ⟨_, List.getElem?_eq_getElem (by omega)⟩
          obtain ⟨h1, o⟩ := r2.new i x y hx hy
          dsimp only
          have hr := r2.more.rd
          rw [hML] at hr ⊢
          refine rd_sl hr hlt fun y' hy' => ?_
          rw [hy] at hy'
          cases hy'
          have e : IntKind.i64.wrap (((x.2.1 : Nat) : Int) + (k : Int)) = ((x.2.1 + k : Nat) : Int) := by rw [wrap_in (by omega) (by omega)]; omega
          rw [e]
          refine rd_byte o.rd (by omega) fun b hb => ⟨by decide, ?_⟩
          rw [List.getElem?_append_right (by simp)] at hb
          rw [mem_rep hb, mk2_val]
          refine c_ne (fun h => absurd rfl h) (fun _ => ⟨(((k + 1 : Nat) : Int), ()), by rw [step1 hkl (by omega)]; rfl, ⟨k + 1, rfl, hkl, rfl⟩, ?_⟩)
          show 64 - (((k + 1 : Nat) : Int)).toNat < 64 - (k : Int).toNat
          omega
        · refine ⟨(((i + 1 : Nat) : Int), ()), by (try dsimp only); rw [step1 hlt (by omega)]; rfl, ⟨i + 1, rfl, hlt, rfl⟩, ?_⟩
          show L.length - (((i + 1 : Nat) : Int)).toNat < L.length - (i : Int).toNat
          omega
end
end Go.Proofs.YthkcdkldpbndnaaDoor
