/- Paths cut into names; entries laid down and read: the program's and the document's. No condition. -/
import Derived.Test.YthkcdkldpbndnaaDoorSs
set_option linter.unusedVariables false
namespace Go.Proofs.YthkcdkldpbndnaaDoor
open Go.RowKit Go.Hx
theorem kSs : slT Tryd.prog 25 9 = true := by kernel_rfl
theorem kS : infB Tryd.prog 9 1 16 = true := by kernel_rfl
def cuts (l : List (List UInt8)) : List (List UInt8) := (l.filter fun x => decide (x ≠ [])).map (List.take 14)
theorem cuts_snoc (l : List (List UInt8)) (x : List UInt8) : cuts (l ++ [x]) = cuts l ++ (if x = [] then [] else [x.take 14]) := by
  unfold cuts
  rw [List.filter_append, List.map_append]
  congr 1
  by_cases h : x = []
  · subst h; rfl
  · rw [if_neg h, List.filter_cons, if_pos (by simpa using h)]; rfl
theorem cuts_len (l : List (List UInt8)) : (cuts l).length ≤ l.length := by
  unfold cuts
  rw [List.length_map]
  exact List.length_filter_le _ _
def okS (s : List UInt8) : Bool := decide (s.length < 128) && decide (idx s 0 < 0)
def names (s : List UInt8) : List (List UInt8) := if okS s then cuts (pieces 47 s) else []
def SplitQ (s : List UInt8) (w : World) (v : Value) (w' : World) : Prop := ∃ (q : Option Addr) (n c : Nat), v = .tuple #[.slice q n c, .bool (okS s)] ∧ Ow 9 1 w.heap.size w' q n c (sv (names s)) ∧ Below w.heap.size w w'
theorem SplitQ.bad {s : List UInt8} {w : World} (h : okS s = false) : SplitQ s w (.tuple #[.slice none 0 0, .bool false]) w :=
  ⟨none, 0, 0, by rw [h], by unfold names; rw [h]; exact Ow.nil _ _ _ _, Below.refl _ _⟩
theorem pieces_len (c : UInt8) : ∀ s : List UInt8, (pieces c s).length ≤ s.length + 1
  | [] => by simp [pieces]
  | b :: r => by
    have := pieces_len c r
    unfold pieces
    split
    · simp; omega
    · split
      · simp
      · rename_i h t e
        rw [e] at this
        simp at this ⊢; omega
theorem min14 (x : List UInt8) : (if (14 : Int) < (((str x).size : Nat) : Int) then (14 : Int) else (((str x).size : Nat) : Int)) = ((min 14 x.length : Nat) : Int) := by
  rw [str_size]
  split <;> omega
theorem take_min (x : List UInt8) (n : Nat) : x.take (min n x.length) = x.take n := by
  rcases Nat.le_total n x.length with h | h
  · rw [Nat.min_eq_left h]
  · rw [Nat.min_eq_right h, List.take_length, List.take_of_length_le h]
theorem takeL_snoc {α : Type} {l : List α} {i : Nat} {s : α} (h : l[i]? = some s) : l.take (i + 1) = l.take i ++ [s] := by
  rw [List.take_add_one, h]; rfl
theorem one_str (s : ByteArray) : ∀ u ∈ (Value.string s).cells.toList, u.oneCell' = true := by
  intro u hu
  have hu : u ∈ [Value.string s] := hu
  simp at hu
  subst hu; rfl
theorem c_treeSplit (s : List UInt8) (w : World) : Calls Tryd.prog 12 #[.string (str s)] w (Ret (SplitQ s w)) := by
  refine W12_ok _ w _ ⟨fun t w' => t = (!okS s, ()) ∧ w = w', ?_, ?_⟩
  · rintro _ _ _ ⟨rfl, rfl⟩
    refine c_nb (fun h => SplitQ.bad h) (fun hok => ?_)
    have hok' := hok
    unfold okS at hok'
    rw [Bool.and_eq_true, decide_eq_true_eq, decide_eq_true_eq] at hok'
    have hpl := pieces_len 47 s
    refine (c_Split s 47 w (by omega)).mono ?_
    rintro _ w1 ⟨_, rfl, b, n, rfl, hn, o1, b1⟩
    have z1 := b1.size
    refine ⟨_, _, _, rfl, fun t w' => ∃ (i : Nat) (q : Option Addr) (m c : Nat), t = ((q, m, c), (i : Int), ()) ∧ i ≤ n ∧ Ow 9 1 w1.heap.size w' q m c (sv (cuts ((pieces 47 s).take i))) ∧ m ≤ 200 ∧ Below w1.heap.size w1 w', fun t _ => n - t.2.1.toNat,
      ⟨((none, 0, 0), ((0 : Nat) : Int), ()), rfl, 0, none, 0, 0, rfl, Nat.zero_le _, Ow.nil _ _ _ _, by omega, Below.refl _ _⟩, ?_⟩
    rintro _ _ w2 ⟨i, q, m, c, rfl, hi, o2, hm, b2⟩
    have z2 := b2.size
    have leaf : ∀ {q' : Option Addr} {m' c' : Nat} {w' : World} (hlt : i < n), Ow 9 1 w1.heap.size w' q' m' c' (sv (cuts ((pieces 47 s).take (i + 1)))) → Below w1.heap.size w1 w' →
        ∃ t' : (Option Addr × Nat × Nat) × Int × Unit, ([.slice q' m' c', .int .i64 (IntKind.i64.wrap ((i : Int) + (1 : Int)))] : List Value) = tv [(4, .slice), (18, .int .i64)] t' ∧
          (∃ (i : Nat) (q : Option Addr) (m c : Nat), t' = ((q, m, c), (i : Int), ()) ∧ i ≤ n ∧ Ow 9 1 w1.heap.size w' q m c (sv (cuts ((pieces 47 s).take i))) ∧ m ≤ 200 ∧ Below w1.heap.size w1 w') ∧ n - t'.2.1.toNat < n - ((i : Int)).toNat := fun hlt o b => by
      refine ⟨((_, _, _), ((i + 1 : Nat) : Int), ()), by rw [step1 hlt (by omega)]; rfl, ⟨i + 1, _, _, _, rfl, hlt, o, ?_, b⟩, ?_⟩
      · have h1 := o.len
        rw [sv_length, Nat.mul_one] at h1
        have h2 := cuts_len ((pieces 47 s).take (i + 1))
        rw [List.length_take] at h2
        omega
      · show n - (((i + 1 : Nat) : Int)).toNat < n - (i : Int).toNat
        omega
    refine c_dec (fun hlt => ?_) (fun hge => ?_)
    · have hlt : i < n := by simpa using hlt
      refine rd_str (o1.rd.below b2) hlt fun x hx => ?_
      rw [str_lit #[], strEq_str]
      have hc := cuts_snoc ((pieces 47 s).take i) x
      rw [← takeL_snoc hx] at hc
      refine c_ndec (fun h => ?_) (fun h => ?_)
      · have h : x ≠ [] := h
        rw [if_neg h] at hc
        rw [min14]
        refine ⟨⟨by omega, by rw [str_size]; omega⟩, ?_⟩
        rw [Int.toNat_natCast, str_take, take_min]
        refine o2.push z2 kSs kS rfl (by decide) (one_str _) (by omega) (by unfold maxLen; omega) fun q' c' w3 o3 b3 _ => ?_
        refine leaf hlt ?_ (b2.trans b3)
        rw [hc, sv_app]
        exact o3
      · have h : x = [] := h
        rw [if_pos h, List.append_nil] at hc
        refine leaf hlt ?_ b2
        rw [hc]
        exact o2
    · have hge : ¬ i < n := by simpa using hge
      rw [List.take_of_length_le (by omega)] at o2
      refine ⟨q, m, c, by rw [hok], ?_, b1.trans (b2.mono z1)⟩
      unfold names
      rw [if_pos hok]
      exact o2.mono z1
  · rw [str_size]
    refine c_dec (fun h => ⟨(true, ()), rfl, ?_, rfl⟩) (fun h => ?_)
    · unfold okS
      rw [decide_eq_false (by omega)]; rfl
    · refine (c_IndexByte s 0 w).mono ?_
      rintro _ _ ⟨_, rfl, rfl, rfl⟩
      refine ⟨_, rfl, (decide (idx s 0 ≥ 0), ()), rfl, ?_, rfl⟩
      unfold okS
      rw [decide_eq_true (by omega : s.length < 128), Bool.true_and]
      by_cases h0 : idx s 0 < 0
      · rw [decide_eq_true h0, decide_eq_false (by omega)]; rfl
      · rw [decide_eq_false h0, decide_eq_true (by omega)]; rfl
/-! ### The document's -/
theorem c_cut (s : List UInt8) (w : World) : Calls Tryd.prog 71 #[.string (str s)] w (Ret fun v w' => v = .string (str (s.take 14)) ∧ w = w') := by
  refine W71_ok _ w _ ?_
  unfold W71
  rw [str_size]
  refine c_dec (fun h => ⟨⟨by decide, by omega⟩, by rw [str_take]; rfl, rfl⟩) (fun h => ⟨?_, rfl⟩)
  rw [List.take_of_length_le (by omega)]
theorem pieces_snoc (c b : UInt8) : ∀ {s : List UInt8} {done : List (List UInt8)} {cur : List UInt8}, pieces c s = done ++ [cur] → pieces c (s ++ [b]) = if b == c then done ++ [cur] ++ [[]] else done ++ [cur ++ [b]]
  | [], done, cur, h => by
    have h : [[]] = done ++ [cur] := h
    cases done with
    | nil =>
      have : cur = [] := by simpa using h.symm
      subst this
      show pieces c [b] = _
      unfold pieces
      split
      · rfl
      · rfl
    | cons x r => simp at h
  | x :: r, done, cur, h => by
    obtain ⟨d, l, e⟩ : ∃ d l, pieces c r = d ++ [l] := ⟨_, _, (List.dropLast_concat_getLast (pieces_ne c r)).symm⟩
    have ih := pieces_snoc c b e
    have h0 := h
    rw [List.cons_append]
    unfold pieces at h ⊢
    by_cases hx : (x == c) = true
    · rw [if_pos hx] at h ⊢
      rw [e] at h
      have h1 : ([] :: d) ++ [l] = done ++ [cur] := by simpa using h
      obtain ⟨h2, h3⟩ := List.append_inj' h1 rfl
      simp at h3
      subst h2 h3
      rw [ih]
      split <;> simp
    · rw [if_neg hx] at h ⊢
      rw [e] at h
      rw [ih]
      cases d with
      | nil =>
        have h1 : [] ++ [x :: l] = done ++ [cur] := by simpa using h
        obtain ⟨h2, h3⟩ := List.append_inj' h1 rfl
        simp at h3
        subst h2 h3
        by_cases hb : (b == c) = true <;> simp [hb]
      | cons y d =>
        have h1 : ((x :: y) :: d) ++ [l] = done ++ [cur] := by simpa using h
        obtain ⟨h2, h3⟩ := List.append_inj' h1 rfl
        simp at h3
        subst h2 h3
        by_cases hb : (b == c) = true <;> simp [hb]
theorem idx_snoc (c b : UInt8) : ∀ {s : List UInt8}, idx s c < 0 → (idx (s ++ [b]) c < 0 ↔ b ≠ c)
  | [], _ => by
    show Go.Lib.indexByte [b] c < 0 ↔ b ≠ c
    unfold Go.Lib.indexByte
    by_cases h : (b == c) = true
    · rw [if_pos h]; simp at h; simp [h]
    · rw [if_neg h]; simp at h; simp [h, Go.Lib.indexByte]
  | x :: r, h => by
    have hg := Go.Lib.indexByte_ge r c
    have hg2 := Go.Lib.indexByte_ge (r ++ [b]) c
    unfold idx Go.Lib.indexByte at h
    by_cases hx : (x == c) = true
    · rw [if_pos hx] at h; omega
    · rw [if_neg hx] at h
      have h1 : idx r c < 0 := by
        by_cases h1 : (Go.Lib.indexByte r c == -1) = true
        · have : idx r c = -1 := by simpa using h1
          omega
        · rw [if_neg h1] at h
          show Go.Lib.indexByte r c < 0
          omega
      rw [← idx_snoc c b h1]
      show Go.Lib.indexByte (x :: (r ++ [b])) c < 0 ↔ Go.Lib.indexByte (r ++ [b]) c < 0
      conv => lhs; lhs; unfold Go.Lib.indexByte
      rw [if_neg hx]
      by_cases h2 : (Go.Lib.indexByte (r ++ [b]) c == -1) = true
      · rw [if_pos h2]
        have : Go.Lib.indexByte (r ++ [b]) c = -1 := by simpa using h2
        omega
      · rw [if_neg h2]
        have : Go.Lib.indexByte (r ++ [b]) c ≠ -1 := by simpa using h2
        omega
theorem idx_take {c : UInt8} : ∀ {s : List UInt8} (i : Nat), 0 ≤ idx (s.take i) c → 0 ≤ idx s c
  | [], i, h => by simpa using h
  | x :: r, 0, h => by
    have : idx ([] : List UInt8) c = -1 := rfl
    simp [this] at h
  | x :: r, i + 1, h => by
    have hg := Go.Lib.indexByte_ge r c
    unfold idx Go.Lib.indexByte
    by_cases hx : (x == c) = true
    · rw [if_pos hx]; omega
    · rw [if_neg hx]
      rw [List.take_succ_cons] at h
      unfold idx Go.Lib.indexByte at h
      rw [if_neg hx] at h
      have h1 : 0 ≤ idx (r.take i) c := by
        have hg2 := Go.Lib.indexByte_ge (r.take i) c
        by_cases h2 : (Go.Lib.indexByte (r.take i) c == -1) = true
        · rw [if_pos h2] at h; omega
        · rw [if_neg h2] at h
          have : Go.Lib.indexByte (r.take i) c ≠ -1 := by simpa using h2
          show 0 ≤ Go.Lib.indexByte (r.take i) c
          omega
      have h3 := idx_take i h1
      have h3 : 0 ≤ Go.Lib.indexByte r c := h3
      rw [if_neg (by simp; omega)]
      omega
theorem c_refSplit (s : List UInt8) (w : World) : Calls Tryd.prog 13 #[.string (str s)] w (Ret (SplitQ s w)) := by
  refine W13_ok _ w _ ?_
  unfold W13
  rw [str_size]
  refine c_dec (fun h => SplitQ.bad (by unfold okS; rw [decide_eq_false (by omega)]; rfl)) (fun h128 => ?_)
  refine ⟨fun t w' => ∃ (i fr : Nat) (q : Option Addr) (m c : Nat) (l : List (List UInt8)), t = ((q, m, c), (fr : Int), (i : Int), ()) ∧ i ≤ s.length + 1 ∧ Ow 9 1 w.heap.size w' q m c (sv l) ∧ m ≤ i ∧ Below w.heap.size w w' ∧ idx (s.take i) 0 < 0 ∧
      ((i ≤ s.length ∧ fr ≤ i ∧ ∃ done, pieces 47 (s.take i) = done ++ [(s.drop fr).take (i - fr)] ∧ l = cuts done) ∨ (i = s.length + 1 ∧ l = cuts (pieces 47 s))), fun t _ => s.length + 1 - t.2.2.1.toNat,
    ⟨((none, 0, 0), ((0 : Nat) : Int), ((0 : Nat) : Int), ()), rfl, 0, 0, none, 0, 0, [], rfl, by omega, Ow.nil _ _ _ _, Nat.le_refl _, Below.refl _ _, (by show idx [] 0 < 0; decide), .inl ⟨Nat.zero_le _, Nat.le_refl _, [], rfl, rfl⟩⟩, ?_⟩
  rintro _ _ w1 ⟨i, fr, q, m, c, l, rfl, hi, o, hm, b1, hz, hl⟩
  have z1 := b1.size
  have e1 : IntKind.i64.wrap ((i : Int) + (1 : Int)) = ((i + 1 : Nat) : Int) := by rw [wrap_in (by omega) (by omega)]; omega
  refine c_dec (fun hlt => ?_) (fun hge => ?_)
  · have hlt : i ≤ s.length := by
      have : (i : Int) ≤ ((s.length : Nat) : Int) := hlt
      omega
    obtain ⟨_, hfr, done, hp, rfl⟩ := hl.resolve_right (fun h => by omega)
    refine ⟨fun t w' => t = (decide (∃ b, s[i]? = some b ∧ b = 0), ()) ∧ w1 = w', ?_, ?_⟩
    · rintro _ _ _ ⟨rfl, rfl⟩
      refine c_dec (fun hb => ?_) (fun hb => ?_)
      · obtain ⟨b, hb, rfl⟩ := hb
        have hbad : okS s = false := by
          unfold okS
          have h1 : ¬ idx (s.take (i + 1)) 0 < 0 := by
            rw [takeL_snoc hb, idx_snoc 0 0 hz]; simp
          have h2 := idx_take (s := s) (c := 0) (i + 1) (by omega)
          rw [decide_eq_false (by omega : ¬ idx s 0 < 0), Bool.and_false]
        have := SplitQ.bad (w := w) hbad
        obtain ⟨q0, n0, c0, h1, h2, h3⟩ := this
        exact ⟨q0, n0, c0, h1, by
          have h4 := h2.below (h3.trans b1 : Below w.heap.size w w1)
          exact h4, b1⟩
      · have hz' : idx (s.take (i + 1)) 0 < 0 := by
          cases e : s[i]? with
          | none =>
            have : s.length ≤ i := by simpa using e
            rw [List.take_of_length_le (by omega)]
            rw [List.take_of_length_le (by omega)] at hz
            exact hz
          | some b =>
            rw [takeL_snoc e, idx_snoc 0 b hz]
            rintro rfl
            exact hb ⟨_, e, rfl⟩
        refine ⟨fun t w' => t = (decide (i = s.length ∨ s[i]? = some 47), ()) ∧ w1 = w', ?_, ?_⟩
        · rintro _ _ _ ⟨rfl, rfl⟩
          -- the new place
          have leaf : ∀ {q' : Option Addr} {m' c' fr' : Nat} {w' : World} {l' : List (List UInt8)}, Ow 9 1 w.heap.size w' q' m' c' (sv l') → m' ≤ i + 1 → Below w.heap.size w w' →
              ((i + 1 ≤ s.length ∧ fr' ≤ i + 1 ∧ ∃ done, pieces 47 (s.take (i + 1)) = done ++ [(s.drop fr').take (i + 1 - fr')] ∧ l' = cuts done) ∨ (i + 1 = s.length + 1 ∧ l' = cuts (pieces 47 s))) →
              ∃ t' : (Option Addr × Nat × Nat) × Int × Int × Unit, ([.slice q' m' c', .int .i64 ((fr' : Nat) : Int), .int .i64 ((i + 1 : Nat) : Int)] : List Value) = tv [(4, .slice), (5, .int .i64), (6, .int .i64)] t' ∧
                (∃ (i fr : Nat) (q : Option Addr) (m c : Nat) (l : List (List UInt8)), t' = ((q, m, c), (fr : Int), (i : Int), ()) ∧ i ≤ s.length + 1 ∧ Ow 9 1 w.heap.size w' q m c (sv l) ∧ m ≤ i ∧ Below w.heap.size w w' ∧ idx (s.take i) 0 < 0 ∧
                  ((i ≤ s.length ∧ fr ≤ i ∧ ∃ done, pieces 47 (s.take i) = done ++ [(s.drop fr).take (i - fr)] ∧ l = cuts done) ∨ (i = s.length + 1 ∧ l = cuts (pieces 47 s)))) ∧ s.length + 1 - t'.2.2.1.toNat < s.length + 1 - (i : Int).toNat := fun o hm b h =>
            ⟨((_, _, _), _, ((i + 1 : Nat) : Int), ()), rfl, ⟨i + 1, _, _, _, _, _, rfl, by omega, o, hm, b, hz', h⟩, by
              show s.length + 1 - (((i + 1 : Nat) : Int)).toNat < s.length + 1 - (i : Int).toNat
              omega⟩
          refine c_dec (fun hend => ?_) (fun hend => ?_)
          · -- a name ends
            have next : ∀ l', l' = cuts (done ++ [(s.drop fr).take (i - fr)]) → ((i + 1 ≤ s.length ∧ i + 1 ≤ i + 1 ∧ ∃ done, pieces 47 (s.take (i + 1)) = done ++ [(s.drop (i + 1)).take (i + 1 - (i + 1))] ∧ l' = cuts done) ∨ (i + 1 = s.length + 1 ∧ l' = cuts (pieces 47 s))) := by
              rintro l' rfl
              rcases Nat.lt_or_ge i s.length with h | h
              · left
                have hb47 : s[i]? = some 47 := hend.resolve_left (by omega)
                refine ⟨by omega, Nat.le_refl _, done ++ [(s.drop fr).take (i - fr)], ?_, rfl⟩
                rw [takeL_snoc hb47, pieces_snoc 47 47 hp]
                simp
              · right
                rw [List.take_of_length_le h] at hp
                exact ⟨by omega, by rw [hp]⟩
            refine c_dec (fun hgt => ?_) (fun hngt => ?_)
            · have hgt : fr < i := by
                have : (i : Int) > (fr : Int) := hgt
                omega
              dsimp only
              rw [e1, Int.toNat_natCast, Int.toNat_natCast]
              refine ⟨⟨by omega, by omega⟩, ⟨by omega, by omega⟩, ?_⟩
              rw [str_extract]
              refine (c_cut _ w1).mono ?_
              rintro _ _ ⟨_, rfl, rfl, rfl⟩
              refine ⟨_, rfl, o.push z1 kSs kS rfl (by decide) (one_str _) (by omega) (by unfold maxLen; omega) fun q' c' w3 o3 b3 _ => ?_⟩
              have hne : (s.drop fr).take (i - fr) ≠ [] := fun h => by
                have := congrArg List.length h
                rw [List.length_take, List.length_drop] at this
                simp at this; omega
              refine leaf (l' := cuts done ++ [((s.drop fr).take (i - fr)).take 14]) ?_ (by omega) (b1.trans b3) (next _ ?_)
              · rw [sv_app]; exact o3
              · rw [cuts_snoc, if_neg hne]
            · have hngt : ¬ fr < i := fun h => hngt (by show (i : Int) > (fr : Int); omega)
              dsimp only
              rw [e1]
              refine leaf o (by omega) b1 (next _ ?_)
              rw [cuts_snoc, if_pos (by rw [show i - fr = 0 by omega]; rfl), List.append_nil]
          · -- within a name
            dsimp only
            rw [e1]
            have hil : i < s.length := by
              apply Classical.byContradiction
              intro h
              exact hend (.inl (by omega))
            have hbi : s[i]? = some s[i] := List.getElem?_eq_getElem hil
            have h47 : ¬ (s[i] == 47) = true := fun h => hend (.inr (by rw [hbi]; simpa using h))
            refine leaf o (by omega) b1 (.inl ⟨by omega, by omega, done, ?_, rfl⟩)
            rw [takeL_snoc hbi, pieces_snoc 47 _ hp, if_neg h47]
            congr 2
            rw [show i + 1 - fr = (i - fr) + 1 by omega]
            refine (takeL_snoc ?_).symm
            rw [List.getElem?_drop, show fr + (i - fr) = i by omega, hbi]
        · refine c_eq (fun h => ⟨(true, ()), rfl, ?_, rfl⟩) (fun h => ?_)
          · rw [decide_eq_true (.inl (by have : (i : Int) = ((s.length : Nat) : Int) := h; omega))]
          · have hil : i < s.length := by
              have : (i : Int) ≠ ((s.length : Nat) : Int) := h
              omega
            have hbi : s[i]? = some s[i] := List.getElem?_eq_getElem hil
            refine ⟨Int.natCast_nonneg i, s[i], by rw [Int.toNat_natCast, str_get]; exact hbi, (decide (s[i] = 47), ()), ?_, ?_, rfl⟩
            · congr 3
              by_cases h47 : s[i] = 47
              · rw [h47]; rfl
              · rw [decide_eq_false h47]
                have : (((s[i]).toNat : Nat) : Int) ≠ 47 := fun h => h47 (UInt8.toNat_inj.1 (by show _ = 47; omega))
                simpa using this
            · congr 1
              rw [decide_eq_decide, hbi]
              constructor
              · exact fun h => .inr (by rw [h])
              · rintro (h | h)
                · omega
                · simpa using h
    · refine c_dec (fun h => ?_) (fun h => ⟨(false, ()), rfl, ?_, rfl⟩)
      · have hil : i < s.length := by
          have : (i : Int) < ((s.length : Nat) : Int) := h
          omega
        have hbi : s[i]? = some s[i] := List.getElem?_eq_getElem hil
        refine ⟨Int.natCast_nonneg i, s[i], by rw [Int.toNat_natCast, str_get]; exact hbi, (decide (s[i] = 0), ()), ?_, ?_, rfl⟩
        · congr 3
          by_cases h47 : s[i] = 0
          · rw [h47]; rfl
          · rw [decide_eq_false h47]
            have : (((s[i]).toNat : Nat) : Int) ≠ 0 := fun h => h47 (UInt8.toNat_inj.1 (by show _ = 0; omega))
            simpa using this
        · congr 1
          rw [decide_eq_decide, hbi]
          simp
      · have hil : ¬ i < s.length := fun hh => h (by show (i : Int) < ((s.length : Nat) : Int); omega)
        rw [decide_eq_false]
        rintro ⟨b, hb, _⟩
        rw [List.getElem?_eq_none (by omega)] at hb
        cases hb
  · have hge : s.length + 1 ≤ i := by
      have : ¬ (i : Int) ≤ ((s.length : Nat) : Int) := hge
      omega
    have hi' : i = s.length + 1 := by omega
    subst hi'
    obtain ⟨_, rfl⟩ := hl.resolve_left (fun h => by omega)
    rw [List.take_of_length_le (by omega)] at hz
    have hok : okS s = true := by
      unfold okS
      rw [decide_eq_true (by omega), decide_eq_true hz]; rfl
    exact ⟨q, m, c, by rw [hok], by unfold names; rw [if_pos hok]; exact o, b1⟩
end Go.Proofs.YthkcdkldpbndnaaDoor
