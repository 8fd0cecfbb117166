/- What the library's functions on strings hand back, at a separator of one byte. No condition. -/
import Derived.Test.YthkcdkldpbndnaaDoorBy
import Derived.Test.YthkcdkldpbndnaaDoorWs
import Derived.Test.YthkcdkldpbndnaaDoorHu
set_option linter.unusedVariables false
namespace Go.Proofs.YthkcdkldpbndnaaDoor
open Go.RowKit Go.Hx
abbrev idx (s : List UInt8) (c : UInt8) : Int := Go.Lib.indexByte s c
theorem u8_back (c : UInt8) : ((c.toNat : Nat) : Int).toNat.toUInt8 = c := by
  rw [Int.toNat_natCast]; simp
theorem x_index (s : List UInt8) (c : UInt8) (w : World) : extP Tryd.prog 140 #[.string (str s), .int .u8 ((c.toNat : Nat) : Int)] w (.int .i64 (idx s c)) w := by
  have h : (callFunc 140 #[.string (str s), .int .u8 ((c.toNat : Nat) : Int)]).run Tryd.prog w = (do let v ← Extern.BytealgIndexByte.indexByte #[.string (str s), .int .u8 ((c.toNat : Nat) : Int)]; pure (Next.value v) : Sem Next).run Tryd.prog w := by kernel_rfl
  unfold extP
  rw [h, Sem.run_bind, Go.Lib.run_indexByteString, u8_back]
  rfl
theorem x_count (s : List UInt8) (c : UInt8) (w : World) : extP Tryd.prog 159 #[.string (str s), .int .u8 ((c.toNat : Nat) : Int)] w (.int .i64 ((s.count c : Nat) : Int)) w := by
  have h : (callFunc 159 #[.string (str s), .int .u8 ((c.toNat : Nat) : Int)]).run Tryd.prog w = (do let v ← Extern.BytealgCount.count #[.string (str s), .int .u8 ((c.toNat : Nat) : Int)]; pure (Next.value v) : Sem Next).run Tryd.prog w := by kernel_rfl
  unfold extP
  rw [h, Sem.run_bind, Go.Lib.run_countString, u8_back]
  rfl
theorem c_lIndexByte (s : List UInt8) (c : UInt8) (w : World) : Calls Tryd.prog 117 #[.string (str s), .int .u8 ((c.toNat : Nat) : Int)] w (Ret fun v w' => v = .int .i64 (idx s c) ∧ w = w') :=
  W117_ok _ _ w _ ⟨_, w, x_index s c w, _, rfl, rfl, rfl⟩
theorem c_IndexByte (s : List UInt8) (c : UInt8) (w : World) : Calls Tryd.prog 69 #[.string (str s), .int .u8 ((c.toNat : Nat) : Int)] w (Ret fun v w' => v = .int .i64 (idx s c) ∧ w = w') := by
  refine W69_ok _ _ w _ ((c_lIndexByte s c w).mono ?_)
  rintro _ _ ⟨_, rfl, rfl, rfl⟩
  exact ⟨_, rfl, rfl, rfl⟩
theorem idx_self (c : UInt8) : idx [c] c = 0 := by simp [idx, Go.Lib.indexByte]
theorem c_lIndex (s : List UInt8) (c : UInt8) (w : World) : Calls Tryd.prog 144 #[.string (str s), .string (str [c])] w (Ret fun v w' => v = .int .i64 (idx s c) ∧ w = w') := by
  refine W144_ok _ _ w _ ⟨fun t w' => t = (decide ([c] = s), ()) ∧ w = w', ?_, ?_⟩
  · rintro _ _ _ ⟨rfl, rfl⟩
    refine c_dec (fun h => ⟨by rw [← h, idx_self], rfl⟩) (fun h => ?_)
    rw [str_size]
    refine c_eq (fun _ => ⟨by decide, c, by rw [str_get]; rfl, ?_⟩) (fun h => absurd rfl h)
    refine (c_lIndexByte s c w).mono ?_
    rintro _ _ ⟨_, rfl, rfl, rfl⟩
    exact ⟨_, rfl, rfl, rfl⟩
  · rw [str_size]
    refine c_eq (fun h => absurd h (by simp)) (fun _ => ⟨(decide ([c] = s), ()), by rw [strEq_str]; rfl, rfl, rfl⟩)
theorem c_Index (s : List UInt8) (c : UInt8) (w : World) : Calls Tryd.prog 143 #[.string (str s), .string (str [c])] w (Ret fun v w' => v = .int .i64 (idx s c) ∧ w = w') := by
  refine W143_ok _ _ w _ ((c_lIndex s c w).mono ?_)
  rintro _ _ ⟨_, rfl, rfl, rfl⟩
  exact ⟨_, rfl, rfl, rfl⟩
theorem c_Count (s : List UInt8) (c : UInt8) (w : World) : Calls Tryd.prog 142 #[.string (str s), .string (str [c])] w (Ret fun v w' => v = .int .i64 ((s.count c : Nat) : Int) ∧ w = w') := by
  refine W142_ok _ _ w _ ?_
  unfold W142
  rw [str_size]
  refine c_eq (fun h => absurd h (by simp)) (fun _ => c_eq (fun _ => ⟨by decide, c, by rw [str_get]; rfl, _, w, x_count s c w, _, rfl, rfl, rfl⟩) (fun h => absurd rfl h))
/-! ### Cutting -/
theorem idx_none {c : UInt8} : ∀ {s : List UInt8}, idx s c < 0 → s.count c = 0 ∧ idx s c = -1
  | [], _ => ⟨rfl, rfl⟩
  | b :: r, h => by
    have hg := Go.Lib.indexByte_ge r c
    unfold idx Go.Lib.indexByte at h ⊢
    by_cases hb : (b == c) = true
    · rw [if_pos hb] at h; omega
    · rw [if_neg hb] at h ⊢
      by_cases h1 : (Go.Lib.indexByte r c == -1) = true
      · rw [if_pos h1]
        have := (idx_none (s := r) (c := c) (by have : idx r c = -1 := by simpa using h1
                                                omega)).1
        rw [List.count_cons, this, if_neg hb]
        exact ⟨rfl, rfl⟩
      · rw [if_neg h1] at h
        have : Go.Lib.indexByte r c ≠ -1 := by simpa using h1
        omega
/-- The pieces between the bytes c. -/
def pieces (c : UInt8) : List UInt8 → List (List UInt8)
  | [] => [[]]
  | b :: r => if b == c then [] :: pieces c r else match pieces c r with
    | [] => [[b]]
    | h :: t => (b :: h) :: t
theorem pieces_ne (c : UInt8) : ∀ s, pieces c s ≠ []
  | [] => by simp [pieces]
  | b :: r => by
    unfold pieces
    split
    · simp
    · split <;> simp
theorem pieces_none {c : UInt8} : ∀ {s : List UInt8}, idx s c < 0 → pieces c s = [s]
  | [], _ => rfl
  | b :: r, h => by
    have h0 := (idx_none h).1
    rw [List.count_cons] at h0
    unfold pieces
    by_cases hb : (b == c) = true
    · rw [if_pos hb] at h0; omega
    · rw [if_neg hb]
      have : idx r c < 0 := by
        unfold idx Go.Lib.indexByte at h
        rw [if_neg hb] at h
        by_cases h1 : (Go.Lib.indexByte r c == -1) = true
        · have : idx r c = -1 := by simpa using h1
          omega
        · rw [if_neg h1] at h
          show Go.Lib.indexByte r c < 0
          omega
      rw [pieces_none this]
theorem idx_some {c : UInt8} : ∀ {s : List UInt8} {i : Nat}, idx s c = (i : Int) → i < s.length ∧ pieces c s = s.take i :: pieces c (s.drop (i + 1)) ∧ s.count c = (s.drop (i + 1)).count c + 1
  | [], i, h => by simp [idx, Go.Lib.indexByte] at h
  | b :: r, i, h => by
    unfold idx Go.Lib.indexByte at h
    by_cases hb : (b == c) = true
    · rw [if_pos hb] at h
      have : i = 0 := by omega
      subst this
      refine ⟨by simp, ?_, ?_⟩
      · conv => lhs; unfold pieces
        rw [if_pos hb]; simp
      · rw [List.count_cons, if_pos hb]; simp
    · rw [if_neg hb] at h
      by_cases h1 : (Go.Lib.indexByte r c == -1) = true
      · rw [if_pos h1] at h; omega
      · rw [if_neg h1] at h
        have hg := Go.Lib.indexByte_ge r c
        have hn : Go.Lib.indexByte r c ≠ -1 := by simpa using h1
        obtain ⟨j, rfl⟩ : ∃ j, i = j + 1 := ⟨i - 1, by omega⟩
        obtain ⟨h2, h3, h4⟩ := idx_some (s := r) (c := c) (i := j) (by show Go.Lib.indexByte r c = _; omega)
        refine ⟨by simp; omega, ?_, ?_⟩
        · conv => lhs; unfold pieces
          rw [if_neg hb, h3]; simp
        · rw [List.count_cons, if_neg hb, h4]; simp
theorem idx_le {s : List UInt8} {c : UInt8} {i : Nat} (h : idx s c = (i : Int)) : i < s.length := (idx_some h).1
theorem count_none {c : UInt8} {s : List UInt8} (h : s.count c = 0) : idx s c < 0 := by
  have hg := Go.Lib.indexByte_ge s c
  apply Classical.byContradiction
  intro hn
  have hn : ¬ idx s c < 0 := hn
  have := (idx_some (s := s) (c := c) (i := (idx s c).toNat) (by omega)).2.2
  omega
theorem set_next (l : List Value) (k : Nat) (z x : Value) : (l ++ List.replicate (k + 1) z).set l.length x = (l ++ [x]) ++ List.replicate k z := by
  rw [List.set_append, if_neg (by omega), Nat.sub_self, List.replicate_succ, List.set_cons_zero, List.append_assoc]; rfl
theorem c_genSplit (s : List UInt8) (c : UInt8) (w : World) (hs : s.length ≤ 10000000000) : Calls Tryd.prog 118 #[.string (str s), .string (str [c]), .int .i64 (0 : Int), .int .i64 (-1 : Int)] w
    (Ret fun v w' => ∃ b n, v = .slice (some ⟨b, 0, none⟩) n n ∧ n = (pieces c s).length ∧ Ow 9 1 w.heap.size w' (some ⟨b, 0, none⟩) n n (sv (pieces c s)) ∧ Below w.heap.size w w') := by
  refine W118_ok _ _ _ _ w _ ?_
  unfold W118
  refine c_eq (fun h => absurd h (by decide)) (fun _ => ?_)
  rw [str_lit #[], strEq_str]
  refine c_dec (fun h => absurd h (by simp)) (fun _ => ?_)
  have hcl := List.count_le_length (a := c) (l := s)
  have hn1 : IntKind.i64.wrap ((((str s).size : Nat) : Int) + 1) = ((s.length + 1 : Nat) : Int) := by rw [str_size, wrap_in (by omega) (by omega)]; omega
  have hNN : (if ((s.length + 1 : Nat) : Int) < ((s.count c + 1 : Nat) : Int) then ((s.length + 1 : Nat) : Int) else ((s.count c + 1 : Nat) : Int)) = ((s.count c + 1 : Nat) : Int) := by rw [if_neg (by omega)]
  refine ⟨fun t w' => t = (((s.count c + 1 : Nat) : Int), ()) ∧ w = w', ?_, c_dec (fun _ => ?_) (fun h => absurd (by decide) h)⟩
  · rintro _ _ _ ⟨rfl, rfl⟩
    rw [hn1]
    dsimp only
    rw [hNN, Int.toNat_natCast, Nat.mul_one, zarr]
    refine ⟨⟨by omega, by omega, by omega, by omega⟩, newW_intro fun b w1 k1 l1 b1 => ?_⟩
    have z1 := b1.size
    refine ⟨fun t w' => ∃ (done : List (List UInt8)) (s' : List UInt8), t = (str s', ((done.length : Nat) : Int), ()) ∧ pieces c s = done ++ pieces c s' ∧ s'.count c = 0 ∧ done.length = s.count c ∧ Blk w' b (sv done ++ List.replicate 1 (Value.string (str []))).toArray 9 ∧ Below w.heap.size w w', ?_, ?_⟩
    · rintro _ _ w2 ⟨done, s', rfl, hp, hc0, hd, k2, b2⟩
      dsimp only
      refine ⟨⟨by omega, by omega⟩, ?_⟩
      rw [Int.toNat_natCast, Addr.add_lit, Nat.zero_add, Nat.mul_one]
      refine stC_intro k2 (by rw [List.size_toArray, List.length_append, sv_length]; simp) fun w3 k3 m3 s3 => ?_
      have e1 : IntKind.i64.wrap (((done.length : Nat) : Int) + 1) = ((done.length + 1 : Nat) : Int) := by rw [wrap_in (by omega) (by omega)]; omega
      rw [e1]
      refine ⟨⟨by omega, by omega⟩, ?_⟩
      rw [slB0, Int.toNat_natCast, Nat.sub_zero, Nat.sub_zero, hd]
      have hpl : pieces c s' = [s'] := pieces_none (count_none hc0)
      have hl : (pieces c s).length = s.count c + 1 := by rw [hp, hpl, List.length_append, hd]; rfl
      refine ⟨b, _, rfl, hl.symm, ⟨by rw [sv_length, hl, Nat.mul_one], Nat.le_refl _, by unfold maxLen; omega, .inr ⟨b, _, rfl, l1, k3, ?_, ?_⟩⟩, b2.trans (m3.below b2.size l1)⟩
      · simp [sv_length, hd]
      · rw [List.setIfInBounds_toArray]
        have e2 := set_next (sv done) 0 (.string (str [])) (.string (str s'))
        rw [sv_length] at e2
        rw [e2, hp, hpl, sv_app]
        rw [List.take_of_length_le]
        · simp [sv]
        · simp [sv_length, hd]
    · refine ⟨fun t w' => ∃ (done : List (List UInt8)) (s' : List UInt8), t = (str s', ((done.length : Nat) : Int), ()) ∧ pieces c s = done ++ pieces c s' ∧ s'.count c + done.length = s.count c ∧ s'.length ≤ s.length ∧ Blk w' b (sv done ++ List.replicate (s'.count c + 1) (Value.string (str []))).toArray 9 ∧ Below w.heap.size w w', fun t _ => s.count c - t.2.1.toNat,
        ⟨(str s, ((0 : Nat) : Int), ()), rfl, [], s, rfl, rfl, rfl, Nat.le_refl _, by simpa [sv] using k1, b1⟩, ?_⟩
      rintro _ _ w2 ⟨done, s', rfl, hp, hd, hle, k2, b2⟩
      have e0 : IntKind.i64.wrap (((s.count c + 1 : Nat) : Int) - 1) = ((s.count c : Nat) : Int) := by rw [wrap_in (by omega) (by omega)]; omega
      rw [e0]
      refine c_dec (fun hlt => ?_) (fun hge => ?_)
      · have hlt : done.length < s.count c := by simpa using hlt
        refine (c_Index s' c w2).mono ?_
        rintro _ _ ⟨_, rfl, rfl, rfl⟩
        have hpos : ¬ idx s' c < 0 := fun h => by have := (idx_none h).1; omega
        refine ⟨_, rfl, c_dec (fun h => absurd h hpos) (fun _ => ?_)⟩
        obtain ⟨i, hi⟩ : ∃ i : Nat, idx s' c = (i : Int) := ⟨(idx s' c).toNat, by omega⟩
        obtain ⟨h1, h2, h3⟩ := idx_some hi
        rw [hi, Int.add_zero, wrap_in (by omega) (by omega)]
        dsimp only
        rw [str_size]
        refine ⟨⟨by omega, by omega⟩, ⟨by omega, by omega⟩, ?_⟩
        rw [Int.toNat_natCast, Int.toNat_natCast, Addr.add_lit, Nat.zero_add, Nat.mul_one, str_take]
        refine stC_intro k2 (by rw [List.size_toArray, List.length_append, sv_length]; simp) fun w3 k3 m3 s3 => ?_
        have e1 : IntKind.i64.wrap ((i : Int) + (((str [c]).size : Nat) : Int)) = ((i + 1 : Nat) : Int) := by rw [str_size, wrap_in (by simp; omega) (by simp; omega)]; simp
        rw [e1]
        refine ⟨⟨by omega, by omega⟩, (str (s'.drop (i + 1)), ((done.length + 1 : Nat) : Int), ()), ?_, ⟨done ++ [s'.take i], s'.drop (i + 1), by simp, by rw [hp, h2]; simp, by simp; omega, by rw [List.length_drop]; omega, ?_, b2.trans (m3.below b2.size l1)⟩, ?_⟩
        · rw [step1 hlt (by omega), Int.toNat_natCast, str_drop _ _ _ (Nat.le_refl _)]; rfl
        · rw [List.setIfInBounds_toArray] at k3
          have e2 := set_next (sv done) ((s'.drop (i + 1)).count c + 1) (.string (str [])) (.string (str (s'.take i)))
          rw [sv_length] at e2
          rw [h3, e2] at k3
          rw [sv_app]
          exact k3
        · show s.count c - (((done.length + 1 : Nat) : Int)).toNat < s.count c - ((done.length : Nat) : Int).toNat
          omega
      · have hge : ¬ done.length < s.count c := by simpa using hge
        have h0 : s'.count c = 0 := by omega
        rw [h0] at k2
        exact ⟨(str s', ((done.length : Nat) : Int), ()), rfl, done, s', rfl, hp, h0, by omega, k2, b2⟩
  · refine (c_Count s c w).mono ?_
    rintro _ _ ⟨_, rfl, rfl, rfl⟩
    exact ⟨_, rfl, (((s.count c + 1 : Nat) : Int), ()), by rw [wrap_in (by omega) (by omega)]; rfl, rfl, rfl⟩
theorem c_Split (s : List UInt8) (c : UInt8) (w : World) (hs : s.length ≤ 10000000000) : Calls Tryd.prog 70 #[.string (str s), .string (str [c])] w
    (Ret fun v w' => ∃ b n, v = .slice (some ⟨b, 0, none⟩) n n ∧ n = (pieces c s).length ∧ Ow 9 1 w.heap.size w' (some ⟨b, 0, none⟩) n n (sv (pieces c s)) ∧ Below w.heap.size w w') := by
  refine W70_ok _ _ w _ ((c_genSplit s c w hs).mono ?_)
  rintro _ w1 ⟨_, rfl, b, n, rfl, h⟩
  exact ⟨_, _, _, rfl, b, n, rfl, h⟩
/-- The bytes ahead of the first c. -/
def ahead (s : List UInt8) (c : UInt8) : List UInt8 := if idx s c < 0 then s else s.take (idx s c).toNat
theorem c_lCut (s : List UInt8) (c : UInt8) (w : World) (hs : s.length ≤ 140737488351232) : Calls Tryd.prog 119 #[.string (str s), .string (str [c])] w
    (Ret fun v w' => ∃ r b, v = .tuple #[.string (str (ahead s c)), .string r, .bool b] ∧ Below w.heap.size w w') := by
  refine W119_ok _ _ w _ ((c_lIndex s c w).mono ?_)
  rintro _ _ ⟨_, rfl, rfl, rfl⟩
  refine ⟨_, rfl, c_dec (fun h => ?_) (fun h => ?_)⟩
  · obtain ⟨i, hi⟩ : ∃ i : Nat, idx s c = (i : Int) := ⟨(idx s c).toNat, by omega⟩
    have h1 := idx_le hi
    have ea : ahead s c = s.take i := by unfold ahead; rw [if_neg (by omega), hi]; rfl
    have e1 : IntKind.i64.wrap ((i : Int) + (((str [c]).size : Nat) : Int)) = ((i + 1 : Nat) : Int) := by rw [str_size, wrap_in (by simp; omega) (by simp; omega)]; simp
    rw [hi, e1, str_size]
    refine ⟨⟨by omega, by omega⟩, ⟨by omega, by omega⟩, str (s.drop (i + 1)), true, ?_, below_drew _ _⟩
    rw [ea, Int.toNat_natCast, Int.toNat_natCast, str_take, str_drop _ _ _ (Nat.le_refl _)]
  · refine ⟨str [], false, ?_, Below.refl _ _⟩
    unfold ahead
    rw [if_pos (by omega)]; rfl
theorem c_Cut (s : List UInt8) (c : UInt8) (w : World) (hs : s.length ≤ 140737488351232) : Calls Tryd.prog 72 #[.string (str s), .string (str [c])] w
    (Ret fun v w' => ∃ r b, v = .tuple #[.string (str (ahead s c)), .string r, .bool b] ∧ Below w.heap.size w w') := by
  refine W72_ok _ _ w _ ((c_lCut s c w hs).mono ?_)
  rintro _ w1 ⟨_, rfl, r, b, rfl, h⟩
  exact ⟨_, _, _, rfl, r, b, rfl, h⟩
end Go.Proofs.YthkcdkldpbndnaaDoor
