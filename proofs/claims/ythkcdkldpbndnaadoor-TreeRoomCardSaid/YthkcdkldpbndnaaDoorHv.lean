/- '==' on structs and arrays of integers, bools and strings says whether all cells are the same. No condition. -/
import Derived.Test.YthkcdkldpbndnaaDoorHw
import Derived.ChangeKeysEq
set_option linter.unusedVariables false
namespace Go.Hx
open Go.RowKit
section
variable {P : Program}

/-- A cell of that kind (integers, bools, strings alone). -/
def celK (k : Kd) (x : Value) : Prop := match k with
  | .int k => ∃ n, x = .int k n
  | .bool => ∃ b, x = .bool b
  | .str => ∃ s, x = .string s
  | _ => False
def conf : List Kd → List Value → Prop
  | [], [] => True
  | k :: ks, x :: xs => celK k x ∧ conf ks xs
  | _, _ => False
def peq (x y : Value) : Bool := match x, y with
  | .int _ a, .int _ b => a == b
  | .bool a, .bool b => a == b
  | .string a, .string b => a.toList == b.toList
  | _, _ => false
def leq : List Value → List Value → Bool
  | x :: xs, y :: ys => peq x y && leq xs ys
  | _, _ => true
theorem conf_length : ∀ {ks : List Kd} {xs : List Value}, conf ks xs → xs.length = ks.length
  | [], [], _ => rfl
  | _ :: ks, _ :: xs, h => by simp [conf_length h.2]
  | [], _ :: _, h => h.elim
  | _ :: _, [], h => h.elim
theorem conf_append : ∀ {ks ls : List Kd} {xs : List Value}, conf (ks ++ ls) xs → conf ks (xs.take ks.length) ∧ conf ls (xs.drop ks.length)
  | [], ls, xs, h => ⟨by simp [conf], by simpa using h⟩
  | k :: ks, ls, x :: xs, h => by
    obtain ⟨h1, h2⟩ := conf_append (ks := ks) h.2
    exact ⟨⟨h.1, h1⟩, h2⟩
  | _ :: _, _, [], h => h.elim
theorem leq_append : ∀ {n : Nat} {xs ys : List Value}, n ≤ xs.length → n ≤ ys.length → leq xs ys = (leq (xs.take n) (ys.take n) && leq (xs.drop n) (ys.drop n))
  | 0, xs, ys, _, _ => by simp [leq]
  | n + 1, x :: xs, y :: ys, h1, h2 => by
    simp only [leq, List.take_succ_cons, List.drop_succ_cons]
    rw [leq_append (n := n) (by simpa using h1) (by simpa using h2), Bool.and_assoc]
  | _ + 1, [], _, h, _ => by simp at h
  | _ + 1, _ :: _, [], _, h => by simp at h
def wrapT (P : Program) (t : TypeId) (l : List Value) : Value := cond (isAggB P t) (.agg l.toArray) (l.headD undef)
def flatFs (g : TypeId → Option (List Kd)) : List Field → Nat → Option (List Kd)
  | [], _ => some []
  | f :: fs, off => cond (f.name != "_" && Nat.beq f.offset off) (match g f.type with
    | some ks => match flatFs g fs (off + ks.length) with
      | some ls => some (ks ++ ls)
      | none => none
    | none => none) none
def repL : Nat → List Kd → List Kd
  | 0, _ => []
  | n + 1, ks => ks ++ repL n ks
def scal (P : Program) (t : TypeId) (k : Kd) : Option (List Kd) := cond (Nat.beq (P.cellsOf t) 1) (some [k]) none
/-- A type's cells, laid flat. -/
def flatB (P : Program) : Nat → TypeId → Option (List Kd)
  | 0, _ => none
  | d + 1, t => match P.underlying t with
    | some (.int k) => scal P t (.int k)
    | some .bool => scal P t .bool
    | some .string => scal P t .str
    | some (.struct fs) => cond (P.stoodInHeld t) none (match flatFs (flatB P d) fs.toList 0 with
      | some ks => cond (Nat.beq ks.length (P.cellsOf t) && !Nat.beq ks.length 0) (some ks) none
      | none => none)
    | some (.array n e) => match flatB P d e with
      | some ks => cond (Nat.beq (P.cellsOf t) (n * ks.length) && !Nat.beq (n * ks.length) 0) (some (repL n ks)) none
      | none => none
    | _ => none
/-- That '==' at this type, from so many steps of depth on, is 'leq'. -/
def EqT (P : Program) (D : Nat) (t : TypeId) (ks : List Kd) : Prop :=
  (ks.length = P.cellsOf t ∧ ks.length ≠ 0) ∧ (isAggB P t = false → ks.length = 1) ∧ (∃ d, P.underlying t = some d) ∧
    ∀ (m : Nat) (xs ys : List Value) (w : World), conf ks xs → conf ks ys → (Op.equalIn (D + m) t (wrapT P t xs) (wrapT P t ys)).run P w = .ok (leq xs ys) w
theorem beqN {a b : Nat} (h : Nat.beq a b = true) : a = b := Nat.eq_of_beq_eq_true h
theorem part_of {D : Nat} {t : TypeId} {ks : List Kd} (h : EqT P D t ks) {xs : List Value} {off : Nat} (hl : off + ks.length ≤ xs.length) (w : World) :
    (part t xs.toArray off).run P w = .ok (wrapT P t ((xs.drop off).take ks.length)) w := by
  obtain ⟨⟨h1, _⟩, h2, ⟨d, hu⟩, _⟩ := h
  unfold wrapT
  cases ha : isAggB P t with
  | true =>
    rw [isAggB_of hu] at ha
    simp only [part, Sem.run_bind, run_isAgg hu, ha, Result.andThen_ok, if_true, run_sizeOf' hu, Sem.run_pure, cond_true, ← h1]
    congr 2
    simp [List.extract_eq_take_drop]
  | false =>
    have h3 := h2 ha
    rw [isAggB_of hu] at ha
    have hlt : off < xs.length := by omega
    simp only [part, Sem.run_bind, run_isAgg hu, ha, Result.andThen_ok, Bool.false_eq_true, if_false, cond_false]
    have e : xs.toArray[off]? = some xs[off] := by simp [hlt]
    rw [e]
    simp only [Sem.run_pure]
    rw [List.drop_eq_getElem_cons hlt, h3]
    rfl
theorem eqFields_of {D : Nat} (m : Nat) {g : TypeId → Option (List Kd)} (hg : ∀ t ks, g t = some ks → EqT P D t ks) {xs ys : List Value} :
    ∀ (fs : List Field) (off : Nat) (ks : List Kd) (w : World), flatFs g fs off = some ks → conf ks (xs.drop off) → conf ks (ys.drop off) →
      (Op.eqFields (D + m) xs.toArray ys.toArray fs).run P w = .ok (leq (xs.drop off) (ys.drop off)) w
  | [], off, ks, w, h, hx, hy => by
    simp only [flatFs, Option.some.injEq] at h
    subst h
    have hx' := conf_length hx
    have e : xs.drop off = [] := List.length_eq_zero_iff.1 hx'
    simp only [Op.eqFields, e, leq, Sem.run_pure]
  | f :: fs, off, ks, w, h, hx, hy => by
    simp only [flatFs] at h
    cases hc : (f.name != "_" && Nat.beq f.offset off) with
    | false => rw [hc] at h; cases h
    | true =>
      rw [hc] at h
      simp only [Bool.and_eq_true] at hc
      have ho := beqN hc.2
      simp only [cond_true] at h
      split at h
      · rename_i k1 hk1
        split at h
        · rename_i k2 hk2
          simp only [Option.some.injEq] at h
          subst h
          have hE := hg _ _ hk1
          have hlx := conf_length hx
          have hly := conf_length hy
          simp only [List.length_append, List.length_drop] at hlx hly
          obtain ⟨x1, x2⟩ := conf_append hx
          obtain ⟨y1, y2⟩ := conf_append hy
          rw [List.drop_drop] at x2 y2
          have hz := hE.1.2
          have px := part_of hE (xs := xs) (off := off) (by omega) w
          have py := part_of hE (xs := ys) (off := off) (by omega) w
          have hn : f.name ≠ "_" := by simpa using hc.1
          rw [leq_append (n := k1.length) (by simp; omega) (by simp; omega), List.drop_drop, List.drop_drop]
          simp only [Op.eqFields, ho]
          rw [if_pos hn]
          simp only [Sem.run_bind, px, py, Result.andThen_ok, hE.2.2.2 m _ _ w x1 y1]
          cases hl : leq (List.take k1.length (List.drop off xs)) (List.take k1.length (List.drop off ys)) with
          | false => simp
          | true =>
            simp only [Bool.not_true, Bool.false_eq_true, if_false, Bool.true_and]
            exact eqFields_of m hg fs (off + k1.length) k2 w hk2 x2 y2
        · cases h
      · cases h
theorem eqItems_of {D : Nat} (m : Nat) {e : TypeId} {ks : List Kd} (hE : EqT P D e ks) {xs ys : List Value} :
    ∀ (n i : Nat) (w : World), conf (repL n ks) (xs.drop (i * ks.length)) → conf (repL n ks) (ys.drop (i * ks.length)) →
      (Op.eqItems (D + m) e (P.cellsOf e) xs.toArray ys.toArray (List.range' i n)).run P w = .ok (leq (xs.drop (i * ks.length)) (ys.drop (i * ks.length))) w
  | 0, i, w, hx, hy => by
    have hx' := conf_length hx
    have e : xs.drop (i * ks.length) = [] := List.length_eq_zero_iff.1 hx'
    simp only [Op.eqItems, List.range'_zero, e, leq, Sem.run_pure]
  | n + 1, i, w, hx, hy => by
    have hlx := conf_length hx
    have hly := conf_length hy
    simp only [repL, List.length_append, List.length_drop] at hlx hly
    obtain ⟨x1, x2⟩ := conf_append hx
    obtain ⟨y1, y2⟩ := conf_append hy
    rw [List.drop_drop] at x2 y2
    have hs : i * ks.length + ks.length = (i + 1) * ks.length := by rw [Nat.succ_mul]
    rw [hs] at x2 y2
    have hz := hE.1.2
    have px := part_of hE (xs := xs) (off := i * ks.length) (by omega) w
    have py := part_of hE (xs := ys) (off := i * ks.length) (by omega) w
    rw [leq_append (n := ks.length) (by simp; omega) (by simp; omega), List.drop_drop, List.drop_drop, hs]
    rw [List.range'_succ]
    simp only [Op.eqItems, ← hE.1.1, Sem.run_bind, px, py, Result.andThen_ok, hE.2.2.2 m _ _ w x1 y1]
    cases hl : leq (List.take ks.length (List.drop (i * ks.length) xs)) (List.take ks.length (List.drop (i * ks.length) ys)) with
    | false => simp
    | true =>
      simp only [Bool.not_true, Bool.false_eq_true, if_false, Bool.true_and]
      have := eqItems_of m hE n (i + 1) w x2 y2
      rw [← hE.1.1] at this
      exact this
theorem eqT_scal {t : TypeId} {k : Kd} {ks : List Kd} (h : scal P t k = some ks) (D : Nat) (ha : isAggB P t = false) (hu : ∃ d, P.underlying t = some d)
    (he : ∀ (d : Nat) (a b : Value) (w : World), celK k a → celK k b → (Op.equalIn (d + 1) t a b).run P w = .ok (peq a b) w) : EqT P (D + 1) t ks := by
  unfold scal at h
  cases hc : Nat.beq (P.cellsOf t) 1 with
  | false => rw [hc] at h; cases h
  | true =>
    rw [hc] at h
    simp only [cond_true, Option.some.injEq] at h
    subst h
    refine ⟨⟨(beqN hc).symm, by simp⟩, fun _ => rfl, hu, fun m xs ys w hx hy => ?_⟩
    match xs, ys, hx, hy with
    | [x], [y], hx, hy =>
      unfold wrapT
      rw [ha]
      simp only [cond_false, List.headD_cons, leq, Bool.and_true]
      rw [show D + 1 + m = (D + m) + 1 by omega]
      exact he _ x y w hx.1 hy.1
theorem flatB_sound : ∀ (D : Nat) (t : TypeId) (ks : List Kd), flatB P D t = some ks → EqT P D t ks
  | 0, _, _, h => by cases h
  | D + 1, t, ks, h => by
    simp only [flatB] at h
    split at h
    · rename_i k hu
      exact eqT_scal h D (by rw [isAggB_of hu]; rfl) ⟨_, hu⟩ (fun d a b w ⟨x, hx⟩ ⟨y, hy⟩ => by subst hx hy; exact run_equalIn_int w d t _ _ x y hu)
    · rename_i hu
      exact eqT_scal h D (by rw [isAggB_of hu]; rfl) ⟨_, hu⟩ (fun d a b w ⟨x, hx⟩ ⟨y, hy⟩ => by subst hx hy; exact run_equalIn_bool' w d t x y hu)
    · rename_i hu
      exact eqT_scal h D (by rw [isAggB_of hu]; rfl) ⟨_, hu⟩ (fun d a b w ⟨x, hx⟩ ⟨y, hy⟩ => by subst hx hy; exact run_equalIn_string w d t x y hu)
    · rename_i fs hu
      cases hs : P.stoodInHeld t with
      | true => rw [hs] at h; cases h
      | false =>
        rw [hs] at h
        simp only [cond_false] at h
        split at h
        · rename_i ks' hk
          cases hc : (Nat.beq ks'.length (P.cellsOf t) && !Nat.beq ks'.length 0) with
          | false => rw [hc] at h; cases h
          | true =>
            rw [hc] at h
            simp only [cond_true, Option.some.injEq] at h
            subst h
            have ha : isAggB P t = true := by rw [isAggB_of hu]; rfl
            simp only [Bool.and_eq_true, Bool.not_eq_true'] at hc
            refine ⟨⟨beqN hc.1, fun e => by rw [e] at hc; cases hc.2⟩, fun h => (by rw [ha] at h; cases h), ⟨_, hu⟩, fun m xs ys w hx hy => ?_⟩
            unfold wrapT
            rw [ha]
            simp only [cond_true]
            have hf : P.fieldsOf t = fs := by unfold Program.fieldsOf; rw [hu]
            rw [show D + 1 + m = (D + m) + 1 by omega, run_equalIn_struct w _ t _ _ (by rw [hf]; exact hu) hs, hf]
            have := eqFields_of (P := P) (D := D) m (g := flatB P D) (fun t ks h => flatB_sound D t ks h) (xs := xs) (ys := ys) fs.toList 0 ks' w hk (by simpa using hx) (by simpa using hy)
            simpa using this
        · cases h
    · rename_i n e hu
      split at h
      · rename_i ks' hk
        cases hc : (Nat.beq (P.cellsOf t) (n * ks'.length) && !Nat.beq (n * ks'.length) 0) with
        | false => rw [hc] at h; cases h
        | true =>
          rw [hc] at h
          simp only [cond_true, Option.some.injEq] at h
          subst h
          have hE := flatB_sound D e ks' hk
          have ha : isAggB P t = true := by rw [isAggB_of hu]; rfl
          have hrl : ∀ n, (repL n ks').length = n * ks'.length := fun n => by
            induction n with
            | zero => simp [repL]
            | succ n ih => simp [repL, ih, Nat.succ_mul, Nat.add_comm]
          simp only [Bool.and_eq_true, Bool.not_eq_true'] at hc
          refine ⟨⟨by rw [hrl, beqN hc.1], fun e => by rw [hrl] at e; rw [e] at hc; cases hc.2⟩, fun h => (by rw [ha] at h; cases h), ⟨_, hu⟩, fun m xs ys w hx hy => ?_⟩
          unfold wrapT
          rw [ha]
          simp only [cond_true]
          obtain ⟨d, hd⟩ := hE.2.2.1
          cases hi : P.info? e with
          | none => simp [Program.underlying, hi] at hd
          | some i =>
            rw [show D + 1 + m = (D + m) + 1 by omega, run_equalIn_array w (D + m) _ _ hu hi]
            have := eqItems_of (P := P) m hE (xs := xs) (ys := ys) n 0 w (by simpa using hx) (by simpa using hy)
            rw [List.range_eq_range']
            simpa using this
      · cases h
    · cases h
/-- **'==' of two values of such a struct or array type.** -/
theorem aggEq_of {t : TypeId} {ks : List Kd} {D : Nat} (hD : D ≤ 10000) (h : flatB P D t = some ks) (ha : isAggB P t = true) {xs ys : List Value} (hx : conf ks xs) (hy : conf ks ys) : AggEq P t xs.toArray ys.toArray (leq xs ys) := by
  intro w
  have := (flatB_sound D t ks h).2.2.2 (10000 - D) xs ys w hx hy
  rw [show D + (10000 - D) = 10000 by omega] at this
  unfold wrapT at this
  rw [ha] at this
  exact this
theorem leq_iff : ∀ {ks : List Kd} {xs ys : List Value}, conf ks xs → conf ks ys → (leq xs ys = true ↔ xs = ys)
  | [], [], [], _, _ => by simp [leq]
  | k :: ks, x :: xs, y :: ys, hx, hy => by
    have ih := leq_iff hx.2 hy.2
    simp only [leq, Bool.and_eq_true, ih, List.cons.injEq]
    refine and_congr ?_ Iff.rfl
    have h1 := hx.1
    have h2 := hy.1
    cases k <;> simp only [celK] at h1 h2
    · obtain ⟨a, rfl⟩ := h1; obtain ⟨b, rfl⟩ := h2; simp [peq]
    · obtain ⟨a, rfl⟩ := h1; obtain ⟨b, rfl⟩ := h2; simp [peq]
    · obtain ⟨a, rfl⟩ := h1; obtain ⟨b, rfl⟩ := h2
      simp only [peq, ← beq_toListBytes, Value.string.injEq]
      obtain ⟨x⟩ := a
      obtain ⟨y⟩ := b
      show (x == y) = true ↔ _
      simp
  | [], _ :: _, _, h, _ => h.elim
  | _ :: _, [], _, h, _ => h.elim
  | [], [], _ :: _, _, h => h.elim
  | _ :: _, _ :: _, [], _, h => h.elim
end
end Go.Hx
