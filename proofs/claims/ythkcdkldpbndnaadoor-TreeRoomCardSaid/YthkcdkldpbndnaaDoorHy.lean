/- The reading operations of the walk library are sound: what 'rOp' says is what the model's operation does, in every world of a class. No condition. -/
import Derived.Test.YthkcdkldpbndnaaDoorHx
import Derived.Laws.Small
set_option linter.unusedVariables false
namespace Go.Hx
open Go.RowKit
section
variable {P : Program} {S : World → Prop} {at_ : (World → Prop) → Prop}

def aggD : TypeDesc → Bool
  | .struct _ => true
  | .array _ _ => true
  | _ => false
theorem run_isAgg {t : TypeId} {d : TypeDesc} (h : P.underlying t = some d) (w : World) :
    (isAgg t).run P w = .ok (aggD d) w := by
  unfold isAgg
  simp only [Sem.run_bind, run_underlying h, Result.andThen_ok]
  cases d <;> rfl
theorem run_sizeOf' {t : TypeId} {d : TypeDesc} (h : P.underlying t = some d) (w : World) : (sizeOf t).run P w = .ok (P.cellsOf t) w := by
  cases hi : P.info? t with
  | none => simp [Program.underlying, hi] at h
  | some i => exact run_sizeOf w hi
theorem run_loadVar_one {t : TypeId} {d : TypeDesc} (h : P.underlying t = some d) (hd : aggD d = false) {w : World} {a : Addr} {v : Value} (hc : w.cell? a = some v) :
    (loadVar t a).run P w = .ok v w := by
  unfold loadVar
  simp only [Sem.run_bind, run_isAgg h, hd, Result.andThen_ok, Bool.false_eq_true, if_false, run_load, hc]
theorem run_loadVar_agg {t : TypeId} {d : TypeDesc} (h : P.underlying t = some d) (hd : aggD d = true) {w : World} {a : Addr} {cs : Array Value} (hs : cs.size = P.cellsOf t) (hc : RowAt w a cs) :
    (loadVar t a).run P w = .ok (.agg cs) w := by
  unfold loadVar
  have e := run_loadCells_list (P := P) w a cs.toList (fun j v hv => hc j v (by simpa using hv))
  rw [Array.length_toList, hs] at e
  simp only [Sem.run_bind, run_isAgg h, hd, Result.andThen_ok, if_true, run_sizeOf' h, e, Sem.run_pure]
theorem cond_mono {b : Bool} {A A' B B' : Prop} (ha : A → A') (hb : B → B') (h : cond b A B) : cond b A' B' := by
  cases b with
  | true => exact ha h
  | false => exact hb h
theorem nlW_mono {p : Option Addr} {K K' : Addr → Prop} (h : ∀ a, K a → K' a) (hh : nlW p K) : nlW p K' := by
  cases p with
  | none => exact hh
  | some a => exact h a hh
theorem exT_mono {t : TypeId} {F G : Value → Prop} (h : ∀ v, F v → G v) (hh : exT P t F) : exT P t G := by
  unfold exT at *
  split at hh <;> first
    | exact hh.elim
    | (obtain ⟨a, b, c, hh⟩ := hh; exact ⟨a, b, c, h _ hh⟩)
    | (obtain ⟨a, hh⟩ := hh; exact ⟨a, h _ hh⟩)
theorem exTs_mono : ∀ (l : List TypeId) {F G : List Value → Prop}, (∀ v, F v → G v) → exTs P l F → exTs P l G
  | [], _, _, h, hh => h _ hh
  | _ :: r, _, _, h, hh => exT_mono (fun _ hv => exTs_mono r (fun _ => h _) hv) hh
theorem exR_mono {t : TypeId} {F G : Value → Prop} (h : ∀ v, F v → G v) (hh : exR P t F) : exR P t G := by
  unfold exR at *
  split at hh
  · exact exTs_mono _ (fun _ => h _) hh
  · exact exT_mono h hh
theorem exT_ex {t : TypeId} {F : Value → Prop} (hh : exT P t F) : ∃ v, F v := by
  unfold exT at hh
  split at hh <;> first
    | exact hh.elim
    | (obtain ⟨a, b, c, hh⟩ := hh; exact ⟨_, hh⟩)
    | (obtain ⟨a, hh⟩ := hh; exact ⟨_, hh⟩)
theorem exTs_ex : ∀ (l : List TypeId) {F : List Value → Prop}, exTs P l F → ∃ v, F v
  | [], _, h => ⟨_, h⟩
  | _ :: r, _, h => let ⟨_, h1⟩ := exT_ex h; let ⟨_, h2⟩ := exTs_ex r h1; ⟨_, h2⟩
theorem exR_ex {t : TypeId} {F : Value → Prop} (hh : exR P t F) : ∃ v, F v := by
  unfold exR at hh
  split at hh
  · obtain ⟨v, h⟩ := exTs_ex _ hh; exact ⟨_, h⟩
  · exact exT_ex hh
theorem nlW_some {p : Option Addr} {K : Addr → Prop} (h : nlW p K) : ∃ a, p = some a ∧ K a := by
  cases p with
  | none => exact h.elim
  | some a => exact ⟨a, rfl, h⟩
theorem exT_und {t : TypeId} {F : Value → Prop} (hh : exT P t F) : ∃ d, P.underlying t = some d := by
  unfold exT at hh
  cases hu : P.underlying t with
  | none => rw [hu] at hh; exact hh.elim
  | some d => exact ⟨d, rfl⟩
theorem isAggB_of {t : TypeId} {d : TypeDesc} (h : P.underlying t = some d) : isAggB P t = aggD d := by
  unfold isAggB
  rw [h]
  cases d <;> rfl
theorem isAggB_und {t : TypeId} (h : isAggB P t = true) : ∃ d, P.underlying t = some d ∧ aggD d = true := by
  unfold isAggB at h
  split at h
  · rename_i hu; exact ⟨_, hu, rfl⟩
  · rename_i hu; exact ⟨_, hu, rfl⟩
  · cases h
theorem loadW_sound (hat : ∀ p, at_ p → ∀ w, S w → p w) {t : TypeId} {x : Value} {K : Value → Prop} (h : loadW P at_ t x K) :
    ∃ v, (∀ w, S w → (Instr.loadAt t x).run P w = .ok v w) ∧ K v := by
  unfold loadW at h
  split at h
  · obtain ⟨a, rfl, h'⟩ := nlW_some h
    clear h
    have h := h'
    clear h'
    have hl : ∀ w, (Instr.loadAt t (.pointer (some a))).run P w = (loadVar t a).run P w := fun w => by simp [Instr.loadAt, Instr.sureAddr]
    cases ha : isAggB P t with
    | true =>
      rw [ha] at h
      obtain ⟨d, hu, hd⟩ := isAggB_und ha
      obtain ⟨cs, h0, h1, h2⟩ := h
      exact ⟨_, fun w hw => by rw [hl]; exact run_loadVar_agg hu hd h0 (hat _ h1 w hw), h2⟩
    | false =>
      rw [ha] at h
      simp only [cond_false] at h
      obtain ⟨d, hu⟩ := exT_und h
      rw [isAggB_of hu] at ha
      obtain ⟨v, h1, h2⟩ := exT_ex h
      exact ⟨_, fun w hw => by rw [hl]; exact run_loadVar_one hu ha (hat _ h1 w hw), h2⟩
  · exact h.elim

/-- The form of all that follows: one value, whatever the world. -/
def Ev (P : Program) (s : Sem Value) (K : Value → Prop) : Prop := ∃ v, (∀ w, s.run P w = .ok v w) ∧ K v
theorem Ev.mk {s : Sem Value} {K : Value → Prop} {v : Value} (h : ∀ w, s.run P w = .ok v w) (k : K v) : Ev P s K := ⟨v, h, k⟩

theorem binI_sound {op : BinOp} {t : TypeId} {x y : Operand} {k : IntKind} {a b : Int} {K : Value → Prop} (h : binI op k a b K) :
    Ev P (do eqGuard op t x y (.int k a) (.int k b); binOp op t (.int k a) (.int k b)) K := by
  cases op <;> simp only [binI] at h
  case quo => exact ⟨_, fun w => by simp [eqGuard_at_int, binOp_quo, Op.intDiv, h.1], h.2⟩
  case rem => exact ⟨_, fun w => by simp [eqGuard_at_int, binOp_rem, Op.intDiv, h.1], h.2⟩
  case shl => exact ⟨_, fun w => by simp only [eqGuard_at_int, binOp_shl, Op.shift]; rw [if_neg (by omega)]; rfl, h.2⟩
  case shr => exact ⟨_, fun w => by simp only [eqGuard_at_int, binOp_shr, Op.shift]; rw [if_neg (by omega)]; rfl, h.2⟩
  case and => exact ⟨_, fun w => by simp only [eqGuard_at_int, binOp_and, Op.intBits]; rfl, h⟩
  case or => exact ⟨_, fun w => by simp only [eqGuard_at_int, binOp_or, Op.intBits]; rfl, h⟩
  case xor => exact ⟨_, fun w => by simp only [eqGuard_at_int, binOp_xor, Op.intBits]; rfl, h⟩
  case andNot => exact ⟨_, fun w => by simp only [eqGuard_at_int, binOp_andNot, Op.intBits]; rfl, h⟩
  all_goals exact ⟨_, fun w => by simp [eqGuard_at_int, go_sem, Op.intArith], h⟩
theorem binS_sound {op : BinOp} {t : TypeId} {x y : Operand} {a b : ByteArray} {K : Value → Prop} (h : binS op a b K) :
    Ev P (do eqGuard op t x y (.string a) (.string b); binOp op t (.string a) (.string b)) K := by
  cases op <;> simp only [binS] at h <;> (try exact h.elim)
  case add =>
    refine ⟨_, fun w => ?_, h.2⟩
    simp only [eqGuard_at_string, pure_bind, binOp, Op.stringOp, IntKind.max_i64]
    rw [if_neg (by omega)]; rfl
  all_goals exact ⟨_, fun w => by simp only [eqGuard_at_string, pure_bind, binOp, Op.stringOp, strEq, strLt]; rfl, h⟩
theorem equalIn_ptr (w : World) (d : Nat) {t e : TypeId} (hu : P.underlying t = some (.pointer e)) {a : Option Addr} : (Op.equalIn (d + 1) t (.pointer a) (.pointer none)).run P w = .ok a.isNone w := by
  simp only [Op.equalIn, Sem.run_bind, run_underlying hu, Result.andThen_ok]
  cases a <;> rfl
theorem equalIn_slice (w : World) (d : Nat) {t e : TypeId} (hu : P.underlying t = some (.slice e)) {a : Option Addr} {l c l' c' : Nat} : (Op.equalIn (d + 1) t (.slice a l c) (.slice none l' c')).run P w = .ok a.isNone w := by
  simp only [Op.equalIn, Sem.run_bind, run_underlying hu, Result.andThen_ok]
  cases a <;> rfl
theorem equalIn_ifn (w : World) (d : Nat) {t : TypeId} {ms : Array (String × TypeId)} (hu : P.underlying t = some (.interface ms)) : (Op.equalIn (d + 1) t .nilIface .nilIface).run P w = .ok true w := by
  simp only [Op.equalIn, Sem.run_bind, run_underlying hu, Result.andThen_ok]; rfl
theorem equalIn_ifi (w : World) (d : Nat) {t : TypeId} {ms : Array (String × TypeId)} (hu : P.underlying t = some (.interface ms)) {tx : TypeId} {vx : Value} : (Op.equalIn (d + 1) t (.iface tx vx) .nilIface).run P w = .ok false w := by
  simp only [Op.equalIn, Sem.run_bind, run_underlying hu, Result.andThen_ok]; rfl
theorem equal_of {op : BinOp} {t : TypeId} {x y : Operand} {u v : Value} {b : Bool} {K : Value → Prop}
    (hg : ∀ w, (eqGuard op t x y u v).run P w = .ok () w) (he : ∀ w, (Op.equal t u v).run P w = .ok b w)
    (hb1 : binOp .eql t u v = (do pure (.bool (← Op.equal t u v)))) (hb2 : binOp .neq t u v = (do pure (.bool (!(← Op.equal t u v)))))
    (h : eqK op b K) : Ev P (do eqGuard op t x y u v; binOp op t u v) K := by
  cases op <;> simp only [eqK] at h <;> (try exact h.elim)
  · exact ⟨_, fun w => by simp only [Sem.run_bind, hg, Result.andThen_ok, hb1, he, Sem.run_pure], h⟩
  · exact ⟨_, fun w => by simp only [Sem.run_bind, hg, Result.andThen_ok, hb2, he, Sem.run_pure], h⟩
theorem isC_spec {y : Operand} (h : isC y = true) : ∃ c, y = .const c := by
  cases y <;> first | exact ⟨_, rfl⟩ | cases h
theorem binW_sound {op : BinOp} {t : TypeId} {x y : Operand} {u v : Value} {K : Value → Prop} (h : binW P op t (isC y) u v K) :
    Ev P (do eqGuard op t x y u v; binOp op t u v) K := by
  unfold binW at h
  split at h
  · split at h
    · rename_i hu
      cases hc : isC y with
      | false => rw [hc] at h; exact h.elim
      | true =>
        rw [hc] at h
        obtain ⟨b, hb, h⟩ := h
        obtain ⟨c, rfl⟩ := isC_spec hc
        have he : ∀ w, (Op.equal t u .nilIface).run P w = .ok b w := fun w => by
          show (Op.equalIn (9999 + 1) t u .nilIface).run P w = _
          cases u <;> simp only [isNilI, Option.some.injEq] at hb <;> (try cases hb)
          · exact equalIn_ifi w 9999 hu
          · exact equalIn_ifn w 9999 hu
        have hg : ∀ w, (eqGuard op t x (.const c) u .nilIface).run P w = .ok () w := fun w => by
          cases u <;> simp only [isNilI] at hb <;> (try cases hb)
          · simp [eqGuard_at_iface]
          · simp [eqGuard_nil_constR]
        refine equal_of hg he ?_ ?_ h
        · cases u <;> first | rfl | (simp only [isNilI] at hb; cases hb)
        · cases u <;> first | rfl | (simp only [isNilI] at hb; cases hb)
    · exact h.elim
  · split at h
    · rename_i k a k' b _
      by_cases hs : op = .shl ∨ op = .shr
      · rcases hs with rfl | rfl
        · simp only [binI] at h
          exact ⟨_, fun w => by simp only [eqGuard_at_int, binOp_shl, Op.shift]; rw [if_neg (by omega)]; rfl, h.2⟩
        · simp only [binI] at h
          exact ⟨_, fun w => by simp only [eqGuard_at_int, binOp_shr, Op.shift]; rw [if_neg (by omega)]; rfl, h.2⟩
      · have h' : cond (decide (k = k')) (binI op k a b K) False := by
          cases op <;> first | exact h | exact absurd (Or.inl rfl) hs | exact absurd (Or.inr rfl) hs
        by_cases hk : k = k'
        · subst hk
          simp only [decide_true, cond_true] at h'
          exact binI_sound h'
        · simp [hk] at h'
    · split at h
      · rename_i hu
        exact equal_of (fun w => by simp [eqGuard_at_bool]) (fun w => by simp only [Op.equal, Op.maxDepth]; exact run_equalIn_bool' w _ _ _ _ hu) rfl rfl h
      · exact h.elim
    · exact binS_sound h
    · split at h
      · rename_i hu
        exact equal_of (fun w => by simp [eqGuard_at_pointer]) (fun w => equalIn_ptr w 9999 hu) rfl rfl h
      · exact h.elim
    · split at h
      · rename_i hu
        exact equal_of (fun w => by simp [eqGuard_at_slice]) (fun w => equalIn_slice w 9999 hu) rfl rfl h
      · exact h.elim
    · rename_i xs ys _
      cases hm : P.eqGuardType P.depth t with
      | true => rw [hm] at h; exact h.elim
      | false =>
        rw [hm] at h
        obtain ⟨b, he, hk⟩ := h
        exact equal_of (fun w => run_eqGuard_agg w op t x y xs ys hm) he rfl rfl hk
    · exact h.elim
theorem unW_sound {op : UnOp} {x : Value} {K : Value → Prop} (h : unW op x K) : Ev P (Op.unary op x) K := by
  unfold unW at h
  split at h
  · exact ⟨_, fun w => rfl, h⟩
  · exact ⟨_, fun w => rfl, h⟩
  · exact ⟨_, fun w => rfl, h⟩
  · exact h.elim
theorem fieldOf_some {s : TypeId} {f : Nat} {fd : Field} (h : fieldOf P s f = some fd) : ∃ fs, P.underlying s = some (.struct fs) ∧ fs[f]? = some fd := by
  unfold fieldOf at h
  split at h
  · rename_i fs hu; exact ⟨fs, hu, by simpa using h⟩
  · cases h
theorem cells_info {t : TypeId} (h : P.cellsOf t ≠ 0) (w : World) : (sizeOf t).run P w = .ok (P.cellsOf t) w := by
  cases hi : P.info? t with
  | none => simp [Program.cellsOf, hi] at h
  | some i => exact run_sizeOf w hi
theorem fadW_sound {s : TypeId} {x : Value} {f : Nat} {K : Value → Prop} (h : fadW P s x f K) : Ev P (Instr.fieldAt s x f) K := by
  unfold fadW at h
  split at h
  · obtain ⟨a, rfl, h⟩ := nlW_some h
    split at h
    · rename_i fd hf
      obtain ⟨fs, hu, hg⟩ := fieldOf_some hf
      cases hz : Nat.beq (P.cellsOf fd.type) 0 with
      | true => rw [hz] at h; exact h.elim
      | false =>
        rw [hz] at h
        have hz' : P.cellsOf fd.type ≠ 0 := fun e => by rw [e] at hz; cases hz
        refine ⟨_, fun w => ?_, h⟩
        simp only [Instr.fieldAt, Sem.run_bind, run_underlying hu, Result.andThen_ok, hg, Instr.sureAddr, Sem.run_pure, fieldPlace, cells_info hz']
        rw [if_neg hz']
        simp
    · exact h.elim
  · exact h.elim
theorem partW_sound {t : TypeId} {cs : Array Value} {off : Nat} {K : Value → Prop} (h : partW P t cs off K) : Ev P (part t cs off) K := by
  unfold partW at h
  cases ha : isAggB P t with
  | true =>
    rw [ha] at h
    obtain ⟨d, hu, hd⟩ := isAggB_und ha
    exact ⟨_, fun w => by simp only [part, Sem.run_bind, run_isAgg hu, hd, Result.andThen_ok, if_true, run_sizeOf' hu, Sem.run_pure], h⟩
  | false =>
    rw [ha] at h
    simp only [cond_false] at h
    obtain ⟨d, hu⟩ := exT_und h
    rw [isAggB_of hu] at ha
    obtain ⟨v, hv, hk⟩ := exT_ex h
    exact ⟨_, fun w => by simp only [part, Sem.run_bind, run_isAgg hu, ha, Result.andThen_ok, Bool.false_eq_true, if_false, hv, Sem.run_pure], hk⟩
theorem fldW_sound {s : TypeId} {x : Value} {f : Nat} {K : Value → Prop} (h : fldW P s x f K) : Ev P (Instr.field s x f) K := by
  unfold fldW at h
  split at h
  · split at h
    · rename_i cs _ fd hf
      obtain ⟨fs, hu, hg⟩ := fieldOf_some hf
      obtain ⟨v, hv, hk⟩ := partW_sound h
      exact ⟨v, fun w => by simp only [Instr.field, Sem.run_bind, run_underlying hu, Result.andThen_ok, hg, asAgg, Sem.run_pure, hv], hk⟩
    · exact h.elim
  · exact h.elim
theorem elem_info {e : TypeId} (w : World) (hi : (P.info? e).isSome = true) : (sizeOf e).run P w = .ok (P.cellsOf e) w := by
  cases h : P.info? e with
  | none => simp [h] at hi
  | some i => exact run_sizeOf w h
theorem iadW_sound {t : TypeId} {x i : Value} {K : Value → Prop} (h : iadW P t x i K) : Ev P (Instr.indexAt t x i) K := by
  unfold iadW at h
  split at h
  · rename_i k i
    split at h
    · rename_i len e hu
      split at h
      · obtain ⟨a, rfl, h⟩ := nlW_some h
        cases hi : (P.info? e).isSome with
        | false => rw [hi] at h; exact h.elim
        | true =>
          rw [hi] at h
          refine ⟨_, fun w => ?_, h.2⟩
          simp only [Instr.indexAt, asIntOf, Sem.run_bind, Sem.run_pure, run_underlying hu, Result.andThen_ok, Instr.sureAddr, h.1, and_self, if_true, elem_info w hi]
      · exact h.elim
    · rename_i e hu
      split at h
      · obtain ⟨a, rfl, h⟩ := nlW_some h
        cases hi : (P.info? e).isSome with
        | false => rw [hi] at h; exact h.elim
        | true =>
          rw [hi] at h
          refine ⟨_, fun w => ?_, h.2⟩
          simp only [Instr.indexAt, asIntOf, Sem.run_bind, Sem.run_pure, run_underlying hu, Result.andThen_ok, h.1, and_self, if_true, elem_info w hi]
      · exact h.elim
    · exact h.elim
  · exact h.elim
theorem idxW_sound {t : TypeId} {x i : Value} {K : Value → Prop} (h : idxW P t x i K) : Ev P (Instr.index t x i) K := by
  unfold idxW at h
  split at h
  · rename_i k i
    split at h
    · rename_i s
      split at h
      · rename_i hu
        obtain ⟨h0, b, hb, hk⟩ := h
        exact ⟨_, fun w => by simp only [Instr.index, asIntOf, Sem.run_bind, Sem.run_pure, run_underlying hu, Result.andThen_ok, h0, if_true, hb], hk⟩
      · exact h.elim
    · rename_i cs
      split at h
      · rename_i len e hu
        obtain ⟨h0, hp⟩ := h
        cases hi : (P.info? e).isSome with
        | false => rw [hi] at hp; exact hp.elim
        | true =>
          rw [hi] at hp
          obtain ⟨v, hv, hk⟩ := partW_sound (P := P) hp
          exact ⟨v, fun w => by simp only [Instr.index, asIntOf, Sem.run_bind, Sem.run_pure, run_underlying hu, Result.andThen_ok, h0, and_self, if_true, elem_info w hi, hv], hk⟩
      · exact h.elim
    · exact h.elim
  · exact h.elim
theorem extW_sound {x : Value} {i : Nat} {K : Value → Prop} (h : extW x i K) : Ev P (Instr.extract x i) K := by
  unfold extW at h
  split at h
  · split at h
    · rename_i vs _ v hv
      rw [Array.getElem?_toList] at hv
      exact ⟨_, fun w => by simp only [Instr.extract, hv, Sem.run_pure], h⟩
    · exact h.elim
  · exact h.elim
theorem mkiW_sound {t : TypeId} {x : Value} {K : Value → Prop} (h : mkiW P t x K) : Ev P (Instr.makeInterface t x) K := by
  unfold mkiW at h
  split at h
  · exact h.elim
  · rename_i d hn hu
    refine ⟨_, fun w => ?_, h⟩
    simp only [Instr.makeInterface, Sem.run_bind, run_underlying hu, Result.andThen_ok]
    all_goals cases d <;> first | rfl | exact (hn _ rfl).elim
  · exact h.elim
theorem cnvW_sound {s d : TypeId} {x : Value} {K : Value → Prop} (h : cnvW P s d x K) : Ev P (convert s d x) K := by
  unfold cnvW at h
  split at h
  · split at h
    · rename_i hs hd
      exact ⟨_, fun w => by simp only [convert, Sem.run_bind, run_underlying hs, run_underlying hd, Result.andThen_ok, Conv.intToInt]; rfl, h⟩
    · exact h.elim
  · split at h
    · rename_i hs hd
      exact ⟨_, fun w => by simp only [convert, Sem.run_bind, run_underlying hs, run_underlying hd, Result.andThen_ok, Sem.run_pure], h⟩
    · exact h.elim
  · exact h.elim
theorem lenW_sound {t : TypeId} {x : Value} {ty : TypeId} {K : Value → Prop} (h : lenW P t x K) : Ev P (Builtin.len_ #[t] ty #[x]) K := by
  unfold lenW at h
  split at h
  · rename_i hu
    split at h
    · exact ⟨_, fun w => by simp [Builtin.len_, run_underlying hu, goInt], h⟩
    · exact h.elim
  · rename_i hu
    split at h
    · exact ⟨_, fun w => by simp [Builtin.len_, run_underlying hu, goInt], h⟩
    · exact h.elim
  · rename_i hu
    exact ⟨_, fun w => by simp [Builtin.len_, run_underlying hu, goInt], h⟩
  · exact h.elim
theorem bldW_sound {t : TypeId} {parts : List (Nat × Value)} {K : Value → Prop} (h : bldW P t parts K) : Ev P (Instr.build t parts.toArray) K :=
  let ⟨_, hv, hk⟩ := h
  ⟨_, hv, hk⟩
/-- What a reading operation yields, in every world of the class. -/
def Yv (P : Program) (S : World → Prop) (ρ : Env) (o : Oper) (K : Value → Prop) : Prop := ∃ v, (∀ w, S w → (execOp (opd ρ) o).run P w = .ok (.value v) w) ∧ K v
theorem Yv.ev {ρ : Env} {o : Oper} {s : Sem Value} {K : Value → Prop} (e : execOp (opd ρ) o = (do pure (.value (← s)))) (h : Ev P s K) : Yv P S ρ o K := by
  obtain ⟨v, hv, hk⟩ := h
  exact ⟨v, fun w _ => by rw [e]; simp only [Sem.run_bind, hv, Result.andThen_ok, Sem.run_pure], hk⟩
theorem tasW_sound {x : Value} {xt T : TypeId} {K : Value → Prop} (h : tasW P T x K) : Ev P (Instr.typeAssert x xt T true) K := by
  unfold tasW at h
  split at h
  · exact h.elim
  · rename_i d hne hu
    split at h
    · rename_i z hz
      have hzv : ∀ w, (zeroValue T).run P w = .ok z w := fun w => by
        unfold zvO at hz
        split at hz
        · rename_i i hi
          simp [zeroValue, run_typeInfo (P := P) w hi, hz]
        · cases hz
      rcases h with ⟨rfl, hk⟩ | ⟨u, v, rfl, hk⟩
      · refine ⟨_, fun w => ?_, hk⟩
        simp only [Instr.typeAssert, Sem.run_bind, run_underlying hu, Result.andThen_ok]
        cases d <;> simp_all
      · cases hb : Nat.beq u T with
        | true =>
          rw [hb] at hk
          have e := Nat.eq_of_beq_eq_true hb
          subst e
          simp only [cond_true] at hk
          obtain ⟨v', rfl, hk⟩ := exT_ex hk
          refine ⟨_, fun w => ?_, hk⟩
          simp only [Instr.typeAssert, Sem.run_bind, run_underlying hu, Result.andThen_ok]
          cases d <;> simp_all
        | false =>
          rw [hb] at hk
          have e : u ≠ T := fun e => by rw [e] at hb; simp at hb
          refine ⟨_, fun w => ?_, hk⟩
          simp only [Instr.typeAssert, Sem.run_bind, run_underlying hu, Result.andThen_ok]
          cases d <;> simp_all
    · exact h.elim
  · exact h.elim
theorem tasW_mono {x : Value} {T : TypeId} {K K' : Value → Prop} (h : ∀ v, K v → K' v) (hh : tasW P T x K) : tasW P T x K' := by
  unfold tasW at *
  split at hh
  · exact hh
  · split at hh
    · rcases hh with ⟨h1, h2⟩ | ⟨u, v, h1, h2⟩
      · exact Or.inl ⟨h1, h _ h2⟩
      · exact Or.inr ⟨u, v, h1, cond_mono (exT_mono fun v' hv => ⟨hv.1, h _ hv.2⟩) (h _) h2⟩
    · exact hh
  · exact hh
theorem loW_ex {lo : Option Value} {h : Nat} {K : Nat → Prop} (hh : loW lo h K) : ∃ l, l ≤ h ∧ K l ∧ ((lo = none ∧ l = 0) ∨ ∃ k i, lo = some (.int k i) ∧ 0 ≤ i ∧ i ≤ (h : Int) ∧ l = i.toNat) := by
  unfold loW at hh
  split at hh
  · exact ⟨0, Nat.zero_le _, hh, .inl ⟨rfl, rfl⟩⟩
  · rename_i k i
    exact ⟨i.toNat, by omega, hh.2, .inr ⟨k, i, rfl, hh.1.1, hh.1.2, rfl⟩⟩
  · exact hh.elim
theorem hiW_ex {hi : Option Value} {len m : Nat} {K : Nat → Prop} (hh : hiW hi len m K) : ∃ h, K h ∧ ((hi = none ∧ h = len) ∨ ∃ k i, hi = some (.int k i) ∧ 0 ≤ i ∧ i ≤ (m : Int) ∧ h = i.toNat) := by
  unfold hiW at hh
  split at hh
  · exact ⟨len, hh, .inl ⟨rfl, rfl⟩⟩
  · rename_i k i
    exact ⟨i.toNat, hh.2, .inr ⟨k, i, rfl, hh.1.1, hh.1.2, rfl⟩⟩
  · exact hh.elim
theorem bound_ok (k : IntKind) (i : Int) (y : Nat) (code : BoundsCode) (h0 : 0 ≤ i) (h1 : i ≤ (y : Int)) (w : World) : (Instr.sliceBound (.int k i) y code).run P w = .ok i.toNat w := by
  simp only [Instr.sliceBound, asIntOf, Sem.run_bind, Sem.run_pure, Result.andThen_ok]
  rw [if_pos ⟨h0, h1⟩]; rfl
theorem bounds_ok {isS : Bool} {len c h l : Nat} {lo hi : Option Value} (hh : (hi = none ∧ h = len) ∨ ∃ k i, hi = some (.int k i) ∧ 0 ≤ i ∧ i ≤ (c : Int) ∧ h = i.toNat) (hl : (lo = none ∧ l = 0) ∨ ∃ k i, lo = some (.int k i) ∧ 0 ≤ i ∧ i ≤ (h : Int) ∧ l = i.toNat) (w : World) :
    (Instr.sliceBounds isS len c lo hi none).run P w = .ok (l, h, c) w := by
  rcases hh with ⟨rfl, rfl⟩ | ⟨k, i, rfl, h0, h1, rfl⟩ <;> rcases hl with ⟨rfl, rfl⟩ | ⟨k', j, rfl, h2, h3, rfl⟩
  · simp [Instr.sliceBounds]
  · simp [Instr.sliceBounds, bound_ok _ _ _ _ h2 h3]
  · simp [Instr.sliceBounds, bound_ok _ _ _ _ h0 h1]
  · simp only [Instr.sliceBounds, Option.isSome_none, Bool.false_eq_true, if_false, pure_bind, Sem.run_bind, bound_ok _ _ _ _ h0 h1, Result.andThen_ok, bound_ok _ _ _ _ h2 h3, Sem.run_pure]
theorem bounds3_ok {isS : Bool} {len c m h l : Nat} {lo : Option Value} {kh km : IntKind} {i j : Int} (hm : 0 ≤ j ∧ j ≤ (c : Int) ∧ m = j.toNat) (hh : 0 ≤ i ∧ i ≤ (m : Int) ∧ h = i.toNat) (hl : (lo = none ∧ l = 0) ∨ ∃ k i, lo = some (.int k i) ∧ 0 ≤ i ∧ i ≤ (h : Int) ∧ l = i.toNat) (w : World) :
    (Instr.sliceBounds isS len c lo (some (.int kh i)) (some (.int km j))).run P w = .ok (l, h, m) w := by
  obtain ⟨h0, h1, rfl⟩ := hm
  obtain ⟨h2, h3, rfl⟩ := hh
  rcases hl with ⟨rfl, rfl⟩ | ⟨k', j', rfl, h4, h5, rfl⟩
  · simp only [Instr.sliceBounds, Option.isSome_some, if_true, pure_bind, Sem.run_bind, bound_ok _ _ _ _ h0 h1, Result.andThen_ok, bound_ok _ _ _ _ h2 h3, Sem.run_pure]
  · simp only [Instr.sliceBounds, Option.isSome_some, if_true, pure_bind, Sem.run_bind, bound_ok _ _ _ _ h0 h1, Result.andThen_ok, bound_ok _ _ _ _ h2 h3, bound_ok _ _ _ _ h4 h5, Sem.run_pure]
theorem slcW_sound {t : TypeId} {x : Value} {lo hi mx : Option Value} {K : Value → Prop} (h : slcW P t x lo hi mx K) : Ev P (Instr.sliceAt t x lo hi mx) K := by
  unfold slcW at h
  split at h
  · split at h
    · rename_i hu
      split at h
      · obtain ⟨hh, h, e1⟩ := hiW_ex h
        obtain ⟨l, hlh, h, e2⟩ := loW_ex h
        exact ⟨_, fun w => by simp [Instr.sliceAt, Instr.slice, run_underlying hu, bounds_ok e1 e2], h⟩
      · exact h.elim
    · rename_i e hu
      split at h
      · rename_i b len c
        cases hi' : (P.info? e).isSome with
        | false => rw [hi'] at h; exact h.elim
        | true =>
          rw [hi'] at h
          simp only [cond_true] at h
          obtain ⟨hh, h, e1⟩ := hiW_ex h
          obtain ⟨l, hlh, h, e2⟩ := loW_ex h
          exact ⟨_, fun w => by simp [Instr.sliceAt, Instr.slice, run_underlying hu, bounds_ok e1 e2, elem_info w hi', slB], h⟩
      · exact h.elim
    · rename_i n e hu
      split at h
      · obtain ⟨a, rfl, h'⟩ := nlW_some h
        clear h
        have h := h'
        clear h'
        cases hi' : (P.info? e).isSome with
        | false => rw [hi'] at h; exact h.elim
        | true =>
          rw [hi'] at h
          simp only [cond_true] at h
          obtain ⟨hh, h, e1⟩ := hiW_ex h
          obtain ⟨l, hlh, h, e2⟩ := loW_ex h
          exact ⟨_, fun w => by simp [Instr.sliceAt, Instr.sureAddr, run_underlying hu, bounds_ok e1 e2, elem_info w hi', slA], h⟩
      · exact h.elim
    · exact h.elim
  · rename_i m
    split at h
    · rename_i e hu
      split at h
      · rename_i b len c
        cases hi' : (P.info? e).isSome with
        | false => rw [hi'] at h; exact h.elim
        | true =>
          rw [hi'] at h
          simp only [cond_true] at h
          obtain ⟨mm, h, e0⟩ := hiW_ex h
          split at h
          · rename_i hv _
            obtain ⟨hh, g1, e1⟩ := hiW_ex h
            obtain ⟨l, hlh, g2, e2⟩ := loW_ex g1
            rcases e0 with ⟨e0, _⟩ | ⟨km, j, e0, hm⟩
            · cases e0
            rcases e1 with ⟨e1, _⟩ | ⟨kh, i, e1, hi⟩
            · cases e1
            simp only [Option.some.injEq] at e0 e1
            subst e0 e1
            exact ⟨_, fun w => by simp [Instr.sliceAt, Instr.slice, run_underlying hu, bounds3_ok hm hi e2, elem_info w hi', slB], g2⟩
          · exact h.elim
      · exact h.elim
    · exact h.elim
theorem loW_mono {lo : Option Value} {h : Nat} {K K' : Nat → Prop} (hk : ∀ v, K v → K' v) (hh : loW lo h K) : loW lo h K' := by
  unfold loW at *; split at hh
  · exact hk _ hh
  · exact ⟨hh.1, hk _ hh.2⟩
  · exact hh
theorem hiW_mono {hi : Option Value} {len m : Nat} {K K' : Nat → Prop} (hk : ∀ v, K v → K' v) (hh : hiW hi len m K) : hiW hi len m K' := by
  unfold hiW at *; split at hh
  · exact hk _ hh
  · exact ⟨hh.1, hk _ hh.2⟩
  · exact hh
theorem slcW_mono {t : TypeId} {x : Value} {lo hi mx : Option Value} {K K' : Value → Prop} (hk : ∀ v, K v → K' v) (h : slcW P t x lo hi mx K) : slcW P t x lo hi mx K' := by
  unfold slcW at *
  split at h
  · split at h
    · split at h
      · exact hiW_mono (fun _ => loW_mono fun _ => hk _) h
      · exact h
    · split at h
      · exact cond_mono (hiW_mono fun _ => loW_mono fun _ => hk _) id h
      · exact h
    · split at h
      · exact nlW_mono (fun _ => cond_mono (hiW_mono fun _ => loW_mono fun _ => hk _) id) h
      · exact h
    · exact h
  · split at h
    · split at h
      · refine cond_mono (hiW_mono fun m h => ?_) id h
        split at h
        · exact hiW_mono (fun _ => loW_mono fun _ => hk _) h
        · exact h
      · exact h
    · exact h
theorem capW_sound {t : TypeId} {x : Value} {ty : TypeId} {K : Value → Prop} (h : capW P t x K) : Ev P (Builtin.cap_ #[t] ty #[x]) K := by
  unfold capW at h
  split at h
  · rename_i hu
    split at h
    · exact ⟨_, fun w => by simp [Builtin.cap_, run_underlying hu, goInt], h⟩
    · exact h.elim
  · rename_i hu
    exact ⟨_, fun w => by simp [Builtin.cap_, run_underlying hu, goInt], h⟩
  · exact h.elim
theorem capW_mono {t : TypeId} {x : Value} {K K' : Value → Prop} (h : ∀ v, K v → K' v) (hh : capW P t x K) : capW P t x K' := by
  unfold capW at *; split at hh
  · split at hh
    · exact h _ hh
    · exact hh
  · exact h _ hh
  · exact hh
theorem mnxL_mono {mx : Bool} {k : IntKind} {K K' : Value → Prop} (h : ∀ v, K v → K' v) : ∀ (l : List Value) (a : Int), mnxL mx k l a K → mnxL mx k l a K'
  | [], _, hh => h _ hh
  | x :: r, a, hh => by
    cases x <;> first | exact hh | skip
    exact cond_mono (mnxL_mono h r _) id hh
theorem mnxW_mono {mx : Bool} {xs : List Value} {K K' : Value → Prop} (h : ∀ v, K v → K' v) (hh : mnxW mx xs K) : mnxW mx xs K' := by
  unfold mnxW at *; split at hh
  · exact mnxL_mono h _ _ hh
  · exact hh
theorem mnxL_sound {mx : Bool} {k : IntKind} {K : Value → Prop} : ∀ (l : List Value) (a : Int), mnxL mx k l a K → Ev P (l.foldlM (cond mx Builtin.max2 Builtin.min2) (.int k a)) K
  | [], a, h => ⟨_, fun w => by simp, h⟩
  | x :: r, a, h => by
    cases x <;> first | exact h.elim | skip
    rename_i k' b
    by_cases hk : k = k'
    · subst hk
      simp only [mnxL, decide_true, cond_true] at h
      obtain ⟨v, hv, hK⟩ := mnxL_sound r _ h
      refine ⟨v, fun w => ?_, hK⟩
      rw [List.foldlM_cons]
      cases mx
      · simpa [Builtin.min2] using hv w
      · simpa [Builtin.max2] using hv w
    · simp [mnxL, hk] at h
theorem mnxW_sound {mx : Bool} {ts : Array TypeId} {ty : TypeId} {xs : List Value} {K : Value → Prop} (h : mnxW mx xs K) : Ev P (cond mx (Builtin.max_ ts ty xs.toArray) (Builtin.min_ ts ty xs.toArray)) K := by
  unfold mnxW at h
  split at h
  · rename_i k a r
    obtain ⟨v, hv, hK⟩ := mnxL_sound (P := P) _ _ h
    refine ⟨v, fun w => ?_, hK⟩
    cases mx
    · simpa [Builtin.min_] using hv w
    · simpa [Builtin.max_] using hv w
  · exact h.elim
theorem rOp_sound (hat : ∀ p, at_ p → ∀ w, S w → p w) {ρ : Env} {o : Oper} {K : Value → Prop} (h : rOp P at_ ρ o.op o.type K) : Yv P S ρ o K := by
  obtain ⟨dst, op, type, pos, after, guard⟩ := o
  cases op <;> simp only [rOp] at h <;> (try exact h.elim)
  case move x => exact ⟨_, fun w _ => rfl, h⟩
  case assign x => exact ⟨_, fun w _ => rfl, h⟩
  case pick c a b =>
    unfold pickW at h
    split at h
    · rename_i t hc
      refine ⟨_, fun w _ => ?_, h⟩
      simp only [execOp, hc, asBool, Sem.run_pure, pure_bind]
      cases t <;> rfl
    · exact h.elim
  case load t a =>
    obtain ⟨v, hv, hk⟩ := loadW_sound hat h
    exact ⟨v, fun w hw => by simp only [execOp, Sem.run_bind, hv w hw, Result.andThen_ok, Sem.run_pure], hk⟩
  case nilCheck x =>
    unfold nilW at h
    split at h
    · rename_i p hx
      obtain ⟨a, rfl, h⟩ := nlW_some h
      exact ⟨_, fun w _ => by simp only [execOp, hx, Sem.run_pure], h⟩
    · rename_i f p q hx; exact ⟨_, fun w _ => by simp only [execOp, hx, Sem.run_pure], h⟩
    · rename_i t v hx; exact ⟨_, fun w _ => by simp only [execOp, hx, Sem.run_pure], h⟩
    · exact h.elim
  case binOp op t x y yt => exact Yv.ev rfl (binW_sound h)
  case unOp op t x => exact Yv.ev rfl (unW_sound h)
  case fieldAddr s x f => exact Yv.ev rfl (fadW_sound h)
  case field s x f => exact Yv.ev rfl (fldW_sound h)
  case indexAddr t x i => exact Yv.ev rfl (iadW_sound h)
  case index t x i => exact Yv.ev rfl (idxW_sound h)
  case extract x i => exact Yv.ev rfl (extW_sound h)
  case makeInterface t x => exact Yv.ev rfl (mkiW_sound h)
  case typeAssert x xt T ok =>
    cases ok with
    | false => exact h.elim
    | true => exact Yv.ev rfl (tasW_sound (xt := xt) h)
  case makeFunc fn first cap =>
    refine ⟨_, fun w _ => ?_, h⟩
    have e : ∀ l : Array Operand, l.map (opd ρ) = (l.toList.map (opd ρ)).toArray := fun l => by apply Array.ext'; simp
    simp only [execOp, Instr.makeFunc, e]
    rfl
  case convert s d x =>
    cases hb : isBackB P s d with
    | true =>
      rw [hb] at h
      simp only [cond_true] at h
      obtain ⟨v, hv, hk⟩ := exT_ex h
      exact ⟨v, fun w hw => by simp only [execOp, Sem.run_bind, show (convert s d (opd ρ x)).run P w = .ok v w from hat _ hv w hw, Result.andThen_ok, Sem.run_pure], hk⟩
    | false =>
      rw [hb] at h
      exact Yv.ev rfl (cnvW_sound h)
  case slice t x lo hi mx => exact Yv.ev rfl (slcW_sound h)
  case lookup t x i ok =>
    obtain ⟨v, hv, hk⟩ := exR_ex h
    exact ⟨v, fun w hw => by simp only [execOp, Sem.run_bind, show (Instr.lookup t (opd ρ x) (opd ρ i) ok).run P w = .ok v w from hat _ hv w hw, Result.andThen_ok, Sem.run_pure], hk⟩
  case build t parts =>
    refine Yv.ev (s := Instr.build t (parts.toList.map fun p => (p.1, opd ρ p.2)).toArray) ?_ (bldW_sound h)
    have e : (parts.map fun (i, x) => (i, opd ρ x)) = (parts.toList.map fun p => (p.1, opd ρ p.2)).toArray := by apply Array.ext'; simp
    simp only [execOp, e]
  case call c =>
    obtain ⟨callee, args, argTypes⟩ := c
    cases callee with
    | builtin b =>
      cases b <;> simp only at h <;> (try exact h.elim)
      case len =>
        split at h
        · rename_i x t hx ht
          have ea : args = #[x] := by apply Array.ext'; exact hx
          have et : argTypes = #[t] := by apply Array.ext'; exact ht
          subst ea et
          cases hm : isMapB P t with
          | true =>
            rw [hm] at h
            simp only [cond_true] at h
            obtain ⟨v, hv, hk⟩ := exT_ex h
            refine ⟨v, fun w hw => ?_, hk⟩
            simp only [execOp, resolve, pure_bind, invoke, builtin, List.map_toArray, List.map_cons, List.map_nil, Sem.run_bind, show (Builtin.len_ #[t] type #[opd ρ x]).run P w = .ok v w from hat _ hv w hw, Result.andThen_ok, Sem.run_pure]
          | false =>
            rw [hm] at h
            obtain ⟨v, hv, hk⟩ := lenW_sound (P := P) (ty := type) h
            refine ⟨v, fun w _ => ?_, hk⟩
            simp only [execOp, resolve, pure_bind, invoke, builtin, List.map_toArray, List.map_cons, List.map_nil, Sem.run_bind, hv, Result.andThen_ok, Sem.run_pure]
        · exact h.elim
      case cap =>
        split at h
        · rename_i x t hx ht
          have ea : args = #[x] := by apply Array.ext'; exact hx
          have et : argTypes = #[t] := by apply Array.ext'; exact ht
          subst ea et
          obtain ⟨v, hv, hk⟩ := capW_sound (P := P) (ty := type) h
          refine ⟨v, fun w _ => ?_, hk⟩
          simp only [execOp, resolve, pure_bind, invoke, builtin, List.map_toArray, List.map_cons, List.map_nil, Sem.run_bind, hv, Result.andThen_ok, Sem.run_pure]
        · exact h.elim
      case min =>
        obtain ⟨v, hv, hk⟩ := mnxW_sound (P := P) (ts := argTypes) (ty := type) h
        refine ⟨v, fun w _ => ?_, hk⟩
        have ea : args.map (opd ρ) = (args.toList.map (opd ρ)).toArray := by apply Array.ext'; simp
        have hv' : (Builtin.min_ argTypes type (args.map (opd ρ))).run P w = .ok v w := by rw [ea]; exact hv w
        simp only [execOp, resolve, pure_bind, invoke, builtin, Sem.run_bind, hv', Result.andThen_ok, Sem.run_pure]
      case max =>
        obtain ⟨v, hv, hk⟩ := mnxW_sound (P := P) (ts := argTypes) (ty := type) h
        refine ⟨v, fun w _ => ?_, hk⟩
        have ea : args.map (opd ρ) = (args.toList.map (opd ρ)).toArray := by apply Array.ext'; simp
        have hv' : (Builtin.max_ argTypes type (args.map (opd ρ))).run P w = .ok v w := by rw [ea]; exact hv w
        simp only [execOp, resolve, pure_bind, invoke, builtin, Sem.run_bind, hv', Result.andThen_ok, Sem.run_pure]
    | value f => exact h.elim
    | invoke r m => exact h.elim
theorem pickW_mono {c a b : Value} {K K' : Value → Prop} (h : ∀ v, K v → K' v) (hh : pickW c a b K) : pickW c a b K' := by
  unfold pickW at *; split at hh
  · exact h _ hh
  · exact hh
theorem loadW_mono {t : TypeId} {x : Value} {K K' : Value → Prop} (h : ∀ v, K v → K' v) (hh : loadW P at_ t x K) : loadW P at_ t x K' := by
  unfold loadW at *; split at hh
  · exact nlW_mono (fun a ha => cond_mono (fun ⟨cs, h0, h1, h2⟩ => ⟨cs, h0, h1, h _ h2⟩) (exT_mono (fun v hv => ⟨hv.1, h _ hv.2⟩)) ha) hh
  · exact hh
theorem nilW_mono {x : Value} {K K' : Value → Prop} (h : ∀ v, K v → K' v) (hh : nilW x K) : nilW x K' := by
  unfold nilW at *; split at hh
  · exact nlW_mono (fun _ => h _) hh
  · exact h _ hh
  · exact h _ hh
  · exact hh
theorem binI_mono {op : BinOp} {k : IntKind} {a b : Int} {K K' : Value → Prop} (h : ∀ v, K v → K' v) (hh : binI op k a b K) : binI op k a b K' := by
  cases op <;> simp only [binI] at * <;> first | exact h _ hh | exact ⟨hh.1, h _ hh.2⟩
theorem binS_mono {op : BinOp} {a b : ByteArray} {K K' : Value → Prop} (h : ∀ v, K v → K' v) (hh : binS op a b K) : binS op a b K' := by
  cases op <;> simp only [binS] at * <;> first | exact h _ hh | exact ⟨hh.1, h _ hh.2⟩
theorem eqK_mono {op : BinOp} {b : Bool} {K K' : Value → Prop} (h : ∀ v, K v → K' v) (hh : eqK op b K) : eqK op b K' := by
  cases op <;> simp only [eqK] at * <;> exact h _ hh
theorem binW_mono {op : BinOp} {t : TypeId} {cy : Bool} {x y : Value} {K K' : Value → Prop} (h : ∀ v, K v → K' v) (hh : binW P op t cy x y K) : binW P op t cy x y K' := by
  unfold binW at hh ⊢
  split at hh
  · split at hh
    · exact cond_mono (fun ⟨b, h1, h2⟩ => ⟨b, h1, eqK_mono h h2⟩) id hh
    · exact hh.elim
  · split at hh
    · rename_i k a k' b
      cases op <;> simp only at hh ⊢ <;> first
        | exact binI_mono h hh
        | exact cond_mono (binI_mono h) id hh
    · split at hh
      · exact eqK_mono h hh
      · exact hh.elim
    · exact binS_mono h hh
    · split at hh
      · exact eqK_mono h hh
      · exact hh.elim
    · split at hh
      · exact eqK_mono h hh
      · exact hh.elim
    · exact cond_mono id (fun ⟨b, h1, h2⟩ => ⟨b, h1, eqK_mono h h2⟩) hh
    · exact hh.elim
theorem unW_mono {op : UnOp} {x : Value} {K K' : Value → Prop} (h : ∀ v, K v → K' v) (hh : unW op x K) : unW op x K' := by
  unfold unW at *; split at hh
  · exact h _ hh
  · exact h _ hh
  · exact binI_mono h hh
  · exact hh
theorem fadW_mono {s : TypeId} {x : Value} {f : Nat} {K K' : Value → Prop} (h : ∀ v, K v → K' v) (hh : fadW P s x f K) : fadW P s x f K' := by
  unfold fadW at *; split at hh
  · refine nlW_mono (fun a ha => ?_) hh
    split at ha
    · exact cond_mono id (h _) ha
    · exact ha
  · exact hh
theorem partW_mono {t : TypeId} {cs : Array Value} {off : Nat} {K K' : Value → Prop} (h : ∀ v, K v → K' v) (hh : partW P t cs off K) : partW P t cs off K' :=
  cond_mono (h _) (exT_mono fun v hv => ⟨hv.1, h _ hv.2⟩) hh
theorem fldW_mono {s : TypeId} {x : Value} {f : Nat} {K K' : Value → Prop} (h : ∀ v, K v → K' v) (hh : fldW P s x f K) : fldW P s x f K' := by
  unfold fldW at *; split at hh
  · split at hh
    · exact partW_mono h hh
    · exact hh
  · exact hh
theorem iadW_mono {t : TypeId} {x i : Value} {K K' : Value → Prop} (h : ∀ v, K v → K' v) (hh : iadW P t x i K) : iadW P t x i K' := by
  unfold iadW at *; split at hh
  · split at hh
    · rename_i len e _
      split at hh
      · refine nlW_mono (fun a ha => ?_) hh
        exact cond_mono (fun ha => ⟨ha.1, h _ ha.2⟩) id ha
      · exact hh
    · rename_i e _
      split at hh
      · refine nlW_mono (fun a ha => ?_) hh
        exact cond_mono (fun ha => ⟨ha.1, h _ ha.2⟩) id ha
      · exact hh
    · exact hh
  · exact hh
theorem idxW_mono {t : TypeId} {x i : Value} {K K' : Value → Prop} (h : ∀ v, K v → K' v) (hh : idxW P t x i K) : idxW P t x i K' := by
  unfold idxW at *; split at hh
  · split at hh
    · split at hh
      · obtain ⟨h0, b, hb, hk⟩ := hh; exact ⟨h0, b, hb, h _ hk⟩
      · exact hh
    · split at hh
      · exact ⟨hh.1, cond_mono (partW_mono h) id hh.2⟩
      · exact hh
    · exact hh
  · exact hh
theorem extW_mono {x : Value} {i : Nat} {K K' : Value → Prop} (h : ∀ v, K v → K' v) (hh : extW x i K) : extW x i K' := by
  unfold extW at *; split at hh
  · split at hh
    · exact h _ hh
    · exact hh
  · exact hh
theorem mkiW_mono {t : TypeId} {x : Value} {K K' : Value → Prop} (h : ∀ v, K v → K' v) (hh : mkiW P t x K) : mkiW P t x K' := by
  unfold mkiW at *; split at hh
  · exact hh
  · exact h _ hh
  · exact hh
theorem cnvW_mono {s d : TypeId} {x : Value} {K K' : Value → Prop} (h : ∀ v, K v → K' v) (hh : cnvW P s d x K) : cnvW P s d x K' := by
  unfold cnvW at *; split at hh
  · split at hh
    · exact h _ hh
    · exact hh
  · split at hh
    · exact h _ hh
    · exact hh
  · exact hh
theorem lenW_mono {t : TypeId} {x : Value} {K K' : Value → Prop} (h : ∀ v, K v → K' v) (hh : lenW P t x K) : lenW P t x K' := by
  unfold lenW at *; split at hh
  · split at hh
    · exact h _ hh
    · exact hh
  · split at hh
    · exact h _ hh
    · exact hh
  · exact h _ hh
  · exact hh
theorem rOp_mono {ρ : Env} {o : Op} {ty : TypeId} {K K' : Value → Prop} (h : ∀ v, K v → K' v) (hh : rOp P at_ ρ o ty K) : rOp P at_ ρ o ty K' := by
  cases o <;> simp only [rOp] at * <;> (try exact hh.elim)
  case move => exact h _ hh
  case assign => exact h _ hh
  case pick => exact pickW_mono h hh
  case load => exact loadW_mono h hh
  case nilCheck => exact nilW_mono h hh
  case binOp => exact binW_mono h hh
  case unOp => exact unW_mono h hh
  case fieldAddr => exact fadW_mono h hh
  case field => exact fldW_mono h hh
  case indexAddr => exact iadW_mono h hh
  case index => exact idxW_mono h hh
  case extract => exact extW_mono h hh
  case makeInterface => exact mkiW_mono h hh
  case makeFunc => exact h _ hh
  case typeAssert => exact cond_mono (tasW_mono h) id hh
  case convert => exact cond_mono (exT_mono fun v hv => ⟨hv.1, h _ hv.2⟩) (cnvW_mono h) hh
  case slice => exact slcW_mono h hh
  case lookup => exact exR_mono (fun v hv => ⟨hv.1, h _ hv.2⟩) hh
  case build => obtain ⟨v, h1, h2⟩ := hh; exact ⟨v, h1, h _ h2⟩
  case call c =>
    obtain ⟨callee, args, argTypes⟩ := c
    cases callee with
    | builtin b =>
      cases b <;> simp only at hh ⊢ <;> (try exact hh.elim)
      case len =>
        split at hh
        · exact cond_mono (exT_mono fun v hv => ⟨hv.1, h _ hv.2⟩) (lenW_mono h) hh
        · exact hh
      case cap =>
        split at hh
        · exact capW_mono h hh
        · exact hh
      case min => exact mnxW_mono h hh
      case max => exact mnxW_mono h hh
    | value f => exact hh.elim
    | invoke r m => exact hh.elim
end
end Go.Hx
