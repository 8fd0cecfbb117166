/- The table of processes as data, and how it lies in memory; no condition. -/
import Derived.Test.YthihjppjollekaaHv
import Derived.Test.YthihjppjollekaaWa
set_option linter.unusedVariables false
namespace Go.Proofs.Ythihjppjollekaa
open Go.RowKit Go.Hx

/-- A process as data. -/
structure Pr where
  pid : Int
  st : Int
  par : Int
  ck : Int
  cn : Int
  kil : Bool
  sts : Int
deriving DecidableEq

def Pr.zero : Pr := ⟨0, 0, 0, 0, 0, false, 0⟩
/-- The table: its slots and the next pid. -/
structure Tab where
  s : Nat → Pr
  next : Int
def Pr.l (p : Pr) : List Value := [.int .i64 p.pid, .int .i64 p.st, .int .i64 p.par, .int .i64 p.ck, .int .i64 p.cn, .bool p.kil, .int .i32 p.sts]
def Pr.a (p : Pr) : Array Value := #[.int .i64 p.pid, .int .i64 p.st, .int .i64 p.par, .int .i64 p.ck, .int .i64 p.cn, .bool p.kil, .int .i32 p.sts]
def rows (s : Nat → Pr) : Nat → Nat → List Value
  | _, 0 => []
  | i, n + 1 => (s i).l ++ rows s (i + 1) n
def Tab.l (t : Tab) : List Value := rows t.s 0 64 ++ [.int .i64 t.next]
def Tab.enc (t : Tab) : Array Value := t.l.toArray
def TabAt (T : TypeId) (w : World) (b : Nat) (t : Tab) : Prop := Blk w b t.enc T

theorem rows_len (s : Nat → Pr) : ∀ n i, (rows s i n).length = 7 * n
  | 0, _ => rfl
  | n + 1, i => by simp [rows, rows_len s n, Pr.l]; omega
theorem rows_get (s : Nat → Pr) : ∀ n i j k, j < n → k < 7 → (rows s i n)[j * 7 + k]? = (s (i + j)).l[k]?
  | 0, _, _, _, h, _ => by omega
  | n + 1, i, 0, k, _, hk => by
    simp only [rows, Nat.zero_mul, Nat.zero_add]
    rw [List.getElem?_append_left (by simp [Pr.l]; omega)]; rfl
  | n + 1, i, j + 1, k, h, hk => by
    simp only [rows]
    rw [List.getElem?_append_right (by simp [Pr.l]; omega)]
    rw [show (j + 1) * 7 + k - (s i).l.length = j * 7 + k by simp [Pr.l]; omega, rows_get s n (i + 1) j k (by omega) hk, show i + 1 + j = i + (j + 1) by omega]
theorem enc_size (t : Tab) : t.enc.size = 449 := by simp [Tab.enc, Tab.l, rows_len]
theorem enc_slot (t : Tab) (i k : Nat) (hi : i < 64) (hk : k < 7) : t.enc[i * 7 + k]? = (t.s i).l[k]? := by
  simp only [Tab.enc, Tab.l, List.getElem?_toArray]
  rw [List.getElem?_append_left (by rw [rows_len]; omega), rows_get _ _ _ _ _ hi hk, Nat.zero_add]
theorem enc_next (t : Tab) : t.enc[448]? = some (.int .i64 t.next) := by
  simp only [Tab.enc, Tab.l, List.getElem?_toArray]
  rw [List.getElem?_append_right (by rw [rows_len]; omega), rows_len]; rfl
theorem enc_ext {cs : Array Value} {t : Tab} (hs : cs.size = 449) (h : ∀ i k, i < 64 → k < 7 → cs[i * 7 + k]? = (t.s i).l[k]?) (hn : cs[448]? = some (.int .i64 t.next)) : cs = t.enc := by
  apply Array.ext_getElem?
  intro j
  by_cases hj : j < 449
  · by_cases e : j = 448
    · subst e; rw [hn, enc_next]
    · have h1 := h (j / 7) (j % 7) (by omega) (by omega)
      have h2 := enc_slot t (j / 7) (j % 7) (by omega) (by omega)
      rw [show j / 7 * 7 + j % 7 = j by omega] at h1 h2
      rw [h1, h2]
  · rw [Array.getElem?_eq_none (by omega), Array.getElem?_eq_none (by rw [enc_size]; omega)]

section
variable {T : TypeId} {w : World} {b : Nat} {t : Tab}
theorem TabAt.pid (h : TabAt T w b t) {i : Nat} (hi : i < 64) : w.cell? ⟨b, i * 7, none⟩ = some (.int .i64 (t.s i).pid) := Blk.cell h (enc_slot t i 0 hi (by omega))
theorem TabAt.st (h : TabAt T w b t) {i : Nat} (hi : i < 64) : w.cell? ⟨b, i * 7 + 1, none⟩ = some (.int .i64 (t.s i).st) := Blk.cell h (enc_slot t i 1 hi (by omega))
theorem TabAt.par (h : TabAt T w b t) {i : Nat} (hi : i < 64) : w.cell? ⟨b, i * 7 + 2, none⟩ = some (.int .i64 (t.s i).par) := Blk.cell h (enc_slot t i 2 hi (by omega))
theorem TabAt.ck (h : TabAt T w b t) {i : Nat} (hi : i < 64) : w.cell? ⟨b, i * 7 + 3, none⟩ = some (.int .i64 (t.s i).ck) := Blk.cell h (enc_slot t i 3 hi (by omega))
theorem TabAt.cn (h : TabAt T w b t) {i : Nat} (hi : i < 64) : w.cell? ⟨b, i * 7 + 4, none⟩ = some (.int .i64 (t.s i).cn) := Blk.cell h (enc_slot t i 4 hi (by omega))
theorem TabAt.cn' (h : TabAt T w b t) {i : Nat} (hi : i < 64) : w.cell? ⟨b, i * 7 + 3 + 1, none⟩ = some (.int .i64 (t.s i).cn) := h.cn hi
theorem TabAt.kil (h : TabAt T w b t) {i : Nat} (hi : i < 64) : w.cell? ⟨b, i * 7 + 5, none⟩ = some (.bool (t.s i).kil) := Blk.cell h (enc_slot t i 5 hi (by omega))
theorem TabAt.sts (h : TabAt T w b t) {i : Nat} (hi : i < 64) : w.cell? ⟨b, i * 7 + 6, none⟩ = some (.int .i32 (t.s i).sts) := Blk.cell h (enc_slot t i 6 hi (by omega))
theorem TabAt.next (h : TabAt T w b t) : w.cell? ⟨b, 448, none⟩ = some (.int .i64 t.next) := Blk.cell h (enc_next t)
theorem TabAt.row (h : TabAt T w b t) {i : Nat} (hi : i < 64) : RowAt w ⟨b, i * 7, none⟩ (t.s i).a :=
  row_blk h fun j hj => by
    have hj' : j < 7 := hj
    rw [enc_slot t i j hi hj']
    show (t.s i).l[j]? = (t.s i).l.toArray[j]?
    simp
theorem TabAt.chan (h : TabAt T w b t) {i : Nat} (hi : i < 64) : RowAt w ⟨b, i * 7 + 3, none⟩ #[.int .i64 (t.s i).ck, .int .i64 (t.s i).cn] :=
  row_blk h fun j hj => by
    have hj' : j < 2 := hj
    rw [Nat.add_assoc, enc_slot t i (3 + j) hi (by omega)]
    match j, hj' with
    | 0, _ => rfl
    | 1, _ => rfl
end
/-- A slot set. -/
def Tab.set (t : Tab) (i : Nat) (p : Pr) : Tab := { t with s := fun k => if k = i then p else t.s k }
theorem set_s (t : Tab) (i k : Nat) (p : Pr) : (t.set i p).s k = if k = i then p else t.s k := rfl
theorem set_same (t : Tab) (i : Nat) (p : Pr) : (t.set i p).s i = p := by simp [Tab.set]
theorem set_set (t : Tab) (i : Nat) (p q : Pr) : (t.set i p).set i q = t.set i q := by
  unfold Tab.set
  congr 1
  funext k
  dsimp only
  split <;> rfl
theorem set_next (t : Tab) (i : Nat) (p : Pr) : (t.set i p).next = t.next := rfl
theorem enc_set1 {t : Tab} {i k : Nat} (hi : i < 64) (hk : k < 7) {v : Value} {p : Pr} (hp : (t.s i).l.set k v = p.l) : t.enc.setIfInBounds (i * 7 + k) v = (t.set i p).enc := by
  apply enc_ext (by simp [enc_size])
  · intro j m hj hm
    rw [set_s]
    by_cases e : j = i
    · subst e
      rw [if_pos rfl, ← hp, List.getElem?_set]
      by_cases e2 : k = m
      · subst e2
        rw [Array.getElem?_setIfInBounds, if_pos rfl, if_pos (by rw [enc_size]; omega), if_pos rfl, if_pos (show k < (t.s j).l.length from hk)]
      · rw [Array.getElem?_setIfInBounds_ne (by omega), enc_slot t j m hj hm, if_neg e2]
    · rw [if_neg e, Array.getElem?_setIfInBounds_ne (by omega), enc_slot t j m hj hm]
  · rw [Array.getElem?_setIfInBounds_ne (by omega), enc_next]; rfl
theorem enc_setN {t : Tab} {n : Int} : t.enc.setIfInBounds 448 (.int .i64 n) = ({ t with next := n } : Tab).enc := by
  apply enc_ext (by simp [enc_size])
  · intro j m hj hm
    rw [Array.getElem?_setIfInBounds_ne (by omega), enc_slot t j m hj hm]
  · rw [Array.getElem?_setIfInBounds]; simp [enc_size]
theorem enc_row {t : Tab} {i : Nat} (hi : i < 64) {p : Pr} : ovw t.enc (i * 7) p.l = (t.set i p).enc := by
  have hl : p.l.length = 7 := rfl
  apply enc_ext (by rw [ovw_size, enc_size])
  · intro j m hj hm
    rw [ovw_get _ _ _ _ (by rw [enc_size]; omega), set_s]
    by_cases e : j = i
    · subst e
      rw [if_pos (by omega), if_pos rfl, show j * 7 + m - j * 7 = m by omega]
    · rw [if_neg (by omega), if_neg e, enc_slot t j m hj hm]
  · rw [ovw_get _ _ _ _ (by rw [enc_size]; omega), if_neg (by omega), enc_next]; rfl
theorem enc_chan {t : Tab} {i : Nat} (hi : i < 64) {k n : Int} : ovw t.enc (i * 7 + 3) [.int .i64 k, .int .i64 n] = (t.set i { t.s i with ck := k, cn := n }).enc := by
  have h1 : t.enc.setIfInBounds (i * 7 + 3) (.int .i64 k) = (t.set i { t.s i with ck := k }).enc := enc_set1 hi (by omega) rfl
  simp only [ovw]
  rw [h1, Nat.add_assoc]
  have h2 := enc_set1 (t := t.set i { t.s i with ck := k }) (i := i) (k := 4) (v := .int .i64 n) (p := { t.s i with ck := k, cn := n }) hi (by omega) (by rw [set_same]; rfl)
  rw [h2, set_set]

/-! ### What stores leave -/
theorem tab_stC {T : TypeId} {w : World} {b : Nat} {t : Tab} (h : TabAt T w b t) {i k : Nat} (hi : i < 64) (hk : k < 7) {v : Value} (p : Pr) (hp : (t.s i).l.set k v = p.l) {K : World → Prop}
    (hK : ∀ w', TabAt T w' b (t.set i p) → Mod b w w' → w'.heap.size = w.heap.size → K w') : stC ⟨b, i * 7 + k, none⟩ v w K :=
  stC_intro h (by rw [enc_size]; omega) fun w' h1 h2 h3 => hK w' (by unfold TabAt; rw [← enc_set1 hi hk hp]; exact h1) h2 h3
theorem tab_stN {T : TypeId} {w : World} {b : Nat} {t : Tab} (h : TabAt T w b t) {n : Int} {K : World → Prop}
    (hK : ∀ w', TabAt T w' b { t with next := n } → Mod b w w' → w'.heap.size = w.heap.size → K w') : stC ⟨b, 448, none⟩ (.int .i64 n) w K :=
  stC_intro h (by rw [enc_size]; omega) fun w' h1 h2 h3 => hK w' (by unfold TabAt; rw [← enc_setN]; exact h1) h2 h3
theorem one_l (p : Pr) : ∀ c ∈ p.a.toList, one c = true := by
  intro c hc
  simp only [Pr.a, List.mem_cons, List.not_mem_nil, or_false] at hc
  rcases hc with rfl | rfl | rfl | rfl | rfl | rfl | rfl <;> rfl
theorem tab_stA {T : TypeId} {w : World} {b : Nat} {t : Tab} (h : TabAt T w b t) {i : Nat} (hi : i < 64) (p : Pr) {K : World → Prop}
    (hK : ∀ w', TabAt T w' b (t.set i p) → Mod b w w' → w'.heap.size = w.heap.size → K w') : stA 7 ⟨b, i * 7, none⟩ p.a w K :=
  stA_intro h rfl (by rw [enc_size]; show i * 7 + 7 ≤ 449; omega) (one_l p) fun w' h1 h2 h3 => hK w' (by unfold TabAt; rw [← enc_row hi]; exact h1) h2 h3
theorem tab_stCh {T : TypeId} {w : World} {b : Nat} {t : Tab} (h : TabAt T w b t) {i : Nat} (hi : i < 64) (k n : Int) {K : World → Prop}
    (hK : ∀ w', TabAt T w' b (t.set i { t.s i with ck := k, cn := n }) → Mod b w w' → w'.heap.size = w.heap.size → K w') : stA 2 ⟨b, i * 7 + 3, none⟩ #[.int .i64 k, .int .i64 n] w K :=
  stA_intro h rfl (by rw [enc_size]; simp; omega) (by intro c hc; simp at hc; rcases hc with rfl | rfl <;> rfl) fun w' h1 h2 h3 => hK w' (by unfold TabAt; rw [← enc_chan hi]; exact h1) h2 h3

/-! ### '==' -/
def kP : List Kd := [.int .i64, .int .i64, .int .i64, .int .i64, .int .i64, .bool, .int .i32]
theorem conf_l (p : Pr) : conf kP p.l := ⟨⟨_, rfl⟩, ⟨_, rfl⟩, ⟨_, rfl⟩, ⟨_, rfl⟩, ⟨_, rfl⟩, ⟨_, rfl⟩, ⟨_, rfl⟩, trivial⟩
theorem l_inj {p q : Pr} : p.l = q.l ↔ p = q := by
  cases p; cases q
  simp [Pr.l]
theorem eq_Pr (p q : Pr) : AggEq Try.prog 28 p.a q.a (decide (p = q)) := by
  have h := aggEq_of (P := Try.prog) (t := 28) (ks := kP) (D := 3) (by omega) (by kernel_rfl) (by kernel_rfl) (conf_l p) (conf_l q)
  rw [show leq p.l q.l = decide (p = q) from by rw [Bool.eq_iff_iff, leq_iff (conf_l p) (conf_l q), l_inj]; simp] at h
  exact h
theorem eq_Chan (a b c d : Int) : AggEq Try.prog 26 #[.int .i64 a, .int .i64 b] #[.int .i64 c, .int .i64 d] (decide (a = c ∧ b = d)) := by
  have hx : ∀ a b : Int, conf [.int .i64, .int .i64] [.int .i64 a, .int .i64 b] := fun a b => ⟨⟨_, rfl⟩, ⟨_, rfl⟩, trivial⟩
  have h := aggEq_of (P := Try.prog) (t := 26) (ks := [.int .i64, .int .i64]) (D := 2) (by omega) (by kernel_rfl) (by kernel_rfl) (hx a b) (hx c d)
  rw [show leq [.int .i64 a, .int .i64 b] [.int .i64 c, .int .i64 d] = decide (a = c ∧ b = d) from by rw [Bool.eq_iff_iff, leq_iff (hx a b) (hx c d)]; simp] at h
  exact h
def kT : List Kd := repL 64 kP ++ [.int .i64]
theorem conf_app : ∀ {ks ls : List Kd} {xs ys : List Value}, conf ks xs → conf ls ys → conf (ks ++ ls) (xs ++ ys)
  | [], _, [], _, _, h => h
  | _ :: _, _, _ :: _, _, h, h2 => ⟨h.1, conf_app h.2 h2⟩
  | [], _, _ :: _, _, h, _ => h.elim
  | _ :: _, _, [], _, h, _ => h.elim
theorem conf_rows (s : Nat → Pr) : ∀ n i, conf (repL n kP) (rows s i n)
  | 0, _ => trivial
  | n + 1, i => conf_app (conf_l (s i)) (conf_rows s n (i + 1))
theorem conf_tab (t : Tab) : conf kT t.l := conf_app (conf_rows t.s 64 0) ⟨⟨_, rfl⟩, trivial⟩
/-- The same table, as far as it is looked at. -/
def Tab.same (t u : Tab) : Prop := (∀ i, i < 64 → t.s i = u.s i) ∧ t.next = u.next
instance (t u : Tab) : Decidable (t.same u) := by unfold Tab.same; infer_instance
theorem enc_same {t u : Tab} : t.enc = u.enc ↔ t.same u := by
  constructor
  · intro h
    refine ⟨fun i hi => ?_, ?_⟩
    · apply l_inj.1
      apply List.ext_getElem?
      intro k
      by_cases hk : k < 7
      · rw [← enc_slot t i k hi hk, ← enc_slot u i k hi hk, h]
      · rw [List.getElem?_eq_none (by simp [Pr.l]; omega), List.getElem?_eq_none (by simp [Pr.l]; omega)]
    · have h1 := enc_next t
      rw [h, enc_next u] at h1
      simpa using h1.symm
  · intro h
    exact enc_ext (enc_size t) (fun i k hi hk => by rw [enc_slot t i k hi hk, h.1 i hi]) (by rw [enc_next, h.2])
set_option maxRecDepth 100000 in
theorem eq_Tab (t u : Tab) : AggEq Try.prog 31 t.enc u.enc (decide (t.same u)) := by
  have h := aggEq_of (P := Try.prog) (t := 31) (ks := kT) (D := 5) (by omega) (by kernel_rfl) (by kernel_rfl) (conf_tab t) (conf_tab u)
  have e : leq t.l u.l = decide (t.same u) := by
    rw [Bool.eq_iff_iff, leq_iff (conf_tab t) (conf_tab u)]
    have : t.l = u.l ↔ t.enc = u.enc := by
      constructor
      · intro h; unfold Tab.enc; rw [h]
      · intro h; exact congrArg Array.toList h
    rw [this, enc_same]; simp
  rw [e] at h
  exact h
end Go.Proofs.Ythihjppjollekaa
