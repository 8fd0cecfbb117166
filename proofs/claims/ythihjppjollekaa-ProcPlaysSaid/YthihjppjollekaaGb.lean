/- The laws' own helper that does one call, and the calls a law is handed; no condition. -/
import Derived.Test.YthihjppjollekaaGa
import Derived.Test.YthihjppjollekaaHr
set_option linter.unusedVariables false
namespace Go.Proofs.Ythihjppjollekaa
open Go.RowKit Go.Hx

theorem c15 {b : Nat} {t : Tab} {w : World} (h : TabAt 63 w b t) (hk : Ok t) (o : OpD) :
    Calls Try.prog 15 #[.pointer (some ⟨b, 0, none⟩), .agg o.a] w (Ret fun v w' => v = .tuple #[] ∧ TabAt 63 w' b (tDo t o) ∧ Mod b w w') := by
  refine W15_ok _ _ w _ ?_
  refine newW_intro fun c w1 k1 l1 b1 => ?_
  have hlt := tab_lt h
  have h1 := below_tab b1 (tab_lt h) h
  have m1 := Mod.of_below (b := b) b1
  have hn := hk.ne0
  have hn1 := hk.n1
  have hn2 := hk.n2
  unfold tDo
  have hrow : RowAt w1 ⟨c, 2, none⟩ #[.int .i64 o.ck, .int .i64 o.cn] := row_blk k1 fun j hj => by
    match j, hj with
    | 0, _ => rfl
    | 1, _ => rfl
  have e1 : w1.cell? ⟨c, 1, none⟩ = some (.int .i64 o.slot) := k1.cell rfl
  have e4 : w1.cell? ⟨c, 4, none⟩ = some (.int .i32 o.sts) := k1.cell rfl
  refine ⟨o.kind, k1.cell rfl, ?_⟩
  simp only [Addr.add_lit, Nat.zero_add]
  refine c_eq (fun e => ?_) fun e => ?_
  · rw [if_pos e]
    refine ⟨_, e1, (c24 h1 hn (by omega) (by omega) o.slot).mono ?_⟩
    rintro e w2 ⟨v, rfl, rfl, h2, m2⟩
    exact ⟨_, _, _, rfl, by trivial, h2, m1.trans m2⟩
  rw [if_neg e]
  refine c_eq (fun e => ?_) fun e => ?_
  · rw [if_pos e]
    refine ⟨_, e1, _, rfl, hrow, (c25 h1 hn _ _ _).mono ?_⟩
    rintro e w2 ⟨v, rfl, rfl, h2, m2⟩
    exact ⟨_, rfl, by trivial, h2, m1.trans m2⟩
  rw [if_neg e]
  refine c_eq (fun e => ?_) fun e => ?_
  · rw [if_pos e]
    refine ⟨_, rfl, hrow, (c16 h1 hn _ _).mono ?_⟩
    rintro e w2 ⟨v, rfl, rfl, h2, m2⟩
    exact ⟨_, rfl, by trivial, h2, m1.trans m2⟩
  rw [if_neg e]
  refine c_eq (fun e => ?_) fun e => ?_
  · rw [if_pos e]
    refine ⟨_, e1, (c26 h1 hn _).mono ?_⟩
    rintro e w2 ⟨v, rfl, rfl, h2, m2⟩
    exact ⟨_, rfl, by trivial, h2, m1.trans m2⟩
  rw [if_neg e]
  refine c_eq (fun e => ?_) fun e => ?_
  · rw [if_pos e]
    refine ⟨_, e1, (c23 h1 hn _).mono ?_⟩
    rintro e w2 ⟨v, rfl, rfl, h2, m2⟩
    exact ⟨_, rfl, by trivial, h2, m1.trans m2⟩
  rw [if_neg e]
  refine c_eq (fun e => ?_) fun e => ?_
  · rw [if_pos e]
    refine ⟨_, e1, _, e4, (c20 h1 hn _ _).mono ?_⟩
    rintro e w2 ⟨v, rfl, rfl, h2, m2⟩
    exact ⟨_, _, rfl, by trivial, h2, m1.trans m2⟩
  rw [if_neg e]
  refine c_eq (fun e => ?_) fun e => ?_
  · rw [if_pos e]
    refine ⟨_, e1, (c21 h1 hn _).mono ?_⟩
    rintro e w2 ⟨v, rfl, rfl, h2, m2⟩
    exact ⟨_, rfl, by trivial, h2, m1.trans m2⟩
  rw [if_neg e]
  exact ⟨by trivial, h1, m1⟩

/-- The calls that a law is handed, as they lie there. -/
def OpsAt (w : World) (x : Option Addr) (n : Nat) : Prop := ∀ i, i < n → ∃ a, x = some a ∧ a.block < w.heap.size ∧ ∃ o : OpD, RowAt w (a.add (i * 5)) o.a
theorem add_block (a : Addr) (n : Nat) : (a.add n).block = a.block := by unfold Addr.add; split <;> rfl
theorem row_below {B : Nat} {w w' : World} (hb : Below B w w') {a : Addr} (ha : a.block < B) {cs : Array Value} (h : RowAt w a cs) : RowAt w' a cs := fun j v hv => by
  have h1 := h j v hv
  have h2 : w'.heap[(a.add j).block]? = w.heap[(a.add j).block]? := hb.block _ (by rw [add_block]; exact ha)
  have h3 := World.cell?_of_block (w := w) (w' := w') (a := a.add j) h2
  rw [h3]; exact h1
theorem OpsAt.below {w w' : World} {x : Option Addr} {n : Nat} (h : OpsAt w x n) (hb : Below w.heap.size w w') : OpsAt w' x n := fun i hi => by
  obtain ⟨a, h1, h2, o, h3⟩ := h i hi
  exact ⟨a, h1, Nat.lt_of_lt_of_le h2 hb.size, o, row_below hb (by rw [add_block]; exact h2) h3⟩
theorem look_ok {t : Tab} (h : Ok t) {i : Nat} (hi : i < 64) : lookP t i = t.s i := by
  unfold lookP
  by_cases e : (t.s i).st = 0
  · rw [if_neg (by unfold Tab.has; simp [e]), h.free i hi e]
  · rw [if_pos ⟨by omega, by omega, by simpa using e⟩]; simp
/-- The copy that a law keeps of the table's state. -/
theorem keepT {t : Tab} {w : World} {K : Addr → World → Prop} (h : ∀ (c : Nat) (w' : World), TabAt 31 w' c t → w.heap.size ≤ c → Below w.heap.size w w' → K ⟨c, 0, none⟩ w') :
    newW (zc Try.prog 31) 31 w fun a w => stA 449 a t.enc w fun w => K a w := by
  refine newW_intro fun c w1 k1 l1 b1 => ?_
  refine stA_intro k1 (enc_size _) (by rw [zc31]; omega) (one_tab _) fun w2 h2 m2 s2 => ?_
  rw [ovw_all (by rw [zc31, enc_size])] at h2
  exact h c w2 h2 l1 (b1.trans (m2.below b1.size l1))
/-- The copy that a law keeps of a process. -/
theorem keepP {p : Pr} {w : World} {K : Addr → World → Prop} (h : ∀ (c : Nat) (w' : World), Blk w' c p.a 28 → w.heap.size ≤ c → Below w.heap.size w w' → K ⟨c, 0, none⟩ w') :
    newW #[.int .i64 0, .int .i64 0, .int .i64 0, .int .i64 0, .int .i64 0, .bool false, .int .i32 0] 28 w fun a w => stA 7 a p.a w fun w => K a w := by
  refine newW_intro fun c w1 k1 l1 b1 => ?_
  refine stA_intro k1 rfl (by simp [Pr.a]) (one_l _) fun w2 h2 m2 s2 => ?_
  rw [ovw_all (cs := #[.int .i64 0, .int .i64 0, .int .i64 0, .int .i64 0, .int .i64 0, .bool false, .int .i32 0]) (g := p.a) rfl] at h2
  exact h c w2 h2 l1 (b1.trans (m2.below b1.size l1))
/-- The rank of a slot: how many have a lesser pid. -/
def rk (t : Tab) (i : Nat) : Nat := (List.range 64).countP fun j => decide ((t.s j).st ≠ 0 ∧ (t.s j).pid < (t.s i).pid)
theorem countP_lt {α : Type} {p q : α → Bool} : ∀ {l : List α}, (∀ a ∈ l, p a = true → q a = true) → (∃ a ∈ l, q a = true ∧ p a = false) → l.countP p < l.countP q
  | [], _, ⟨_, h, _⟩ => by simp at h
  | x :: l, h1, ⟨a, ha, h2, h3⟩ => by
    rw [List.countP_cons, List.countP_cons]
    have hle : l.countP p ≤ l.countP q := List.countP_mono_left fun b hb hp => h1 b (List.mem_cons_of_mem _ hb) hp
    rcases List.mem_cons.1 ha with rfl | ha'
    · rw [h2, h3]; simp; omega
    · have ih := countP_lt (fun b hb => h1 b (List.mem_cons_of_mem _ hb)) ⟨a, ha', h2, h3⟩
      have hx := h1 x (List.mem_cons_self ..)
      cases hp : p x
      · cases hq : q x <;> simp <;> omega
      · rw [hx hp]; simp; omega
theorem rk_lt (t : Tab) {i : Nat} (hi : i < 64) : rk t i < 64 := by
  have h : rk t i < (List.range 64).countP fun _ => true := countP_lt (fun _ _ _ => rfl) ⟨i, List.mem_range.2 hi, rfl, by simp⟩
  simpa using h
theorem rk_par {t : Tab} {i p : Nat} (hp : p < 64) (hu : (t.s p).st ≠ 0) (h : (t.s p).pid < (t.s i).pid) : rk t p < rk t i := by
  refine countP_lt (fun j _ hj => ?_) ⟨p, List.mem_range.2 hp, by simp [hu, h], by simp⟩
  simp only [decide_eq_true_eq] at hj ⊢
  exact ⟨hj.1, by omega⟩
theorem c37 {t : Tab} (hk : Ok t) {i : Nat} (hi : i < 64) (hu : (t.s i).st ≠ 0) (w : World) : Calls Try.prog 37 #[.agg t.enc, .int .i64 i] w (Ret fun v w' => v = .bool true ∧ Below w.heap.size w w') := by
  refine W37_ok _ _ w _ ?_
  refine newW_intro fun c w1 k1 l1 b1 => ?_
  have k1 : TabAt 31 w1 c t := k1
  have hz := hk.zero0 hi hu
  refine ⟨fun x w2 => w2 = w1 ∧ ∃ n s : Nat, x = ((s : Int), (n : Int), ()) ∧ s < 64 ∧ (t.s s).st ≠ 0 ∧ n + rk t s ≤ 63, fun x _ => (64 - x.2.1).toNat, ⟨((i : Int), 0, ()), rfl, rfl, 0, i, rfl, hi, hu, by have := rk_lt t hi; omega⟩, ?_⟩
  rintro _ x w2 ⟨rfl, n, s, rfl, hs, hus, hr⟩
  dsimp only
  refine c_dec (fun hlt => ?_) (fun hge => by exfalso; apply hge; omega)
  refine c_eq (fun h0 => ?_) (fun h0 => ?_)
  · refine ⟨⟨by omega, by omega⟩, (t.s 0).par, by simp only [Addr.add_lit]; exact k1.par (i := 0) (by omega), ?_, b1⟩
    rw [(hk.root hz).2]; rfl
  · obtain ⟨p, hp, g1, g2, g3, g4⟩ := hk.par s hs (by omega) hus
    simp only [Addr.add_lit, Nat.zero_add, Int.toNat_natCast]
    refine ⟨⟨by omega, by omega⟩, (p : Int), by rw [← g1]; exact k1.par hs, ?_⟩
    refine c_dec (fun hh => by omega) (fun _ => c_dec (fun hh => by omega) (fun _ => ?_))
    simp only [Int.toNat_natCast]
    have hr' := rk_par hp g2 g3
    have nx : IntKind.i64.wrap ((n : Int) + 1) = ((n + 1 : Nat) : Int) := by rw [wrap_in (by omega) (by omega)]; omega
    have go : ∃ t' : Int × Int × Unit, ([.int .i64 (p : Int), .int .i64 (IntKind.i64.wrap ((n : Int) + (1 : Int)))] : List Value) = tv [(1, .int .i64), (5, .int .i64)] t' ∧ (True ∧ ∃ n s : Nat, t' = ((s : Int), (n : Int), ()) ∧ s < 64 ∧ (t.s s).st ≠ 0 ∧ n + rk t s ≤ 63) ∧ (64 - t'.2.1).toNat < (64 - (n : Int)).toNat :=
      ⟨((p : Int), ((n + 1 : Nat) : Int), ()), by rw [nx]; rfl, ⟨trivial, n + 1, p, rfl, hp, g2, by omega⟩, by dsimp only; omega⟩
    refine ⟨⟨by omega, by omega⟩, (t.s p).st, k1.st hp, c_eq (fun hh => absurd hh g2) (fun _ => ?_)⟩
    refine c_ne (fun h1 => ?_) (fun _ => go)
    refine ⟨⟨by omega, by omega⟩, (t.s p).st, k1.st hp, c_eq (fun hh => ?_) (fun _ => go)⟩
    rcases g4 with e | e
    · omega
    · exact absurd hh e
end Go.Proofs.Ythihjppjollekaa
