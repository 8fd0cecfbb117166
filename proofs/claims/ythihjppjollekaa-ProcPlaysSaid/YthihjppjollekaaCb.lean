/- Contracts of the program's calls on the table of processes; no condition. -/
import Derived.Test.YthihjppjollekaaCa
set_option linter.unusedVariables false
namespace Go.Proofs.Ythihjppjollekaa
open Go.RowKit Go.Hx

theorem below_tab {B : Nat} {w w' : World} (h : Below B w w') {T b : Nat} {t : Tab} (hb : b < B) (ht : TabAt T w b t) : TabAt T w' b t := below_blk h hb ht
theorem tab_lt {T b : Nat} {t : Tab} {w : World} (h : TabAt T w b t) : b < w.heap.size := Blk.lt h
/-- A call of a function value that captures. -/
theorem calV_of {n : Nat} {cap : Array Value} {args : List Value} {w : World} {R : Ending → World → Prop} (hp : plainFn Try.prog n = true) (h : Calls Try.prog n (args ++ cap.toList).toArray w R) : calV Try.prog (.func (.func n) #[] cap) args w R := by
  show cond (plainFn Try.prog n) _ False
  rw [hp]
  simpa using h

theorem c67 {b bx : Nat} {t : Tab} {w : World} (h : TabAt 63 w b t) (hx : Blk w bx #[.pointer (some ⟨b, 0, none⟩)] 94) {i : Nat} (hi : i < 64) :
    Calls Try.prog 67 #[.int .i64 i, .pointer (some ⟨bx, 0, none⟩)] w (Ret fun v w' => v = .bool (decide (t.s i = Pr.zero)) ∧ Below w.heap.size w w') := by
  refine W67_ok _ _ w _ ?_
  refine newW_intro fun c w1 hc hl hb => ?_
  have h1 := below_tab hb (tab_lt h) h
  have hx1 := below_blk hb hx.lt hx
  refine ⟨_, hx1.cell rfl, ⟨by omega, by omega⟩, (t.s i).a, rfl, ?_, Pr.zero.a, rfl, row_whole hc, _, eq_Pr _ _, rfl, hb.drew⟩
  simp only [Addr.add_lit, Nat.zero_add, Int.toNat_natCast]
  exact TabAt.row (w := w1.drew) h1 hi
theorem c46 {b : Nat} {t : Tab} {w : World} (h : TabAt 63 w b t) : Calls Try.prog 46 #[.pointer (some ⟨b, 0, none⟩)] w (Ret fun v w' => v = fsV (fun i => decide (t.s i = Pr.zero)) ∧ Below w.heap.size w w') := by
  refine W46_ok _ w _ ?_
  refine newW_intro fun c w1 hc hl hb => ?_
  refine (c39 (p := fun i => decide (t.s i = Pr.zero)) (fun i w' hi hb' => calV_of (by kernel_rfl) (c67 (below_tab hb' (by have := tab_lt h; have := hb.size; omega) (below_tab hb (tab_lt h) h)) (below_blk hb' hc.lt hc) hi))).mono ?_
  rintro e w2 ⟨v, rfl, rfl, hb2⟩
  unfold fsV
  split
  · exact ⟨_, _, rfl, rfl, hb.trans (hb2.mono hb.size)⟩
  · exact ⟨_, _, rfl, rfl, hb.trans (hb2.mono hb.size)⟩

/-! ### Look, Room, Pick -/
def lookP (t : Tab) (s : Int) : Pr := if t.has s then t.s s.toNat else Pr.zero
theorem c18 {b : Nat} {t : Tab} {w : World} (h : TabAt 63 w b t) (hn : t.next ≠ 0) (s : Int) :
    Calls Try.prog 18 #[.pointer (some ⟨b, 0, none⟩), .int .i64 s] w (Ret fun v w' => v = .agg (lookP t s).a ∧ Below w.heap.size w w') := by
  refine W18_ok _ _ w _ ?_
  refine newW_intro fun c w1 hc hl hb => ?_
  have h1 := below_tab hb (tab_lt h) h
  refine ⟨fun x w' => x = (!decide (t.has s), ()) ∧ w' = w1, ?_, ?_⟩
  · rintro _ _ _ ⟨rfl, rfl⟩
    refine c_ndec (fun hh => ?_) (fun hh => ?_)
    · refine ⟨_, bld28, stA_intro hc rfl (by simp [Pr.a]) (one_l _) fun w2 h2 m2 s2 => ⟨Pr.zero.a, rfl, row_whole h2, ?_, hb.trans (m2.below hb.size hl)⟩⟩
      unfold lookP; rw [if_neg hh]
    · refine (c38 h1 s).mono ?_
      rintro e w' ⟨v, rfl, rfl, rfl⟩
      refine ⟨_, rfl, ?_⟩
      unfold atA
      rw [if_pos hh]
      obtain ⟨g1, g2, g3⟩ := hh
      refine ⟨(t.s s.toNat).a, rfl, h1.row (by omega), stA_intro hc rfl (by simp [Pr.a]) (one_l _) fun w2 h2 m2 s2 => ⟨(t.s s.toNat).a, rfl, row_whole h2, ?_, hb.trans (m2.below hb.size hl)⟩⟩
      unfold lookP; rw [if_pos ⟨g1, g2, g3⟩]
  · refine (c35 h1).mono ?_
    rintro e w' ⟨v, rfl, rfl, rfl⟩
    refine ⟨_, rfl, c_eq (fun e => absurd e hn) (fun _ => ?_)⟩
    refine (c38 h1 s).mono ?_
    rintro e w' ⟨v, rfl, rfl, rfl⟩
    refine ⟨_, rfl, (_, ()), ?_, rfl, rfl⟩
    unfold atA
    by_cases hh : t.has s
    · simp [hh, tv, Kd.V]
    · simp [hh, tv, Kd.V]
def roomB (t : Tab) : Bool := (fs fun i => decide (t.s i = Pr.zero)).isSome && decide (t.next ≤ 2147483647)
theorem c27 {b : Nat} {t : Tab} {w : World} (h : TabAt 63 w b t) (hn : t.next ≠ 0) :
    Calls Try.prog 27 #[.pointer (some ⟨b, 0, none⟩)] w (Ret fun v w' => v = .bool (roomB t) ∧ Below w.heap.size w w') := by
  refine W27_ok _ w _ ?_
  refine (c35 h).mono ?_
  rintro e w' ⟨v, rfl, rfl, rfl⟩
  refine ⟨_, rfl, c_eq (fun e => absurd e hn) (fun _ => ?_)⟩
  refine (c46 h).mono ?_
  rintro e w2 ⟨v, rfl, rfl, hb⟩
  unfold fsV roomB
  split
  · rename_i i hi
    refine ⟨_, _, rfl, t.next, by simp only [Addr.add_lit, Nat.zero_add]; exact (below_tab hb (tab_lt h) h).next, ?_, hb⟩
    rw [hi]; rfl
  · rename_i hi
    refine ⟨_, _, rfl, ?_, hb⟩
    rw [hi]; rfl
/-- The place from which Pick goes round. -/
def pkL (l : Int) : Int := if l < 0 ∨ 64 ≤ l then 63 else l
theorem pkL_in (l : Int) : 0 ≤ pkL l ∧ pkL l < 64 := by unfold pkL; split <;> omega
def pick (t : Tab) (l : Int) : Value := match fs (fun i => decide ((t.s (((pkL l).toNat + 1 + i) % 64)).st = 1)) with
  | some i => .tuple #[.int .i64 (((pkL l).toNat + 1 + i) % 64 : Nat), .bool true]
  | none => .tuple #[.int .i64 (-1), .bool false]
theorem pk_mod {l : Int} {i : Nat} (h0 : 0 ≤ l) (h64 : l < 64) (hi : i < 64) : (IntKind.i64.wrap (IntKind.i64.wrap (l + 1) + i)).tmod 64 = (((l.toNat + 1 + i) % 64 : Nat) : Int) := by
  rw [show IntKind.i64.wrap (l + 1) = l + 1 from wrap_in (by omega) (by omega), wrap_in (by omega) (by omega), Int.tmod_eq_emod_of_nonneg (by omega)]
  omega
theorem c40 {b bt bl : Nat} {t : Tab} {l : Int} {w : World} (h : TabAt 63 w b t) (ht : Blk w bt #[.pointer (some ⟨b, 0, none⟩)] 36) (hl : Blk w bl #[.int .i64 l] 3) (h0 : 0 ≤ l) (h64 : l < 64) {i : Nat} (hi : i < 64) :
    Calls Try.prog 40 #[.int .i64 i, .pointer (some ⟨bt, 0, none⟩), .pointer (some ⟨bl, 0, none⟩)] w (Ret fun v w' => v = .bool (decide ((t.s ((l.toNat + 1 + i) % 64)).st = 1)) ∧ Below w.heap.size w w') := by
  refine W40_ok _ _ _ w _ ?_
  have e := pk_mod h0 h64 hi
  refine ⟨_, ht.cell rfl, _, hl.cell rfl, by decide, ?_⟩
  rw [e]
  refine ⟨⟨by omega, by omega⟩, (t.s ((l.toNat + 1 + i) % 64)).st, ?_, ?_, (Below.refl _ _).drew⟩
  · simp only [Addr.add_lit, Nat.zero_add, Int.toNat_natCast]
    exact h.st (by omega)
  · congr 1
theorem c19 {b : Nat} {t : Tab} {w : World} (h : TabAt 63 w b t) (hn : t.next ≠ 0) (l : Int) :
    Calls Try.prog 19 #[.pointer (some ⟨b, 0, none⟩), .int .i64 l] w (Ret fun v w' => v = pick t l ∧ Below w.heap.size w w') := by
  refine W19_ok _ _ w _ ?_
  refine newW_intro fun c1 w1 k1 l1 b1 => newW_intro fun c2 w2 k2 l2 b2 => ?_
  have b12 := b1.trans (b2.mono b1.size)
  have h2 := below_tab b12 (tab_lt h) h
  have k1' := below_blk b2 k1.lt k1
  refine ⟨_, k1'.cell rfl, (c35 h2).mono ?_⟩
  rintro e w' ⟨v, rfl, rfl, rfl⟩
  refine ⟨_, rfl, c_eq (fun e => absurd e hn) (fun _ => ?_)⟩
  refine ⟨fun _ w3 => Blk w3 c1 #[.pointer (some ⟨b, 0, none⟩)] 36 ∧ Blk w3 c2 #[.int .i64 (pkL l)] 3 ∧ TabAt 63 w3 b t ∧ Below w.heap.size w w3, ?_, l, k2.cell rfl, ?_⟩
  · rintro _ _ w3 ⟨q1, q2, q3, q4⟩
    have hp := pkL_in l
    refine (c39 (p := fun i => decide ((t.s (((pkL l).toNat + 1 + i) % 64)).st = 1)) (fun i w' hi hb' => calV_of (by kernel_rfl) (c40 (below_tab hb' (tab_lt q3) q3) (below_blk hb' q1.lt q1) (below_blk hb' q2.lt q2) hp.1 hp.2 hi))).mono ?_
    rintro e w4 ⟨v, rfl, rfl, hb4⟩
    unfold fsV pick
    split
    · rename_i i hi
      have hi' := (fs_spec hi).1
      refine ⟨_, _, rfl, pkL l, (below_blk hb4 q2.lt q2).cell rfl, by decide, ?_, q4.trans (hb4.mono q4.size)⟩
      rw [pk_mod hp.1 hp.2 hi', hi]
    · rename_i hi
      exact ⟨_, _, rfl, by rw [hi], q4.trans (hb4.mono q4.size)⟩
  · have hlt := tab_lt h
    have hs1 := b1.size
    have hk1 := k1.lt
    have stay : ∀ w3, Mod c2 w' w3 → Blk w3 c1 #[.pointer (some ⟨b, 0, none⟩)] 36 ∧ TabAt 63 w3 b t ∧ Below w.heap.size w w3 := fun w3 m =>
      ⟨m.blk (by omega) k1', m.blk (by omega) h2, b12.trans (m.below b12.size (by omega))⟩
    have sto : pkL l = 63 → stC ⟨c2, 0, none⟩ (.int .i64 63) w' fun w3 => ∃ t' : Unit, ([] : List Value) = tv [] t' ∧ (Blk w3 c1 #[.pointer (some ⟨b, 0, none⟩)] 36 ∧ Blk w3 c2 #[.int .i64 (pkL l)] 3 ∧ TabAt 63 w3 b t ∧ Below w.heap.size w w3) := fun hp =>
      stC_intro k2 (by simp) fun w3 g1 g2 g3 => ⟨(), rfl, (stay w3 g2).1, by rw [hp]; exact g1, (stay w3 g2).2.1, (stay w3 g2).2.2⟩
    refine c_dec (fun h1 => sto (by unfold pkL; rw [if_pos (by omega)])) (fun h1 => ⟨l, k2.cell rfl, c_dec (fun h3 => sto (by unfold pkL; rw [if_pos (by omega)])) (fun h3 => ?_)⟩)
    exact ⟨(), rfl, k1', by unfold pkL; rw [if_neg (by omega)]; exact k2, h2, b12⟩
end Go.Proofs.Ythihjppjollekaa
