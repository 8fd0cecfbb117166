/- The table's state as a value; calls on tables that nobody made; no condition. -/
import Derived.Test.YthihjppjollekaaCe
set_option linter.unusedVariables false
namespace Go.Proofs.Ythihjppjollekaa
open Go.RowKit Go.Hx

def Tab.rowsA (t : Tab) : Array Value := (rows t.s 0 64).toArray
theorem build_struct {t : TypeId} {fields : Array Field} {z : Value} {pl : Array (Nat × Nat)} {parts : Array (Nat × Value)} {cells : Array Value} {w : World}
    (h1 : (zeroValue t).run Try.prog w = .ok z w) (h2 : (underlying t).run Try.prog w = .ok (.struct fields) w)
    (h3 : (fields.mapM fun (f : Field) => (do pure (f.offset, ← sizeOf f.type) : Sem (Nat × Nat))).run Try.prog w = .ok pl w)
    (h4 : Instr.fill (pl[·]?) z.cells parts.toList = some cells) : (Instr.build t parts).run Try.prog w = .ok (.agg cells) w := by
  simp only [Instr.build, Sem.run_bind, h1, h2, h3, Result.andThen_ok, h4, Sem.run_pure]
set_option maxRecDepth 100000 in
theorem fill_tab (t : Tab) : Instr.fill (#[(0, 448), (448, 1)][·]?) tZero.enc [(0, .agg t.rowsA), (1, .int .i64 t.next)] = some t.enc := by
  have hl : (Value.agg t.rowsA).cells.size = 448 := by show t.rowsA.size = 448; unfold Tab.rowsA; simp [rows_len]
  rw [fill_cons (off := 0) (size := 448) rfl hl (by rw [enc_size]; omega)]
  rw [fill_cons (off := 448) (size := 1) rfl rfl (by rw [ovw_size, enc_size]; omega)]
  rw [Instr.fill]
  refine congrArg some (enc_ext ?_ ?_ ?_)
  · rw [ovw_size, ovw_size, enc_size]
  · intro i k hi hk
    rw [ovw_get _ _ _ _ (by rw [ovw_size, enc_size]; omega), if_neg (by omega), ovw_get _ _ _ _ (by rw [enc_size]; omega)]
    have hl2 : (Value.agg t.rowsA).cells.toList.length = 448 := hl
    rw [if_pos (by rw [hl2]; omega)]
    show (rows t.s 0 64)[i * 7 + k - 0]? = _
    rw [Nat.sub_zero, rows_get _ _ _ _ _ hi hk, Nat.zero_add]
  · rw [ovw_get _ _ _ _ (by rw [ovw_size, enc_size]; omega), if_pos ⟨by omega, by show 448 < 448 + 1; omega⟩]; rfl
set_option maxRecDepth 100000 in
theorem bld31t (t : Tab) : bldP Try.prog 31 [(0, .agg t.rowsA), (1, .int .i64 t.next)] (.agg t.enc) := by
  intro w
  refine build_struct (fields := match Try.prog.underlying 31 with | some (.struct f) => f | _ => #[]) (z := .agg tZero.enc) (pl := #[(0, 448), (448, 1)]) (by kernel_rfl) (by kernel_rfl) (by kernel_rfl) ?_
  exact fill_tab t
theorem ovw_all {cs g : Array Value} (h : cs.size = g.size) : ovw cs 0 g.toList = g := by
  apply Array.ext_getElem?
  intro j
  by_cases hj : j < cs.size
  · rw [ovw_get _ _ _ _ hj, if_pos ⟨by omega, by simp; omega⟩, Nat.sub_zero, Array.getElem?_toList]
  · rw [Array.getElem?_eq_none (by rw [ovw_size]; omega), Array.getElem?_eq_none (by omega)]
set_option maxRecDepth 100000 in
theorem zc31 : (zc Try.prog 31).size = 449 := by kernel_rfl
theorem one_rows (s : Nat → Pr) : ∀ (n i : Nat), ∀ c ∈ rows s i n, one c = true
  | 0, _, c, h => by simp [rows] at h
  | n + 1, i, c, h => by
    rw [rows, List.mem_append] at h
    rcases h with h | h
    · exact one_l (s i) c h
    · exact one_rows s n (i + 1) c h
theorem one_tab (t : Tab) : ∀ c ∈ t.enc.toList, one c = true := by
  intro c hc
  have hc : c ∈ t.l := hc
  rw [Tab.l, List.mem_append] at hc
  rcases hc with h | h
  · exact one_rows _ _ _ c h
  · simp at h; subst h; rfl
/-- What State tells. -/
def tState (t : Tab) : Tab := if t.next = 0 then tZero else t
/-- The pointer is to no table that a call gave. -/
def NoT (x : Option Addr) (w : World) : Prop := x = none ∨ ∃ b t, x = some ⟨b, 0, none⟩ ∧ TabAt 63 w b t ∧ t.next = 0
theorem NoT.below {x : Option Addr} {w w' : World} (h : NoT x w) (hb : Below w.heap.size w w') : NoT x w' := by
  rcases h with rfl | ⟨b, t, rfl, h1, h2⟩
  · exact Or.inl rfl
  · exact Or.inr ⟨b, t, rfl, below_tab hb (tab_lt h1) h1, h2⟩
theorem c35z {x : Option Addr} {w : World} (h : NoT x w) : Calls Try.prog 35 #[.pointer x] w (Ret fun v w' => v = .bool true ∧ w' = w) := by
  rcases h with rfl | ⟨b, t, rfl, h1, h2⟩
  · exact c35n
  · refine (c35 h1).mono ?_
    rintro e w' ⟨v, rfl, rfl, rfl⟩
    exact ⟨_, rfl, by simp [h2], rfl⟩
theorem c13z {x : Option Addr} {w : World} (h : NoT x w) : Calls Try.prog 13 #[.pointer x] w (Ret fun v w' => v = .agg tZero.enc ∧ Below w.heap.size w w') := by
  refine W13_ok _ w _ ?_
  refine newW_intro fun c w1 k1 l1 b1 => ?_
  refine (c35z (h.below b1)).mono ?_
  rintro e w' ⟨v, rfl, rfl, rfl⟩
  refine ⟨_, rfl, _, bld31, stA_intro k1 (enc_size _) (by rw [zc31]; omega) (one_tab _) fun w2 h2 m2 s2 => ?_⟩
  rw [ovw_all (by rw [zc31, enc_size])] at h2
  exact ⟨_, enc_size _, row_whole h2, rfl, b1.trans (m2.below b1.size l1)⟩
theorem c13 {b : Nat} {t : Tab} {w : World} (h : TabAt 63 w b t) (hn : t.next ≠ 0) : Calls Try.prog 13 #[.pointer (some ⟨b, 0, none⟩)] w (Ret fun v w' => v = .agg t.enc ∧ Below w.heap.size w w') := by
  refine W13_ok _ w _ ?_
  refine newW_intro fun c w1 k1 l1 b1 => ?_
  have hlt := tab_lt h
  have h1 := below_tab b1 (tab_lt h) h
  refine (c35 h1).mono ?_
  rintro e w' ⟨v, rfl, rfl, rfl⟩
  refine ⟨_, rfl, c_eq (fun e => absurd e hn) (fun _ => ?_)⟩
  have hl : t.rowsA.size = 448 := by unfold Tab.rowsA; simp [rows_len]
  refine ⟨fun w => TabAt 63 w b t, h1, ?_⟩
  simp only [nlW, Addr.add_lit, Nat.zero_add]
  refine ⟨t.rowsA, hl, fun w' q => row_blk q fun j hj => ?_, t.next, fun w' q => q.next, _, bld31t t, ?_⟩
  · rw [hl] at hj
    rw [Nat.zero_add]
    show t.l.toArray[j]? = (rows t.s 0 64).toArray[j]?
    rw [List.getElem?_toArray, List.getElem?_toArray, Tab.l, List.getElem?_append_left (by rw [rows_len]; omega)]
  · refine stA_intro (w := w'.drew) (show Blk w'.drew c _ 31 from k1) (enc_size _) (by rw [zc31]; omega) (one_tab _) fun w2 h2 m2 s2 => ?_
    rw [ovw_all (by rw [zc31, enc_size])] at h2
    exact ⟨m2.blk (by omega) (show Blk w'.drew b _ 63 from h1), _, enc_size _, row_whole h2, by trivial, b1.drew.trans (m2.below b1.size l1)⟩

/-! ### Of a table that nobody made -/
section
variable {x : Option Addr} {w : World}
theorem c24z (h : NoT x w) (n : Int) : Calls Try.prog 24 #[.pointer x, .int .i64 n] w (Ret fun v w' => v = .tuple #[.int .i64 (-1), .int .i64 (-1), .int .i64 3] ∧ Below w.heap.size w w') := by
  refine W24_ok _ _ w _ ?_
  refine newW_intro fun c w1 k1 l1 b1 => ⟨_, k1.cell rfl, (c35z (h.below b1)).mono ?_⟩
  rintro e w' ⟨v, rfl, rfl, rfl⟩
  exact ⟨_, rfl, rfl, b1⟩
theorem c19z (h : NoT x w) (n : Int) : Calls Try.prog 19 #[.pointer x, .int .i64 n] w (Ret fun v w' => v = .tuple #[.int .i64 (-1), .bool false] ∧ Below w.heap.size w w') := by
  refine W19_ok _ _ w _ ?_
  refine newW_intro fun c1 w1 k1 l1 b1 => newW_intro fun c2 w2 k2 l2 b2 => ?_
  have b12 := b1.trans (b2.mono b1.size)
  refine ⟨_, (below_blk b2 k1.lt k1).cell rfl, (c35z (h.below b12)).mono ?_⟩
  rintro e w' ⟨v, rfl, rfl, rfl⟩
  exact ⟨_, rfl, rfl, b12⟩
theorem c20z (h : NoT x w) (n s : Int) : Calls Try.prog 20 #[.pointer x, .int .i64 n, .int .i32 s] w (Ret fun v w' => v = .tuple #[.bool false, .int .i64 3] ∧ Below w.heap.size w w') := by
  refine W20_ok _ _ _ w _ ?_
  refine newW_intro fun c w1 k1 l1 b1 => ⟨_, k1.cell rfl, (c35z (h.below b1)).mono ?_⟩
  rintro e w' ⟨v, rfl, rfl, rfl⟩
  exact ⟨_, rfl, rfl, b1⟩
theorem c22z (h : NoT x w) (n : Int) : Calls Try.prog 22 #[.pointer x, .int .i64 n] w (Ret fun v w' => v = .tuple #[.int .i64 (-1), .bool false] ∧ Below w.heap.size w w') := by
  refine W22_ok _ _ w _ ?_
  refine newW_intro fun c1 w1 k1 l1 b1 => newW_intro fun c2 w2 k2 l2 b2 => newW_intro fun c3 w3 k3 l3 b3 => ?_
  have z1 := b1.size
  have z2 := b2.size
  have z3 := b3.size
  have y1 := k1.lt
  have y2 := k2.lt
  have bb3 := b1.trans ((b2.mono b1.size).trans (b3.mono (by omega)))
  have k13 := below_blk b3 (by omega) (below_blk b2 k1.lt k1)
  have k23 := below_blk b3 k2.lt k2
  refine stC_intro k23 (by simp) fun w4 k24 m4 s4 => ?_
  have b4 : Below w.heap.size w w4 := bb3.trans (m4.below (by omega) (by omega))
  have k34 := m4.blk (by omega) k3
  have k24' : Blk w4 c2 #[.int .i64 (-1)] 3 := k24
  refine ⟨fun x w5 => x = (true, ()) ∧ w5 = w4, ?_, ?_⟩
  · rintro _ _ w5 ⟨rfl, rfl⟩
    refine ⟨_, k24'.cell rfl, stC_intro k24' (by simp) fun w6 k26 m6 s6 => ?_⟩
    refine stC_intro (m6.blk (by omega) k34) (by simp) fun w7 k37 m7 s7 => ?_
    exact ⟨_, (m7.blk (by omega) k26).cell rfl, _, k37.cell rfl, rfl, (b4.trans (m6.below (by omega) (by omega))).trans (m7.below (by omega) (by omega))⟩
  · refine ⟨_, (m4.blk (by omega) k13).cell rfl, (c35z (h.below b4)).mono ?_⟩
    rintro e w' ⟨v, rfl, rfl, rfl⟩
    exact ⟨_, rfl, _, rfl, rfl, rfl⟩
theorem c25z (h : NoT x w) (n : Int) (c : Array Value) : Calls Try.prog 25 #[.pointer x, .int .i64 n, .agg c] w (Ret fun v w' => v = .int .i64 3 ∧ Below w.heap.size w w') := by
  refine W25_ok _ _ _ w _ ?_
  refine newW_intro fun c w1 k1 l1 b1 => (c35z (h.below b1)).mono ?_
  rintro e w' ⟨v, rfl, rfl, rfl⟩
  exact ⟨_, rfl, rfl, b1⟩
theorem c16z (h : NoT x w) (c : Array Value) : Calls Try.prog 16 #[.pointer x, .agg c] w (Ret fun v w' => v = .int .i64 0 ∧ Below w.heap.size w w') := by
  refine W16_ok _ _ w _ ?_
  refine newW_intro fun c w1 k1 l1 b1 => (c35z (h.below b1)).mono ?_
  rintro e w' ⟨v, rfl, rfl, rfl⟩
  exact ⟨_, rfl, rfl, b1⟩
theorem c26z (h : NoT x w) (n : Int) : Calls Try.prog 26 #[.pointer x, .int .i64 n] w (Ret fun v w' => v = .int .i64 3 ∧ Below w.heap.size w w') := by
  refine W26_ok _ _ w _ ((c35z h).mono ?_)
  rintro e w' ⟨v, rfl, rfl, rfl⟩
  exact ⟨_, rfl, rfl, Below.refl _ _⟩
theorem c23z (h : NoT x w) (n : Int) : Calls Try.prog 23 #[.pointer x, .int .i64 n] w (Ret fun v w' => v = .int .i64 3 ∧ Below w.heap.size w w') := by
  refine W23_ok _ _ w _ ?_
  refine newW_intro fun c1 w1 k1 l1 b1 => newW_intro fun c2 w2 k2 l2 b2 => ?_
  have b12 := b1.trans (b2.mono b1.size)
  refine ⟨_, (below_blk b2 k1.lt k1).cell rfl, (c35z (h.below b12)).mono ?_⟩
  rintro e w' ⟨v, rfl, rfl, rfl⟩
  exact ⟨_, rfl, rfl, b12⟩
theorem c21z (h : NoT x w) (n : Int) : Calls Try.prog 21 #[.pointer x, .int .i64 n] w (Ret fun v w' => v = .int .i64 3 ∧ Below w.heap.size w w') := by
  refine W21_ok _ _ w _ ((c35z h).mono ?_)
  rintro e w' ⟨v, rfl, rfl, rfl⟩
  exact ⟨_, rfl, rfl, Below.refl _ _⟩
theorem c27z (h : NoT x w) : Calls Try.prog 27 #[.pointer x] w (Ret fun v w' => v = .bool false ∧ Below w.heap.size w w') := by
  refine W27_ok _ w _ ((c35z h).mono ?_)
  rintro e w' ⟨v, rfl, rfl, rfl⟩
  exact ⟨_, rfl, rfl, Below.refl _ _⟩
theorem c18z (h : NoT x w) (n : Int) : Calls Try.prog 18 #[.pointer x, .int .i64 n] w (Ret fun v w' => v = .agg Pr.zero.a ∧ Below w.heap.size w w') := by
  refine W18_ok _ _ w _ ?_
  refine newW_intro fun c w1 k1 l1 b1 => ?_
  refine ⟨fun x w' => x = (true, ()) ∧ w' = w1, ?_, (c35z (h.below b1)).mono ?_⟩
  · rintro _ _ _ ⟨rfl, rfl⟩
    exact ⟨_, bld28, stA_intro k1 rfl (by simp [Pr.a]) (one_l _) fun w2 h2 m2 s2 => ⟨Pr.zero.a, rfl, row_whole h2, rfl, b1.trans (m2.below b1.size l1)⟩⟩
  · rintro e w' ⟨v, rfl, rfl, rfl⟩
    exact ⟨_, rfl, _, rfl, rfl, rfl⟩
end
end Go.Proofs.Ythihjppjollekaa
