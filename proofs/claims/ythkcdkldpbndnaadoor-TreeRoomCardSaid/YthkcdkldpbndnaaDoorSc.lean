/- Entries laid down: the program's and the document's. No condition. -/
import Derived.Test.YthkcdkldpbndnaaDoorSb
set_option linter.unusedVariables false
namespace Go.Proofs.YthkcdkldpbndnaaDoor
open Go.RowKit Go.Hx
theorem wrap_u8 (n : Int) : IntKind.u8.wrap n = n % 256 := by
  unfold IntKind.wrap
  simp only [IntKind.bits, IntKind.signed]
  simp
def lob (n : Int) : UInt8 := UInt8.ofNat (n % 256).toNat
def hib (n : Int) : UInt8 := UInt8.ofNat (n / 256 % 256).toNat
theorem lob_val (n : Int) : IntKind.u8.wrap n = (((lob n).toNat : Nat) : Int) := by
  rw [wrap_u8]
  unfold lob
  rw [UInt8.toNat_ofNat']
  omega
theorem hib_val (n : Int) : IntKind.u8.wrap (n.fdiv (2 ^ min (8 : Int).toNat IntKind.i64.bits)) = (((hib n).toNat : Nat) : Int) := by
  have e8 : (2 : Int) ^ min (8 : Int).toNat IntKind.i64.bits = 256 := by decide
  rw [e8, Int.fdiv_eq_ediv_of_nonneg _ (by omega), wrap_u8]
  unfold hib
  rw [UInt8.toNat_ofNat']
  omega
def packB (ino : Int) (name : List UInt8) : List UInt8 := [lob ino, hib ino] ++ (name.take 14 ++ List.replicate (14 - (name.take 14).length) 0)
theorem packB_len (ino : Int) (name : List UInt8) : (packB ino name).length = 16 := by
  unfold packB
  rw [List.length_append, List.length_append, List.length_replicate]
  have := List.length_take_le 14 name
  show 2 + _ = 16
  omega
theorem first_str (P : Program) (l : List UInt8) (n : Nat) (w : World) : (Builtin.firstCells 1 n (.string (str l))).run P w = .ok (bv (l.take n)).toArray w := by
  unfold Builtin.firstCells
  rw [Sem.run_pure, str_take]
  congr 1
  show Array.map _ (List.toArray (l.take n)) = _
  rw [List.map_toArray]
  rfl
def PackQ (ino : Int) (name : List UInt8) (w : World) (v : Value) (w' : World) : Prop := ∃ (q : Option Addr) (c : Nat), v = .slice q 16 c ∧ Ow 5 1 w.heap.size w' q 16 c (bv (packB ino name)) ∧ Below w.heap.size w w'
theorem c_Pack (ino : Int) (name : List UInt8) (w : World) : Calls Tryd.prog 19 #[.agg (dirC ino name)] w (Ret (PackQ ino name w)) := by
  refine W19_ok _ w _ (newW_intro fun a1 w1 k1 l1 b1 => ⟨⟨by decide, by decide, by decide, by decide⟩, newW_intro fun a2 w2 k2 l2 b2 => ?_⟩)
  have z1 := b1.size
  have z2 := b2.size
  have k12 := below_blk b2 k1.lt k1
  have a1lt := k1.lt
  have k2 : Blk w2 a2 (List.replicate 16 (Value.int .u8 0)).toArray 5 := by
    have e := zarr 16 (.int .u8 0)
    rw [← e]
    exact k2
  have B2 := b1.trans (b2.mono z1)
  refine ⟨fun w' => Blk w' a1 (dirC ino name) 23, k12.drew, ino, fun w' h => h.cell rfl, ino, fun w' h => h.cell rfl, by decide, ⟨by decide, by decide⟩, ?_⟩
  rw [lob_val, Addr.add_lit]
  refine stC_intro k2.drew (show 0 < 16 by decide) fun w3 k3 m3 s3 => ?_
  have k13 := m3.blk (by omega : a1 ≠ a2) k12.drew
  have B3 := (B2.trans (below_drew _ _)).trans (m3.below (by show w.heap.size ≤ w2.heap.size; omega) (by omega))
  refine ⟨fun w' => Blk w' a1 (dirC ino name) 23, fun w' h => h, k13, ⟨by decide, by decide⟩, ?_⟩
  rw [hib_val, Addr.add_lit]
  refine stC_intro k3 (show 0 + 1 < 16 by decide) fun w4 k4 m4 s4 => ⟨⟨by decide, by decide⟩, ?_⟩
  have k14 := m4.blk (by omega : a1 ≠ a2) k13
  have B4 := B3.trans (m4.below B3.size (by omega))
  have hl := List.length_take_le 14 name
  refine ⟨str name, by rw [Addr.add_lit]; exact k14.drew.cell rfl, name.length, bv (name.take 14), fun w' => (by unfold Builtin.lenOf; rw [Sem.run_pure, str_size]), ?_, bv_one _, .inr ⟨⟨a2, 2, none⟩, ?_, ?_, ?_⟩⟩
  · rw [first_str]
    congr 3
    show name.take (min name.length 14) = _
    rw [Nat.min_comm, take_min]
  · rfl
  · exact room_blk k4.drew (by rw [bv_length]; show 2 + _ ≤ 16; omega)
  · obtain ⟨h2, h3, h4⟩ := stoL_blk 2 (bv (name.take 14)) 0 w4.drew _ k4.drew
    refine ⟨_, 16, rfl, ⟨by rw [bv_length, packB_len], Nat.le_refl _, by decide, .inr ⟨a2, _, rfl, by omega, h2, ?_, ?_⟩⟩, (B4.trans (below_drew _ _)).trans (h3.below (by have := B4.size; show w.heap.size ≤ w4.heap.size; omega) (by omega))⟩
    · rw [ovw_size]; rfl
    · rw [ovw_list _ _ _ (by rw [bv_length]; show 2 + _ ≤ 16; omega), List.take_of_length_le]
      · unfold packB
        rw [bv_app, bv_app, bv_length, ← List.append_assoc]
        refine Eq.trans (congrArg (fun z => bv [lob ino, hib ino] ++ bv (List.take 14 name) ++ z) ?_) rfl
        generalize (name.take 14).length = n at hl ⊢
        have key : (List.replicate 16 (Value.int .u8 0)).drop (2 + n) = bv (List.replicate (14 - n) 0) := by
          rw [List.drop_replicate, show 16 - (2 + n) = 14 - n by omega]
          simp [bv]
        rw [← key]
        show List.drop (2 + n) (_ :: _ :: List.replicate 14 (Value.int .u8 0)) = List.drop (2 + n) (_ :: _ :: List.replicate 14 (Value.int .u8 0))
        rw [show 2 + n = (n + 1) + 1 by omega, List.drop_succ_cons, List.drop_succ_cons, List.drop_succ_cons, List.drop_succ_cons]
      · simp only [List.length_append, bv_length, List.length_take, List.length_drop]
        show min 2 16 + _ + (16 - _) ≤ _
        have := List.length_take (i := 14) (l := name)
        omega
theorem packB_at {ino : Int} {name : List UInt8} {i : Nat} (h : i < 14) : (packB ino name)[2 + i]? = some (if i < (name.take 14).length then (name.take 14).getD i 0 else 0) := by
  unfold packB
  rw [List.getElem?_append_right (by show 2 ≤ _; omega), show 2 + i - [lob ino, hib ino].length = i by show 2 + i - 2 = i; omega]
  have hl := List.length_take_le 14 name
  by_cases h1 : i < (name.take 14).length
  · rw [if_pos h1, List.getElem?_append_left h1, List.getD_eq_getElem?_getD, List.getElem?_eq_getElem h1]; rfl
  · rw [if_neg h1, List.getElem?_append_right (by omega), List.getElem?_replicate, if_pos (by omega)]
theorem c_refPack (ino : Int) (name : List UInt8) (w : World) : Calls Tryd.prog 20 #[.int .i64 ino, .string (str name)] w (Ret (PackQ ino name w)) := by
  refine W20_ok _ _ w _ ⟨by decide, ?_⟩
  rw [lob_val, hib_val]
  refine ⟨#[.int .u8 (((lob ino).toNat : Nat) : Int), .int .u8 (((hib ino).toNat : Nat) : Int)], fun w => by kernel_rfl, newW_intro fun b w1 k1 l1 b1 => (c_cut name w1).mono ?_⟩
  rintro _ _ ⟨_, rfl, rfl, rfl⟩
  have z1 := b1.size
  have hl := List.length_take_le 14 name
  refine ⟨_, rfl, fun t w' => ∃ (i : Nat) (q : Option Addr) (c : Nat), t = ((q, 2 + i, c), (i : Int), ()) ∧ i ≤ 14 ∧ Ow 5 1 w.heap.size w' q (2 + i) c (bv ((packB ino name).take (2 + i))) ∧ Below w.heap.size w w', fun t _ => 14 - t.2.1.toNat,
    ⟨((some ⟨b, 0, none⟩, 2, 2), ((0 : Nat) : Int), ()), rfl, 0, _, _, rfl, Nat.zero_le _, ⟨rfl, Nat.le_refl _, by decide, .inr ⟨b, _, rfl, l1, k1, rfl, rfl⟩⟩, b1⟩, ?_⟩
  rintro _ _ w2 ⟨i, q, c, rfl, hi, o, b2⟩
  have z2 := b2.size
  refine c_dec (fun hlt => ?_) (fun hge => ?_)
  · have hlt : i < 14 := by
      have : (i : Int) < 14 := hlt
      omega
    have hp := packB_at (ino := ino) (name := name) hlt
    dsimp only
    rw [str_size]
    have leaf : ∀ {q' : Option Addr} {c' : Nat} {w' : World}, Ow 5 1 w.heap.size w' q' (2 + i + 1) c' (bv ((packB ino name).take (2 + i + 1))) → Below w.heap.size w w' →
        ∃ t' : (Option Addr × Nat × Nat) × Int × Unit, ([.slice q' (2 + i + 1) c', .int .i64 (IntKind.i64.wrap ((i : Int) + (1 : Int)))] : List Value) = tv [(5, .slice), (6, .int .i64)] t' ∧
          (∃ (i : Nat) (q : Option Addr) (c : Nat), t' = ((q, 2 + i, c), (i : Int), ()) ∧ i ≤ 14 ∧ Ow 5 1 w.heap.size w' q (2 + i) c (bv ((packB ino name).take (2 + i))) ∧ Below w.heap.size w w') ∧ 14 - t'.2.1.toNat < 14 - (i : Int).toNat := fun o b =>
      ⟨((_, _, _), ((i + 1 : Nat) : Int), ()), by rw [step1 hlt (by omega)]; rfl, ⟨i + 1, _, _, rfl, hlt, o, b⟩, by
        show 14 - (((i + 1 : Nat) : Int)).toNat < 14 - (i : Int).toNat
        omega⟩
    refine c_dec (fun h => ?_) (fun h => ?_)
    · have h : i < (name.take 14).length := by omega
      rw [if_pos h] at hp
      have hg : (name.take 14)[i]? = some ((name.take 14).getD i 0) := by
        rw [List.getD_eq_getElem?_getD, List.getElem?_eq_getElem h]; rfl
      refine ⟨Int.natCast_nonneg i, _, by rw [Int.toNat_natCast, str_get]; exact hg, ?_⟩
      refine o.push z2 kBs kB rfl (by decide) (fun u hu => by simp [Value.cells] at hu; rw [hu]; rfl) (by omega) (by unfold maxLen; omega) fun q' c' w' h1 h2 _ => ?_
      refine leaf ?_ (b2.trans h2)
      rw [take_snoc hp, bv_app]
      exact h1
    · have h : ¬ i < (name.take 14).length := by omega
      rw [if_neg h] at hp
      refine o.push z2 kBs kB rfl (by decide) (fun u hu => by simp [Value.cells] at hu; rw [hu]; rfl) (by omega) (by unfold maxLen; omega) fun q' c' w' h1 h2 _ => ?_
      refine leaf ?_ (b2.trans h2)
      rw [take_snoc hp, bv_app]
      exact h1
  · have hge : i = 14 := by
      have : ¬ (i : Int) < 14 := hge
      omega
    subst hge
    rw [List.take_of_length_le (by rw [packB_len]; omega)] at o
    exact ⟨q, c, rfl, o, b2⟩
end Go.Proofs.YthkcdkldpbndnaaDoor
