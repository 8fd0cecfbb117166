/- Lists of texts compared; entries read and laid down: the program's and the document's. No condition. -/
import Derived.Test.YthkcdkldpbndnaaDoorSa
import Derived.Test.YthkcdkldpbndnaaDoorHv
set_option linter.unusedVariables false
namespace Go.Proofs.YthkcdkldpbndnaaDoor
open Go.RowKit Go.Hx
theorem c_Texts {xb yb : Option Addr} {xl xc yl yc : Nat} {xs ys : List (List UInt8)} {w : World} (hx : Rd 1 w xb xl (sv xs)) (hy : Rd 1 w yb yl (sv ys)) (hm : xl ≤ maxLen) :
    Calls Tryd.prog 17 #[.slice xb xl xc, .slice yb yl yc] w (Ret fun v w' => v = .bool (decide (xs = ys)) ∧ Below w.heap.size w w') := by
  refine W17_ok _ _ _ _ _ _ w _ ?_
  have lx : xs.length = xl := by have := hx.len; rw [sv_length, Nat.mul_one] at this; exact this
  have ly : ys.length = yl := by have := hy.len; rw [sv_length, Nat.mul_one] at this; exact this
  refine c_ne (fun h => ⟨?_, Below.refl _ _⟩) (fun h => ?_)
  · rw [decide_eq_false]; rintro rfl; omega
  refine ⟨fun t w' => ∃ i : Nat, t = ((i : Int), ()) ∧ i ≤ xl ∧ xs.take i = ys.take i ∧ Below w.heap.size w w', fun t _ => xl - t.1.toNat, ⟨(((0 : Nat) : Int), ()), rfl, 0, rfl, Nat.zero_le _, by simp, Below.refl _ _⟩, ?_⟩
  rintro _ _ w1 ⟨i, rfl, hi, he, hb⟩
  refine c_dec (fun hlt => ?_) (fun hge => ?_)
  · have hlt : i < xl := by simpa using hlt
    have b1 : Below w.heap.size w w1.drew := hb.trans (below_drew _ _)
    refine rd_str (hx.below b1) hlt fun a ha => ?_
    refine rd_str (hy.below b1) (by omega) fun b hb' => ?_
    rw [strEq_str]
    refine c_ndec (fun hne => ⟨?_, b1⟩) (fun hab => ?_)
    · rw [decide_eq_false]
      rintro rfl
      rw [ha] at hb'; cases hb'; exact hne rfl
    · have hab : a = b := hab
      subst hab
      refine ⟨(((i + 1 : Nat) : Int), ()), by (try dsimp only); rw [step1 hlt (by unfold maxLen at hm; omega)]; rfl, ⟨i + 1, rfl, hlt, by rw [takeL_snoc ha, takeL_snoc hb', he], b1⟩, ?_⟩
      show xl - (((i + 1 : Nat) : Int)).toNat < xl - (i : Int).toNat
      omega
  · refine ⟨?_, hb⟩
    have hge : ¬ i < xl := by simpa using hge
    rw [decide_eq_true]
    rwa [List.take_of_length_le (by omega), List.take_of_length_le (by omega)] at he
/-! ### Entries read -/
def dirC (ino : Int) (name : List UInt8) : Array Value := #[.int .i64 ino, .string (str name)]
theorem bldE : bldP Tryd.prog 23 [] (.agg (dirC 0 [])) := fun w => by kernel_rfl
theorem bldD (a : Int) (s : ByteArray) : bldP Tryd.prog 23 [(0, .int .i64 a), (1, .string s)] (.agg #[.int .i64 a, .string s]) := fun w => by kernel_rfl
theorem eq_Dir (a b : Int) (s t : List UInt8) : AggEq Tryd.prog 23 (dirC a s) (dirC b t) (decide (a = b ∧ s = t)) := by
  have hx : conf [.int .i64, .str] [.int .i64 a, .string (str s)] := ⟨⟨a, rfl⟩, ⟨_, rfl⟩, trivial⟩
  have hy : conf [.int .i64, .str] [.int .i64 b, .string (str t)] := ⟨⟨b, rfl⟩, ⟨_, rfl⟩, trivial⟩
  have h1 := aggEq_of (P := Tryd.prog) (t := 23) (ks := [.int .i64, .str]) (D := 3) (by decide) (by kernel_rfl) (by kernel_rfl) hx hy
  have e : leq [.int .i64 a, .string (str s)] [.int .i64 b, .string (str t)] = decide (a = b ∧ s = t) := by
    rw [Bool.eq_iff_iff, leq_iff hx hy, decide_eq_true_eq]
    constructor
    · intro h
      simp only [List.cons.injEq, Value.int.injEq, Value.string.injEq, true_and, and_true] at h
      exact ⟨h.1, str_inj h.2⟩
    · rintro ⟨rfl, rfl⟩; rfl
  rw [← e]
  exact h1
def inoOf (xs : List UInt8) : Int := (((xs.getD 0 0).toNat + 256 * (xs.getD 1 0).toNat : Nat) : Int)
def UnpQ (xs : List UInt8) (w : World) (v : Value) (w' : World) : Prop :=
  (if xs.length = 16 then v = .tuple #[.agg (dirC (inoOf xs) (ahead (xs.drop 2) 0)), .bool true] else v = .tuple #[.agg (dirC 0 []), .bool false]) ∧ Below w.heap.size w w'
theorem getD_some {α : Type} {xs : List α} {i : Nat} {b d : α} (h : xs[i]? = some b) : xs.getD i d = b := by
  rw [List.getD_eq_getElem?_getD, h]; rfl
theorem or_bytes (a b : UInt8) : IntKind.i64.wrap (((BitVec.ofInt IntKind.i64.bits (IntKind.i64.wrap ((a.toNat : Nat) : Int)) ||| BitVec.ofInt IntKind.i64.bits (IntKind.i64.wrap ((IntKind.i64.wrap ((b.toNat : Nat) : Int)) * 2 ^ min (8 : Int).toNat IntKind.i64.bits))).toNat : Nat)) = ((a.toNat + 256 * b.toNat : Nat) : Int) := by
  have ha := a.toNat_lt
  have hb := b.toNat_lt
  have e8 : (2 : Int) ^ min (8 : Int).toNat IntKind.i64.bits = 256 := by decide
  rw [e8, wrap_in (n := ((a.toNat : Nat) : Int)) (by omega) (by omega), wrap_in (n := ((b.toNat : Nat) : Int)) (by omega) (by omega), wrap_in (n := ((b.toNat : Nat) : Int) * 256) (by omega) (by omega)]
  have e : (BitVec.ofInt IntKind.i64.bits ((a.toNat : Nat) : Int) ||| BitVec.ofInt IntKind.i64.bits (((b.toNat : Nat) : Int) * 256)).toNat = a.toNat + 256 * b.toNat := by
    show (BitVec.ofInt 64 ((a.toNat : Nat) : Int) ||| BitVec.ofInt 64 (((b.toNat : Nat) : Int) * 256)).toNat = _
    rw [BitVec.toNat_or, BitVec.toNat_ofInt, BitVec.toNat_ofInt]
    have h1 : (((a.toNat : Nat) : Int) % ((2 ^ 64 : Nat) : Int)).toNat = a.toNat := by omega
    have h2 : ((((b.toNat : Nat) : Int) * 256) % ((2 ^ 64 : Nat) : Int)).toNat = b.toNat * 256 := by omega
    rw [h1, h2, Nat.or_comm]
    have h3 := Nat.shiftLeft_add_eq_or_of_lt (a := b.toNat) (b := a.toNat) (i := 8) (by omega)
    rw [Nat.shiftLeft_eq] at h3
    have h4 : b.toNat * 256 ||| a.toNat = b.toNat * 256 + a.toNat := h3.symm
    rw [h4]; omega
  rw [e, wrap_in (by omega) (by omega)]
theorem c_Unpack {xb : Option Addr} {xl xc : Nat} {xs : List UInt8} {w : World} (hx : Rd 1 w xb xl (bv xs)) (hc : xl ≤ xc) : Calls Tryd.prog 15 #[.slice xb xl xc] w (Ret (UnpQ xs w)) := by
  have lx : xs.length = xl := by have := hx.len; rw [bv_length, Nat.mul_one] at this; exact this
  refine W15_ok _ _ _ w _ (newW_intro fun a1 w1 k1 l1 b1 => c_ne (fun h => ⟨_, bldE, stW_intro k1 fun w2 k2 m2 s2 => ⟨_, rfl, row_whole k2, ?_⟩⟩) (fun h => ⟨⟨by decide, by omega⟩, ?_⟩))
  · unfold UnpQ
    rw [if_neg (by omega)]
    exact ⟨rfl, b1.trans (m2.below b1.size l1)⟩
  · have h16 : xl = 16 := by omega
    have hx1 := hx.below b1
    have z1 := b1.size
    have hd := hx1.drop (i := 2) (c := xc) (by omega) hc
    rw [bv_drop] at hd
    refine ⟨_, rd_string (e := 5) (xs := xs.drop 2) hd (by kernel_rfl) (by kernel_rfl) (by kernel_rfl), ?_⟩
    rw [str_lit #[0]]
    refine (c_Cut (xs.drop 2) 0 w1 (by rw [List.length_drop]; omega)).mono ?_
    rintro _ w2 ⟨_, rfl, r, b, rfl, b2⟩
    have z2 := b2.size
    refine ⟨_, _, _, rfl, ?_⟩
    have B2 := b1.trans (b2.mono z1)
    have hx2 : Rd 1 w2.drew xb xl (bv xs) := (hx.below B2).drew
    refine hx2.at1 (i := 0) (by omega) fun p v _ hv hcell => ⟨fun w' => w' = w2.drew, rfl, ?_⟩
    rw [bv_get] at hv
    obtain ⟨u, hu, rfl⟩ := Option.map_eq_some_iff.1 hv
    refine ⟨((u.toNat : Nat) : Int), fun w' e => by rw [e]; exact hcell, ?_⟩
    refine hx2.at1 (i := 1) (by omega) fun p' v' _ hv' hcell' => ?_
    rw [bv_get] at hv'
    obtain ⟨u', hu', rfl⟩ := Option.map_eq_some_iff.1 hv'
    refine ⟨((u'.toNat : Nat) : Int), fun w' e => (by rw [e]; exact hcell'), by decide, ?_⟩
    rw [or_bytes]
    have k12 := below_blk b2 k1.lt k1
    refine ⟨_, bldD _ _, stW_intro k12.drew fun w3 k3 m3 s3 => ⟨_, rfl, row_whole k3, ?_⟩⟩
    unfold UnpQ
    rw [if_pos (by omega)]
    refine ⟨?_, (B2.trans (below_drew _ _)).trans (m3.below (by show w.heap.size ≤ w2.heap.size; omega) l1)⟩
    unfold inoOf
    rw [getD_some hu, getD_some hu']
    rfl
theorem ahead_take {s : List UInt8} {c : UInt8} {i : Nat} (h1 : ∀ j b, j < i → s[j]? = some b → b ≠ c) (h2 : i = s.length ∨ s[i]? = some c) : s.take i = ahead s c := by
  induction s generalizing i with
  | nil => simp [ahead]
  | cons x r ih =>
    cases i with
    | zero =>
      have : x = c := by simpa using h2
      subst this
      simp [ahead, idx, Go.Lib.indexByte]
    | succ i =>
      have hx : ¬ (x == c) = true := fun h => h1 0 x (by omega) rfl (by simpa using h)
      have h3 := ih (i := i) (fun j b hj hb => h1 (j + 1) b (by omega) (by simpa using hb)) (by simpa using h2)
      rw [List.take_succ_cons, h3]
      have hg := Go.Lib.indexByte_ge r c
      unfold ahead idx
      conv => rhs; unfold Go.Lib.indexByte
      rw [if_neg hx]
      by_cases h4 : (Go.Lib.indexByte r c == -1) = true
      · rw [if_pos h4]
        have : Go.Lib.indexByte r c = -1 := by simpa using h4
        rw [if_pos (by omega), if_pos (by omega)]
      · rw [if_neg h4]
        have : Go.Lib.indexByte r c ≠ -1 := by simpa using h4
        rw [if_neg (by omega), if_neg (by omega), show (Go.Lib.indexByte r c + 1).toNat = (Go.Lib.indexByte r c).toNat + 1 by omega]
        rfl
theorem c_refUnpack {xb : Option Addr} {xl xc : Nat} {xs : List UInt8} {w : World} (hx : Rd 1 w xb xl (bv xs)) (hc : xl ≤ xc) : Calls Tryd.prog 16 #[.slice xb xl xc] w (Ret (UnpQ xs w)) := by
  have lx : xs.length = xl := by have := hx.len; rw [bv_length, Nat.mul_one] at this; exact this
  refine W16_ok _ _ _ w _ (newW_intro fun a1 w1 k1 l1 b1 => c_ne (fun h => ⟨_, bldE, stW_intro k1 fun w2 k2 m2 s2 => ⟨_, rfl, row_whole k2, ?_⟩⟩) (fun h => ?_))
  · unfold UnpQ
    rw [if_neg (by omega)]
    exact ⟨rfl, b1.trans (m2.below b1.size l1)⟩
  · have h16 : xl = 16 := by omega
    have z1 := b1.size
    have hx1 := hx.below b1
    refine ⟨fun t w' => ∃ n : Nat, t = ((n : Int), ()) ∧ 2 ≤ n ∧ n ≤ 16 ∧ w1 = w' ∧ (xs.drop 2).take (n - 2) = ahead (xs.drop 2) 0, ?_, ?_⟩
    · rintro _ _ _ ⟨n, rfl, h2, hn, rfl, he⟩
      have hx2 : Rd 1 w1.drew xb xl (bv xs) := hx1.drew
      refine hx2.at1 (i := 0) (by omega) fun p v _ hv hcell => ⟨fun w' => w' = w1.drew, rfl, ?_⟩
      rw [bv_get] at hv
      obtain ⟨u, hu, rfl⟩ := Option.map_eq_some_iff.1 hv
      refine ⟨((u.toNat : Nat) : Int), fun w' e => by rw [e]; exact hcell, ?_⟩
      refine hx2.at1 (i := 1) (by omega) fun p' v' _ hv' hcell' => ?_
      rw [bv_get] at hv'
      obtain ⟨u', hu', rfl⟩ := Option.map_eq_some_iff.1 hv'
      refine ⟨((u'.toNat : Nat) : Int), fun w' e => (by rw [e]; exact hcell'), ?_⟩
      dsimp only
      rw [Int.toNat_natCast]
      refine ⟨⟨by omega, by omega⟩, ⟨by decide, by omega⟩, str (ahead (xs.drop 2) 0), fun w' e => ?_, ?_⟩
      · rw [e]
        have ht := (hx2.take (i := n) (by omega))
        rw [bv_take] at ht
        by_cases h2n : n = 2
        · subst h2n
          have e0 : ahead (xs.drop 2) 0 = [] := by rw [← he]; rfl
          rw [e0]
          have hr : Rd 1 w1.drew (slB xb 2 xc 1) 0 (bv []) := Rd.empty 1 _ _
          exact rd_string (e := 5) (xs := []) hr (by kernel_rfl) (by kernel_rfl) (by kernel_rfl)
        · have hd := ht.drop (i := 2) (c := xc) (by omega) (by omega)
          rw [bv_drop] at hd
          have e0 : (xs.take n).drop 2 = ahead (xs.drop 2) 0 := by rw [← he, List.drop_take]
          rw [e0] at hd
          exact rd_string (e := 5) hd (by kernel_rfl) (by kernel_rfl) (by kernel_rfl)
      · have hu1 := u.toNat_lt
        have hu2 := u'.toNat_lt
        have e1 : IntKind.i64.wrap (IntKind.i64.wrap ((u.toNat : Nat) : Int) + IntKind.i64.wrap ((256 : Int) * IntKind.i64.wrap ((u'.toNat : Nat) : Int))) = ((u.toNat + 256 * u'.toNat : Nat) : Int) := by
          rw [wrap_in (n := ((u.toNat : Nat) : Int)) (by omega) (by omega), wrap_in (n := ((u'.toNat : Nat) : Int)) (by omega) (by omega), wrap_in (n := (256 : Int) * ((u'.toNat : Nat) : Int)) (by omega) (by omega), wrap_in (by omega) (by omega)]
          omega
        rw [e1]
        refine ⟨_, bldD _ _, stW_intro k1.drew fun w3 k3 m3 s3 => ⟨_, rfl, row_whole k3, ?_⟩⟩
        unfold UnpQ
        rw [if_pos (by omega)]
        refine ⟨?_, (b1.trans (below_drew _ _)).trans (m3.below (by show w.heap.size ≤ w1.heap.size; omega) l1)⟩
        unfold inoOf
        rw [getD_some hu, getD_some hu']
        rfl
    · refine ⟨fun t w' => ∃ n : Nat, t = ((n : Int), ()) ∧ 2 ≤ n ∧ n ≤ 16 ∧ w1 = w' ∧ ∀ j b, j < n - 2 → (xs.drop 2)[j]? = some b → b ≠ 0, fun t _ => 16 - t.1.toNat, ⟨(((2 : Nat) : Int), ()), rfl, 2, rfl, by omega, by omega, rfl, fun j b hj => by omega⟩, ?_⟩
      rintro _ _ _ ⟨n, rfl, h2, hn, rfl, hz⟩
      refine c_dec (fun hlt => ?_) (fun hge => ?_)
      · have hlt : n < 16 := by
          have : (n : Int) < 16 := hlt
          omega
        refine rd_byte hx1 (by omega) fun b hb => c_ne (fun h0 => ?_) (fun h0 => ?_)
        · refine ⟨(((n + 1 : Nat) : Int), ()), by (try dsimp only); rw [step1 hlt (by omega)]; rfl, ⟨n + 1, rfl, by omega, by omega, rfl, fun j b' hj hb' => ?_⟩, ?_⟩
          · rcases Nat.lt_or_ge j (n - 2) with h | h
            · exact hz j b' h hb'
            · rw [List.getElem?_drop, show 2 + j = n by omega, hb] at hb'
              cases hb'
              rintro rfl
              exact h0 rfl
          · show 16 - (((n + 1 : Nat) : Int)).toNat < 16 - (n : Int).toNat
            omega
        · refine ⟨((n : Int), ()), rfl, n, rfl, h2, hn, rfl, ahead_take hz (.inr ?_)⟩
          rw [List.getElem?_drop, show 2 + (n - 2) = n by omega, hb]
          congr 1
          exact UInt8.toNat_inj.1 (by show _ = 0; omega)
      · have hge : n = 16 := by
          have : ¬ (n : Int) < 16 := hge
          omega
        refine ⟨((n : Int), ()), rfl, n, rfl, h2, hn, rfl, ahead_take hz (.inl ?_)⟩
        rw [List.length_drop]; omega
end Go.Proofs.YthkcdkldpbndnaaDoor
