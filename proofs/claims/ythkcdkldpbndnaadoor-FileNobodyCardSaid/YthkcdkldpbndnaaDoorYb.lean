/- A table of files that New did not give; the law FileNobody. No condition. -/
import Derived.Test.YthkcdkldpbndnaaDoorYa
import Derived.Test.YthkcdkldpbndnaaDoorWg
import Derived.Test.YthkcdkldpbndnaaDoorXa
set_option linter.unusedVariables false
namespace Go.Proofs.YthkcdkldpbndnaaDoor
open Go.RowKit Go.Hx
section
variable {p : Option Addr} {w : World}
theorem c_fnone (h : NoT p w) : Calls Tryd.prog 85 #[.pointer p] w (Ret fun v w' => v = .bool true ∧ w = w') := by
  refine W85_ok _ w _ ?_
  cases p with
  | none => exact ⟨rfl, rfl⟩
  | some a => exact ⟨_, h a rfl, rfl, rfl⟩
theorem c_ffile (h : NoT p w) (f : Int) : Calls Tryd.prog 91 #[.pointer p, .int .i64 f] w (Ret fun v w' => v = .tuple #[.pointer none, .int .i64 3] ∧ w = w') := by
  refine W91_ok _ _ w _ ((c_fnone h).mono ?_)
  rintro _ _ ⟨_, rfl, rfl, rfl⟩
  exact ⟨_, rfl, rfl, rfl⟩
theorem c_nOpen (h : NoT p w) (i : Int) (a b : Bool) : Calls Tryd.prog 39 #[.pointer p, .int .i64 i, .bool a, .bool b] w (Ret fun v w' => v = .tuple #[.int .i64 0, .int .i64 3] ∧ w = w') := by
  refine W39_ok _ _ _ _ w _ ((c_fnone h).mono ?_)
  rintro _ _ ⟨_, rfl, rfl, rfl⟩
  exact ⟨_, rfl, rfl, rfl⟩
theorem c_nPipe (h : NoT p w) : Calls Tryd.prog 30 #[.pointer p] w (Ret fun v w' => v = .tuple #[.int .i64 0, .int .i64 0, .int .i64 3] ∧ w = w') := by
  refine W30_ok _ w _ ((c_fnone h).mono ?_)
  rintro _ _ ⟨_, rfl, rfl, rfl⟩
  exact ⟨_, rfl, rfl, rfl⟩
theorem c_nFDrop (h : NoT p w) (f : Int) : Calls Tryd.prog 37 #[.pointer p, .int .i64 f] w (Ret fun v w' => v = .tuple #[.slice none 0 0, .int .i64 3] ∧ w = w') := by
  refine W37_ok _ _ w _ ((c_ffile h f).mono ?_)
  rintro _ _ ⟨_, rfl, rfl, rfl⟩
  exact ⟨_, _, rfl, c_ne (fun _ => ⟨rfl, rfl⟩) (fun e => absurd e (by decide))⟩
theorem c_nFHold (h : NoT p w) (f : Int) : Calls Tryd.prog 42 #[.pointer p, .int .i64 f] w (Ret fun v w' => v = .int .i64 3 ∧ w = w') := by
  refine W42_ok _ _ w _ ((c_ffile h f).mono ?_)
  rintro _ _ ⟨_, rfl, rfl, rfl⟩
  exact ⟨_, _, rfl, c_ne (fun _ => ⟨rfl, rfl⟩) (fun e => absurd e (by decide))⟩
theorem c_nFLeft (h : NoT p w) : Calls Tryd.prog 41 #[.pointer p] w (Ret fun v w' => v = .tuple #[.int .i64 0, .int .i64 0] ∧ w = w') := by
  refine W41_ok _ w _ ((c_fnone h).mono ?_)
  rintro _ _ ⟨_, rfl, rfl, rfl⟩
  exact ⟨_, rfl, rfl, rfl⟩
theorem c_nFStat (h : NoT p w) (f : Int) : Calls Tryd.prog 40 #[.pointer p, .int .i64 f] w (Ret fun v w' => v = .tuple #[.agg statZ, .int .i64 3] ∧ Below w.heap.size w w') := by
  refine W40_ok _ _ w _ (newW_intro fun a1 w1 k1 l1 b1 => (c_ffile (h.below b1) f).mono ?_)
  rintro _ _ ⟨_, rfl, rfl, rfl⟩
  exact ⟨_, _, rfl, c_ne (fun _ => ⟨_, bStat, stW_intro k1 fun w2 k2 m2 s2 => ⟨_, rfl, row_whole k2, rfl, b1.trans (m2.below b1.size l1)⟩⟩) (fun e => absurd e (by decide))⟩
def pipeLZ : Array Value := #[.int .i64 0, .slice none 0 0, .int .u32 0, .int .u32 0, .bool false, .bool false]
theorem bPipeL : bldP Tryd.prog 80 [] (.agg pipeLZ) := fun w => by kernel_rfl
theorem c_nPipes (h : NoT p w) (f : Int) : Calls Tryd.prog 38 #[.pointer p, .int .i64 f] w (Ret fun v w' => v = .tuple #[.agg pipeLZ, .bool false] ∧ Below w.heap.size w w') := by
  refine W38_ok _ _ w _ (newW_intro fun a1 w1 k1 l1 b1 => ⟨fun t' w' => t' = (true, ()) ∧ w1 = w', ?_, (c_fnone (h.below b1)).mono ?_⟩)
  · rintro _ _ _ ⟨rfl, rfl⟩
    exact ⟨_, bPipeL, stW_intro k1 fun w2 k2 m2 s2 => ⟨_, rfl, row_whole k2, rfl, b1.trans (m2.below b1.size l1)⟩⟩
  · rintro _ _ ⟨_, rfl, rfl, rfl⟩
    exact ⟨_, rfl, _, rfl, rfl, rfl⟩
def fileLZ : Array Value := #[.int .i64 0, .int .i64 0, .int .i64 0, .bool false, .bool false, .int .i64 0, .int .i64 0, .int .i64 0]
theorem bFileL : bldP Tryd.prog 61 [] (.agg fileLZ) := fun w => by kernel_rfl
theorem c_nFLook (h : NoT p w) (f : Int) : Calls Tryd.prog 31 #[.pointer p, .int .i64 f] w (Ret fun v w' => v = .agg fileLZ ∧ Below w.heap.size w w') := by
  refine W31_ok _ _ w _ (newW_intro fun a1 w1 k1 l1 b1 => (c_ffile (h.below b1) f).mono ?_)
  rintro _ _ ⟨_, rfl, rfl, rfl⟩
  exact ⟨_, _, rfl, c_ne (fun _ => ⟨_, bFileL, stW_intro k1 fun w2 k2 m2 s2 => ⟨_, rfl, row_whole k2, rfl, b1.trans (m2.below b1.size l1)⟩⟩) (fun e => absurd e (by decide))⟩
def gotBad : GotD := ⟨3, [], (0, 0), []⟩
def sentBad : SentD := ⟨3, 0, [], (0, 0), []⟩
theorem bGot (n : Int) : bldP Tryd.prog 71 [(0, .int .i64 n)] (.agg (gotC ⟨n, [], (0, 0), []⟩ none 0 none 0)) := fun w => by kernel_rfl
theorem bSent (n : Int) : bldP Tryd.prog 67 [(0, .int .i64 n)] (.agg (sentC ⟨n, 0, [], (0, 0), []⟩ none 0 none 0)) := fun w => by kernel_rfl
theorem c_nfgot (h : NoT p w) (f n : Int) (tk : Bool) : Calls Tryd.prog 92 #[.pointer p, .int .i64 f, .int .i64 n, .bool tk] w (Ret fun v w' => v = .agg (gotC gotBad none 0 none 0) ∧ Below w.heap.size w w') := by
  refine W92_ok _ _ _ _ w _ (newW_intro fun a1 w1 k1 l1 b1 => (c_ffile (h.below b1) f).mono ?_)
  rintro _ _ ⟨_, rfl, rfl, rfl⟩
  refine ⟨_, _, rfl, fun t' w' => t' = (true, ()) ∧ w1 = w', ?_, c_ne (fun _ => ⟨_, rfl, rfl, rfl⟩) (fun e => absurd e (by decide))⟩
  rintro _ _ _ ⟨rfl, rfl⟩
  exact ⟨_, bGot 3, stW_intro k1 fun w2 k2 m2 s2 => ⟨_, rfl, row_whole k2, rfl, b1.trans (m2.below b1.size l1)⟩⟩
theorem c_nFRead (h : NoT p w) (f n : Int) : Calls Tryd.prog 35 #[.pointer p, .int .i64 f, .int .i64 n] w (Ret fun v w' => v = .agg (gotC gotBad none 0 none 0) ∧ Below w.heap.size w w') := by
  refine W35_ok _ _ _ w _ (newW_intro fun a1 w1 k1 l1 b1 => (c_nfgot (h.below b1) f n true).mono ?_)
  rintro _ w2 ⟨_, rfl, rfl, b2⟩
  exact ⟨_, rfl, stW_intro (below_blk b2 k1.lt k1) fun w3 k3 m3 s3 => ⟨_, rfl, row_whole k3, rfl, (b1.trans (b2.mono b1.size)).trans (m3.below (Nat.le_trans b1.size b2.size) l1)⟩⟩
theorem c_nFPeek (h : NoT p w) (f n : Int) : Calls Tryd.prog 34 #[.pointer p, .int .i64 f, .int .i64 n] w (Ret fun v w' => v = .agg (gotC gotBad none 0 none 0) ∧ Below w.heap.size w w') := by
  refine W34_ok _ _ _ w _ (newW_intro fun a1 w1 k1 l1 b1 => (c_nfgot (h.below b1) f n false).mono ?_)
  rintro _ w2 ⟨_, rfl, rfl, b2⟩
  exact ⟨_, rfl, stW_intro (below_blk b2 k1.lt k1) fun w3 k3 m3 s3 => ⟨_, rfl, row_whole k3, rfl, (b1.trans (b2.mono b1.size)).trans (m3.below (Nat.le_trans b1.size b2.size) l1)⟩⟩
theorem c_nFWrite (h : NoT p w) (f : Int) (q : Option Addr) (n c : Nat) : Calls Tryd.prog 32 #[.pointer p, .int .i64 f, .slice q n c] w (Ret fun v w' => v = .agg (sentC sentBad none 0 none 0) ∧ Below w.heap.size w w') := by
  refine W32_ok _ _ _ _ _ w _ (newW_intro fun a1 w1 k1 l1 b1 => (c_ffile (h.below b1) f).mono ?_)
  rintro _ _ ⟨_, rfl, rfl, rfl⟩
  refine ⟨_, _, rfl, fun t' w' => t' = (true, ()) ∧ w1 = w', ?_, c_ne (fun _ => ⟨_, rfl, rfl, rfl⟩) (fun e => absurd e (by decide))⟩
  rintro _ _ _ ⟨rfl, rfl⟩
  exact ⟨_, bSent 3, stW_intro k1 fun w2 k2 m2 s2 => ⟨_, rfl, row_whole k2, rfl, b1.trans (m2.below b1.size l1)⟩⟩
end
theorem gotBad_at (w : World) : GotAt w gotBad none none := ⟨Rd.empty _ _ _, Rd.empty _ _ _⟩
theorem sentBad_at (w : World) : SentAt w sentBad none none := ⟨Rd.empty _ _ _, Rd.empty _ _ _⟩
def kFL : List Kd := [.int .i64, .int .i64, .int .i64, .bool, .bool, .int .i64, .int .i64, .int .i64]
theorem eq_FileLZ : AggEq Tryd.prog 61 fileLZ fileLZ true := by
  have hx : conf kFL fileLZ.toList := ⟨⟨_, rfl⟩, ⟨_, rfl⟩, ⟨_, rfl⟩, ⟨_, rfl⟩, ⟨_, rfl⟩, ⟨_, rfl⟩, ⟨_, rfl⟩, ⟨_, rfl⟩, trivial⟩
  have h1 := aggEq_of (P := Tryd.prog) (t := 61) (ks := kFL) (D := 3) (by decide) (by kernel_rfl) (by kernel_rfl) hx hx
  have e : leq fileLZ.toList fileLZ.toList = true := by rw [leq_iff hx hx]
  rw [e] at h1
  exact h1
def filesZ : Array Value := #[.pointer none, .pointer none, .slice none 0 0, .slice none 0 0, .nilFunc, .nilFunc, .nilFunc, .nilFunc, .nilFunc, .nilFunc, .nilFunc, .nilFunc, .nilFunc, .nilFunc, .nilFunc, .nilFunc]
theorem bFiles : bldP Tryd.prog 97 [] (.agg filesZ) := fun w => by kernel_rfl
theorem bslF2 (a b : Option Addr) : bslP Tryd.prog 98 2 [(0, .pointer a), (1, .pointer b)] #[.pointer a, .pointer b] 55 := fun w => by kernel_rfl
def conZ : Array Value := (Value.bool true :: (List.replicate 128 (Value.int .u8 0) ++ [.int .i64 0, .int .i64 0])).toArray
theorem bCon : bldP Tryd.prog 202 [(0, .bool true)] (.agg conZ) := fun w => by kernel_rfl
theorem c_conNew (w : World) : Calls Tryd.prog 47 #[] w (Ret fun v w' => ∃ b, v = rp b ∧ Blk w' b conZ 202 ∧ w.heap.size ≤ b ∧ Below w.heap.size w w') :=
  W47_ok w _ ⟨_, bCon, newW_intro fun a2 w2 k2 l2 b2 => ⟨a2, rfl, k2, l2, b2⟩⟩
set_option maxRecDepth 100000 in
theorem c_fileNobody (f n : Int) (q : Option Addr) (m c : Nat) (w : World) : Calls Tryd.prog 6 #[.int .i64 f, .int .i64 n, .slice q m c] w (Ret fun v w' => v = .bool true ∧ Below w.heap.size w w') := by
  refine W6_ok _ _ _ _ _ w _ ⟨_, bFiles, newW_intro fun a3 w3 k3 l3 b3 => ⟨_, bslF2 _ _, newW_intro fun a5 w5 k5 l5 b5 => ?_⟩⟩
  have z3 := b3.size
  have z5 := b5.size
  have b15 : Below w.heap.size w w5 := b3.trans (b5.mono z3)
  have k35 := below_blk b5 k3.lt k3
  refine ⟨fun t w' => ∃ i : Nat, t = ((i : Int), ()) ∧ i ≤ 2 ∧ Below w5.heap.size w5 w', fun t _ => 2 - t.1.toNat, ⟨(((0 : Nat) : Int), ()), rfl, 0, rfl, Nat.zero_le _, Below.refl _ _⟩, ?_⟩
  rintro _ _ w6 ⟨i, rfl, hi, b6⟩
  refine c_dec (fun hlt => ?_) (fun hge => ?_)
  · have hlt : i < 2 := by
      have : (i : Int) < 2 := hlt
      omega
    have hp : ∃ p : Option Addr, (#[.pointer none, .pointer (some ⟨a3, 0, none⟩)] : Array Value)[i]? = some (.pointer p) ∧ ∀ w', Below w5.heap.size w5 w' → NoT p w' := by
      match i, hlt with
      | 0, _ => exact ⟨none, rfl, fun w' _ a h => by cases h⟩
      | 1, _ => exact ⟨_, rfl, fun w' b a h => by cases h; exact (below_blk b k35.lt k35).cell rfl⟩
    obtain ⟨p, hp, nt⟩ := hp
    have k56 := below_blk b6 k5.lt k5
    refine nl ⟨⟨by omega, by omega⟩, p, by rw [Addr.add_lit]; exact k56.cell (by rw [Int.toNat_natCast, Nat.zero_add, Nat.mul_one]; exact hp), (c_nOpen (nt _ b6) _ _ _).mono ?_⟩
    rintro _ _ ⟨_, rfl, rfl, rfl⟩
    refine ⟨_, _, rfl, (c_nPipe (nt _ b6)).mono ?_⟩
    rintro _ _ ⟨_, rfl, rfl, rfl⟩
    refine ⟨_, _, _, rfl, (c_nFDrop (nt _ b6) _).mono ?_⟩
    rintro _ _ ⟨_, rfl, rfl, rfl⟩
    refine ⟨_, _, _, _, rfl, (c_nFStat (nt _ b6) _).mono ?_⟩
    rintro _ w7 ⟨_, rfl, rfl, h7⟩
    have b7 := b6.trans (h7.mono b6.size)
    refine ⟨_, _, rfl, newW_intro fun a20 w8 k8 l8 h8 => stW_intro k8 fun w9 k9 m9 s9 => ?_⟩
    have b8 := b7.trans (h8.mono b7.size)
    have b9 := b8.trans (m9.below b8.size (Nat.le_trans b7.size l8))
    refine (c_nPipes (nt _ b9) _).mono ?_
    rintro _ w10 ⟨_, rfl, rfl, h10⟩
    have b10 := b9.trans (h10.mono b9.size)
    have k10 := below_blk h10 k9.lt k9
    refine ⟨_, _, rfl, newW_intro fun a23 w11 k11 l11 h11 => stW_intro k11 fun w12 k12 m12 s12 => ?_⟩
    have b11 := b10.trans (h11.mono b10.size)
    have b12 := b11.trans (m12.below b11.size (Nat.le_trans b10.size l11))
    have k2012 := m12.blk (show a20 ≠ a23 by have := k10.lt; omega) (below_blk h11 k10.lt k10)
    refine (c_nFLeft (nt _ b12)).mono ?_
    rintro _ _ ⟨_, rfl, rfl, rfl⟩
    refine ⟨_, _, rfl, c_ne (fun h => absurd rfl h) (fun _ => c_ne (fun h => absurd rfl h) (fun _ => c_ne (fun h => absurd rfl h) (fun _ => c_ne (fun h => absurd rfl h) (fun _ => ?_))))⟩
    refine ⟨_, rfl, row_whole k2012, _, bStat, true, eq_Stat, c_nb (fun h => absurd h (by decide)) (fun _ => c_b (fun h => absurd h (by decide)) (fun _ => ⟨_, k12.cell rfl, c_ne (fun h => absurd rfl h) (fun _ => c_ne (fun h => absurd rfl h) (fun _ => c_ne (fun h => absurd rfl h) (fun _ => c_ne (fun h => absurd rfl h) (fun _ => c_ne (fun h => absurd rfl h) (fun _ => c_ne (fun h => absurd rfl h) (fun _ => c_ne (fun h => absurd rfl h) (fun _ => (c_nFHold (nt _ b12) _).mono ?_)))))))⟩))⟩
    rintro _ _ ⟨_, rfl, rfl, rfl⟩
    refine ⟨_, rfl, c_ne (fun h => absurd rfl h) (fun _ => (c_nFLook (nt _ b12) _).mono ?_)⟩
    rintro _ w13 ⟨_, rfl, rfl, h13⟩
    have b13 := b12.trans (h13.mono b12.size)
    refine ⟨_, rfl, _, bFileL, true, eq_FileLZ, c_nb (fun h => absurd h (by decide)) (fun _ => (c_nFRead (nt _ b13) _ _).mono ?_)⟩
    rintro _ w14 ⟨_, rfl, rfl, h14⟩
    have b14 := b13.trans (h14.mono b13.size)
    refine ⟨_, rfl, _, bGot 3, (c_got (gotBad_at _) (h := ⟨3, [], (0, 0), []⟩) (gotBad_at _) (Nat.zero_le _) (Nat.zero_le _)).mono ?_⟩
    rintro _ w15 ⟨_, rfl, rfl, h15⟩
    have b15' := b14.trans (h15.mono b14.size)
    refine ⟨_, rfl, c_nb (fun h => absurd h (by decide)) (fun _ => (c_nFPeek (nt _ b15') _ _).mono ?_)⟩
    rintro _ w16 ⟨_, rfl, rfl, h16⟩
    have b16 := b15'.trans (h16.mono b15'.size)
    refine ⟨_, rfl, _, bGot 3, (c_got (gotBad_at _) (h := ⟨3, [], (0, 0), []⟩) (gotBad_at _) (Nat.zero_le _) (Nat.zero_le _)).mono ?_⟩
    rintro _ w17 ⟨_, rfl, rfl, h17⟩
    have b17 := b16.trans (h17.mono b16.size)
    refine ⟨_, rfl, c_nb (fun h => absurd h (by decide)) (fun _ => (c_nFWrite (nt _ b17) _ _ _ _).mono ?_)⟩
    rintro _ w18 ⟨_, rfl, rfl, h18⟩
    have b18 := b17.trans (h18.mono b17.size)
    refine ⟨_, rfl, _, bSent 3, (c_sent (sentBad_at _) (h := ⟨3, 0, [], (0, 0), []⟩) (sentBad_at _) (Nat.zero_le _) (Nat.zero_le _)).mono ?_⟩
    rintro _ w19 ⟨_, rfl, rfl, h19⟩
    have b19 := b18.trans (h19.mono b18.size)
    refine ⟨_, rfl, c_nb (fun h => absurd h (by decide)) (fun _ => ⟨(((i + 1 : Nat) : Int), ()), by (try dsimp only); rw [step1 hlt (by omega)]; rfl, ⟨i + 1, rfl, hlt, b19⟩, ?_⟩)⟩
    show 2 - (((i + 1 : Nat) : Int)).toNat < 2 - (i : Int).toNat
    omega
  · have b06 := b15.trans (b6.mono b15.size)
    refine (c_ramNew (F := 4) (by decide) (by decide)).mono ?_
    rintro _ w7 ⟨_, rfl, r, mb, hb, fl, bs, rfl, hr, hfl, b7⟩
    have z7 := b7.size
    have b07 := b06.trans (b7.mono b06.size)
    refine ⟨_, _, rfl, true, rfl, c_nb (fun h => absurd h (by decide)) (fun _ => c_b (fun h => by cases h) (fun _ => ?_))⟩
    cases fl with
    | nil => simp at hfl
    | cons f0 fl =>
      rw [List.length_cons] at hfl
      refine (c_TNew hr z7).mono ?_
      rintro _ w8 ⟨_, rfl, t, bs', Q, rfl, ht, h3, hc, kp⟩
      have b8 : Below w6.heap.size w6 w8 := b7.trans (kp.below z7 fun k hk hs => by
        obtain ⟨a, b, c⟩ := hr.lo
        rcases hs with rfl | rfl | rfl <;> omega)
      have b08 := b06.trans (b8.mono b06.size)
      refine ⟨_, _, rfl, c_eq (fun _ => c_nb (fun _ => ?_) (fun h => by cases h)) (fun h => absurd rfl h)⟩
      refine Calls.mono (W46_ok _ _ w8 (fun v w' => v = .pointer none ∧ w8 = w') (c_b (fun h => by cases h) (fun _ => c_b (fun _ => ⟨rfl, rfl⟩) (fun h => absurd h (by decide))))) ?_
      rintro _ _ ⟨_, rfl, rfl, rfl⟩
      refine ⟨_, rfl, c_b (fun _ => (c_conNew w8).mono ?_) (fun h => absurd h (by decide))⟩
      rintro _ w9 ⟨_, rfl, b9, rfl, _, _, h9⟩
      have b09 := b08.trans (h9.mono b08.size)
      refine ⟨_, rfl, Calls.mono (W46_ok _ _ w9 (fun v w' => v = .pointer none ∧ w9 = w') (c_b (fun _ => ⟨rfl, rfl⟩) (fun h => absurd h (by decide)))) ?_⟩
      rintro _ _ ⟨_, rfl, rfl, rfl⟩
      refine ⟨_, rfl, c_b (fun _ => ⟨_, bTree, newW_intro fun a52 w10 k10 l10 h10 => (c_conNew w10).mono ?_⟩) (fun h => absurd h (by decide))⟩
      rintro _ w11 ⟨_, rfl, b11, rfl, _, _, h11⟩
      have k11 := below_blk h11 k10.lt k10
      have b011 := (b09.trans (h10.mono b09.size)).trans (h11.mono (Nat.le_trans b09.size h10.size))
      have nt : NoT (some ⟨a52, 0, none⟩) w11 := fun a ha => by cases ha; exact k11.cell rfl
      refine ⟨_, rfl, Calls.mono (W46_ok _ _ w11 (fun v w' => v = .pointer none ∧ Below w11.heap.size w11 w') (c_b (fun h => by cases h) (fun _ => c_b (fun h => by cases h) (fun _ => (c_nStat nt 1).mono ?_)))) ?_⟩
      · rintro _ w12 ⟨_, rfl, rfl, h12⟩
        exact ⟨_, rfl, 0, rfl, c_eq (fun _ => ⟨rfl, h12⟩) (fun h => absurd rfl h)⟩
      · rintro _ w12 ⟨_, rfl, rfl, h12⟩
        exact ⟨_, rfl, rfl, b011.trans (h12.mono b011.size)⟩
end Go.Proofs.YthkcdkldpbndnaaDoor
