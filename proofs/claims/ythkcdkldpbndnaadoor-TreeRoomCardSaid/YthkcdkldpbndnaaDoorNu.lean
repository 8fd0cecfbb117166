/- The law TreeNobody, walked; what laws on a call are handed. No condition. -/
import Derived.Test.YthkcdkldpbndnaaDoorNt
import Derived.Test.YthkcdkldpbndnaaDoorHt
set_option linter.unusedVariables false
namespace Go.Proofs.YthkcdkldpbndnaaDoor
open Go.RowKit Go.Hx Go.WideShapes
def opC (k cwd ino : Int) (path : ByteArray) (ty ma mi off n : Int) (q : Option Addr) (m c : Nat) : Array Value :=
  #[.int .i64 k, .int .i64 cwd, .int .i64 ino, .string path, .int .i64 ty, .int .i16 ma, .int .i16 mi, .int .i64 off, .int .i64 n, .slice q m c]
noncomputable def opF : Array Field := match Tryd.prog.underlying 126 with | some (.struct f) => f | _ => #[]
set_option maxRecDepth 100000 in
theorem arg_op {H : Type} {enc : TypeId × Value → H} {W : World} {v : Value} (h : ArgIs enc Tryd.prog W 126 v) :
    ∃ (k cwd ino : Int) (path : ByteArray) (ty ma mi off n : Int) (q : Option Addr) (m c : Nat) (xs : List UInt8), v = .agg (opC k cwd ino path ty ma mi off n q m c) ∧ path.size ≤ 140737488351232 ∧ Rd 1 W q m (bv xs) ∧ m ≤ 140737488351232 ∧ m ≤ c := by
  obtain ⟨cs, rfl, hl, hf⟩ := arg_cells (fs := opF) (tl := [3, 3, 3, 9, 3, 46, 46, 3, 3, 24]) h (by kernel_rfl) (by kernel_rfl) (by kernel_rfl) (by kernel_rfl)
  match cs, hl with
  | [c0, c1, c2, c3, c4, c5, c6, c7, c8, c9], _ =>
    have int : ∀ i u (k : IntKind) c, Tryd.prog.underlying u = some (.int k) → ([3, 3, 3, 9, 3, 46, 46, 3, 3, 24] : List TypeId)[i]? = some u → [c0, c1, c2, c3, c4, c5, c6, c7, c8, c9][i]? = some c → ∃ n, c = Value.int k n := fun i u k c hu hi hc => by
      obtain ⟨c', x, m, e, r, _⟩ := hf i u hi
      rw [hc] at e
      cases e
      obtain ⟨n, hn, _⟩ := DataW.trod_int hu r
      exact ⟨n, by simpa using hn⟩
    obtain ⟨n0, rfl⟩ := int 0 _ .i64 _ (by kernel_rfl) rfl rfl
    obtain ⟨n1, rfl⟩ := int 1 _ .i64 _ (by kernel_rfl) rfl rfl
    obtain ⟨n2, rfl⟩ := int 2 _ .i64 _ (by kernel_rfl) rfl rfl
    obtain ⟨n4, rfl⟩ := int 4 _ .i64 _ (by kernel_rfl) rfl rfl
    obtain ⟨n5, rfl⟩ := int 5 _ .i16 _ (by kernel_rfl) rfl rfl
    obtain ⟨n6, rfl⟩ := int 6 _ .i16 _ (by kernel_rfl) rfl rfl
    obtain ⟨n7, rfl⟩ := int 7 _ .i64 _ (by kernel_rfl) rfl rfl
    obtain ⟨n8, rfl⟩ := int 8 _ .i64 _ (by kernel_rfl) rfl rfl
    obtain ⟨c', x, m, e, r, hw⟩ := hf 3 _ rfl
    cases e
    obtain ⟨s, rfl, hs⟩ := trod_str (by kernel_rfl) r hw
    obtain ⟨c', x, m, e, r, hw⟩ := hf 9 _ rfl
    cases e
    obtain ⟨q, m, c, xs, e, hrd, h4, h5⟩ := trod_bytes (e := 5) (by kernel_rfl) (by kernel_rfl) (by kernel_rfl) (by kernel_rfl) r hw
    have e : c9 = .slice q m c := by simpa using e
    subst e
    exact ⟨n0, n1, n2, s, n4, n5, n6, n7, n8, q, m, c, xs, rfl, hs, hrd, h4, h5⟩
/-! ### The law -/
def treeZ : Array Value := (.pointer none :: (List.replicate 200 [Value.int .i64 0, .int .i16 0, .int .i16 0, .int .i64 0, .int .i64 0, .int .i64 0, .slice none 0 0]).flatten).toArray
set_option maxRecDepth 100000 in
theorem bTree : bldP Tryd.prog 123 [] (.agg treeZ) := fun w => by kernel_rfl
def ramZ : Array Value := #[.slice none 0 0, .map none, .int .u64 0, .int .i64 0]
theorem bRam : bldP Tryd.prog 137 [] (.agg ramZ) := fun w => by kernel_rfl
theorem bslP2 (a b : Option Addr) : bslP Tryd.prog 127 2 [(0, .pointer a), (1, .pointer b)] #[.pointer a, .pointer b] 40 := fun w => by kernel_rfl
set_option maxRecDepth 100000 in
theorem c_nobody (k cwd ino : Int) (path : ByteArray) (ty ma mi off n : Int) (q : Option Addr) (m c : Nat) (w : World) : Calls Tryd.prog 7 #[.agg (opC k cwd ino path ty ma mi off n q m c)] w (Ret fun v w' => v = .bool true ∧ Below w.heap.size w w') := by
  refine W7_ok _ w _ (newW_intro fun a1 w1 k1 l1 b1 => ⟨_, bTree, newW_intro fun a3 w3 k3 l3 b3 => ⟨_, bslP2 _ _, newW_intro fun a5 w5 k5 l5 b5 => ?_⟩⟩)
  have z1 := b1.size
  have z3 := b3.size
  have z5 := b5.size
  have b15 : Below w.heap.size w w5 := (b1.trans (b3.mono z1)).trans (b5.mono (by omega))
  have k15 := below_blk b5 (by have := k1.lt; omega) (below_blk b3 k1.lt k1)
  have k35 := below_blk b5 k3.lt k3
  refine ⟨fun t w' => ∃ i : Nat, t = ((i : Int), ()) ∧ i ≤ 2 ∧ Below w5.heap.size w5 w', fun t _ => 2 - t.1.toNat, ⟨(((0 : Nat) : Int), ()), rfl, 0, rfl, Nat.zero_le _, Below.refl _ _⟩, ?_⟩
  rintro _ _ w6 ⟨i, rfl, hi, b6⟩
  refine c_dec (fun hlt => ?_) (fun hge => ?_)
  · have hlt : i < 2 := by
      have : (i : Int) < 2 := hlt
      omega
    have hp : ∃ p : Option Addr, (#[.pointer none, .pointer (some ⟨a3, 0, none⟩)] : Array Value)[i]? = some (.pointer p) ∧ ∀ w', Below w5.heap.size w5 w' → NoT p w' := by
      match i, hlt with
      | 0, _ => exact ⟨none, rfl, fun w' _ a h => by cases h⟩
      | 1, _ => exact ⟨_, rfl, fun w' b a h => by cases h; exact (below_blk b k35.lt k35).cell rfl⟩
    obtain ⟨p, hp, nt⟩ := hp
    have k16 := fun {w' : World} (b : Below w5.heap.size w5 w') => below_blk b k15.lt k15
    have k56 := below_blk b6 k5.lt k5
    refine ⟨⟨by omega, by omega⟩, p, by rw [Addr.add_lit]; exact k56.cell (by rw [Int.toNat_natCast, Nat.zero_add, Nat.mul_one]; exact hp), cwd, by rw [Addr.add_lit]; exact (k16 b6).cell rfl, path, by rw [Addr.add_lit]; exact (k16 b6).cell rfl, (c_nFind (nt _ b6) _ _).mono ?_⟩
    rintro _ w7 ⟨_, rfl, rfl, h7⟩
    have b7 := b6.trans (h7.mono b6.size)
    refine ⟨_, _, rfl, cwd, by rw [Addr.add_lit]; exact (k16 b7).cell rfl, path, by rw [Addr.add_lit]; exact (k16 b7).cell rfl, ty, by rw [Addr.add_lit]; exact (k16 b7).cell rfl, ma, by rw [Addr.add_lit]; exact (k16 b7).cell rfl, mi, by rw [Addr.add_lit]; exact (k16 b7).cell rfl, (c_nMake (nt _ b7) _ _ _ _ _).mono ?_⟩
    rintro _ w8 ⟨_, rfl, rfl, h8⟩
    have b8 := b7.trans (h8.mono b7.size)
    refine ⟨_, _, rfl, c_ne (fun h => absurd rfl h) (fun _ => c_ne (fun h => absurd rfl h) (fun _ => c_ne (fun h => absurd rfl h) (fun _ => c_ne (fun h => absurd rfl h) (fun _ => ?_))))⟩
    refine ⟨ino, by rw [Addr.add_lit]; exact (k16 b8).cell rfl, cwd, by rw [Addr.add_lit]; exact (k16 b8).cell rfl, path, by rw [Addr.add_lit]; exact (k16 b8).cell rfl, (c_nLink (nt _ b8) _ _ _).mono ?_⟩
    rintro _ w9 ⟨_, rfl, rfl, h9⟩
    have b9 := b8.trans (h9.mono b8.size)
    refine ⟨_, rfl, c_ne (fun h => absurd rfl h) (fun _ => ⟨cwd, by rw [Addr.add_lit]; exact (k16 b9).cell rfl, path, by rw [Addr.add_lit]; exact (k16 b9).cell rfl, (c_nUnlink (nt _ b9) _ _).mono ?_⟩)⟩
    rintro _ w10 ⟨_, rfl, rfl, h10⟩
    have b10 := b9.trans (h10.mono b9.size)
    refine ⟨_, rfl, c_ne (fun h => absurd rfl h) (fun _ => ⟨ino, by rw [Addr.add_lit]; exact (k16 b10).cell rfl, off, by rw [Addr.add_lit]; exact (k16 b10).cell rfl, n, by rw [Addr.add_lit]; exact (k16 b10).cell rfl, (c_nRead (nt _ b10) _ _ _).mono ?_⟩)⟩
    rintro _ w11 ⟨_, rfl, rfl, h11⟩
    have b11 := b10.trans (h11.mono b10.size)
    refine ⟨_, _, _, rfl, c_ne (fun h => absurd rfl h) (fun _ => ⟨ino, by rw [Addr.add_lit]; exact (k16 b11).cell rfl, off, by rw [Addr.add_lit]; exact (k16 b11).cell rfl, q, m, c, by rw [Addr.add_lit]; exact (k16 b11).cell rfl, (c_nWrite (nt _ b11) _ _ _ _ _).mono ?_⟩)⟩
    rintro _ w12 ⟨_, rfl, rfl, h12⟩
    have b12 := b11.trans (h12.mono b11.size)
    refine ⟨_, rfl, c_ne (fun h => absurd rfl h) (fun _ => ⟨ino, by rw [Addr.add_lit]; exact (k16 b12).cell rfl, (c_nTrunc (nt _ b12) _).mono ?_⟩)⟩
    rintro _ w13 ⟨_, rfl, rfl, h13⟩
    have b13 := b12.trans (h13.mono b12.size)
    refine ⟨_, rfl, c_ne (fun h => absurd rfl h) (fun _ => ⟨ino, by rw [Addr.add_lit]; exact (k16 b13).cell rfl, (c_nHold (nt _ b13) _).mono ?_⟩)⟩
    rintro _ w14 ⟨_, rfl, rfl, h14⟩
    have b14 := b13.trans (h14.mono b13.size)
    refine ⟨_, rfl, c_ne (fun h => absurd rfl h) (fun _ => ⟨ino, by rw [Addr.add_lit]; exact (k16 b14).cell rfl, (c_nDrop (nt _ b14) _).mono ?_⟩)⟩
    rintro _ w15 ⟨_, rfl, rfl, h15⟩
    have b15' := b14.trans (h15.mono b14.size)
    refine ⟨_, rfl, c_ne (fun h => absurd rfl h) (fun _ => ⟨ino, by rw [Addr.add_lit]; exact (k16 b15').cell rfl, (c_nStat (nt _ b15') _).mono ?_⟩)⟩
    rintro _ w16 ⟨_, rfl, rfl, h16⟩
    have b16 := b15'.trans (h16.mono b15'.size)
    refine ⟨_, rfl, _, bStat, true, eq_Stat, ?_⟩
    refine ⟨ino, by rw [Addr.add_lit]; exact (k16 b16).cell rfl, (c_nLook (nt _ b16) _).mono ?_⟩
    rintro _ w17 ⟨_, rfl, rfl, h17⟩
    have b17 := b16.trans (h17.mono b16.size)
    refine ⟨_, rfl, 0, rfl, c_ne (fun h => absurd rfl h) (fun _ => ⟨ino, by rw [Addr.add_lit]; exact (k16 b17).cell rfl, (c_nList (nt _ b17) _).mono ?_⟩)⟩
    rintro _ w18 ⟨_, rfl, rfl, h18⟩
    have b18 := b17.trans (h18.mono b17.size)
    refine ⟨_, _, _, rfl, c_ne (fun h => absurd rfl h) (fun _ => (c_nLeft (nt _ b18)).mono ?_)⟩
    rintro _ w19 ⟨_, rfl, rfl, h19⟩
    have b19 := b18.trans (h19.mono b18.size)
    refine ⟨_, rfl, c_ne (fun h => absurd rfl h) (fun _ => ⟨(((i + 1 : Nat) : Int), ()), by (try dsimp only); rw [step1 hlt (by omega)]; rfl, ⟨i + 1, rfl, hlt, b19⟩, ?_⟩)⟩
    show 2 - (((i + 1 : Nat) : Int)).toNat < 2 - (i : Int).toNat
    omega
  · refine (c_New0 (p := none) (fun a h => by cases h)).mono ?_
    rintro _ _ ⟨_, rfl, rfl, rfl⟩
    refine ⟨_, _, rfl, _, bRam, newW_intro fun a57 w7 k7 l7 b7 => (c_New0 (p := some ⟨a57, 0, none⟩) (fun a h => by cases h; exact k7.cell rfl)).mono ?_⟩
    rintro _ _ ⟨_, rfl, rfl, rfl⟩
    exact ⟨_, _, rfl, rfl, b15.trans ((b6.trans (b7.mono b6.size)).mono z5 |>.mono (by omega))⟩
end Go.Proofs.YthkcdkldpbndnaaDoor
