/- One tree: a new one; what a script's step leaves. No condition. -/
import Derived.Test.YthkcdkldpbndnaaDoorVc
import Derived.Test.YthkcdkldpbndnaaDoorXb
set_option linter.unusedVariables false
namespace Go.Proofs.YthkcdkldpbndnaaDoor
open Go.RowKit Go.Hx
theorem sumN_all0 {f : Nat → Nat} : ∀ {n : Nat}, (∀ k, f k = 0) → sumN f n = 0
  | 0, _ => rfl
  | n + 1, h => by
    unfold sumN
    rw [sumN_all0 h, h n]
theorem nd_M0 (j : Nat) : nd M0 j = if j = 1 then rootND else ndZ := by
  unfold M0
  rw [md_set, nd_rep, List.length_replicate]
  by_cases h : j = 1
  · subst h
    rw [if_pos ⟨rfl, by decide⟩, if_pos rfl]
  · rw [if_neg fun hc => h hc.1.symm, if_neg h]
theorem RM_M0 (j : Nat) : RM M0 j = [] := by
  unfold RM
  rw [nd_M0]
  split <;> rfl
theorem VT0 : VT M0 0 := by
  have e1 : ∀ j, j ≠ 1 → nd M0 j = ndZ := fun j hj => by rw [nd_M0, if_neg hj]
  have e2 : nd M0 1 = rootND := by rw [nd_M0, if_pos rfl]
  have hc : ∀ j, cntN (RM M0) j = 0 := fun j => sumN_all0 fun k => by rw [RM_M0]; rfl
  have t1 : ∀ j, tyM M0 j = 1 → j = 1 := fun j h => Classical.byContradiction fun hn => by
    unfold tyM at h
    rw [e1 j hn] at h
    exact absurd h (by decide)
  have t0 : ∀ j, j ≠ 1 → tyM M0 j = 0 := fun j hn => by
    unfold tyM
    rw [e1 j hn]; rfl
  refine ⟨mok_rep.set rootND_ok, ⟨t0 0 (by decide), ?_, fun i _ => RM_M0 i, fun i e he => ?_, fun i => ?_, fun j h0 h1 => ?_, fun i hi _ => ?_, fun j hj hj1 => absurd (t1 j hj) hj1, fun i e he => ?_, ⟨fun _ => 0, fun i e he => ?_⟩, fun j hj1 _ hj => absurd (t0 j hj1) hj, fun j hj => t0 j (by omega)⟩, fun i hi _ => ?_, fun i hi hl => ?_, fun i => ?_⟩
  · unfold tyM lkM upM
    rw [e2]
    exact ⟨rfl, by decide, rfl⟩
  · rw [RM_M0] at he; cases he
  · rw [RM_M0]; exact List.nodup_nil
  · by_cases e : j = 1
    · subst e
      exact absurd (by unfold tyM; rw [e2]; rfl) h1
    · exact absurd (t0 j e) h0
  · have := t1 i hi
    subst this
    rw [RM_M0]
    unfold lkM
    rw [e2]; rfl
  · rw [RM_M0] at he; cases he
  · rw [RM_M0] at he; cases he
  · have := t1 i hi
    subst this
    unfold upM
    rw [e2]
    exact ⟨[], rfl⟩
  · have := t1 i hi
    subst this
    rw [e2] at hl
    exact absurd hl (by decide)
  · by_cases e : i = 1
    · subst e
      rw [e2]; exact .inr (.inl rfl)
    · rw [e1 i e]; exact .inl rfl
section
variable {M : List ND}
theorem VT.drop (h : VT M 0) (n : Nat) (i : Int) (ok : MOk (dropM M n i).1.1) (ok1 : (nd M i.toNat).refs ≠ 0 → MOk (M.set i.toNat { nd M i.toNat with refs := (nd M i.toNat).refs - 1 })) : VT (dropM M n i).1.1 0 := by
  unfold dropM at ok ⊢
  split
  · exact h
  · split
    · exact h
    · rename_i h1 h2
      rw [if_neg h1, if_neg h2] at ok
      have ok1 := ok1 h2
      have g : ∀ j, (nd (M.set i.toNat { nd M i.toNat with refs := (nd M i.toNat).refs - 1 }) j).typ = (nd M j).typ ∧ (nd (M.set i.toNat { nd M i.toNat with refs := (nd M i.toNat).refs - 1 }) j).links = (nd M j).links ∧ (nd (M.set i.toNat { nd M i.toNat with refs := (nd M i.toNat).refs - 1 }) j).dir = (nd M j).dir ∧ (j ≠ i.toNat → (nd (M.set i.toNat { nd M i.toNat with refs := (nd M i.toNat).refs - 1 }) j).refs = (nd M j).refs) := fun j => by
        rw [md_set]
        split
        · rename_i hc
          rw [← hc.1]
          exact ⟨rfl, rfl, rfl, fun hne => absurd rfl hne⟩
        · exact ⟨rfl, rfl, rfl, fun _ => rfl⟩
      generalize M.set i.toNat { nd M i.toNat with refs := (nd M i.toNat).refs - 1 } = M' at *
      have e1 : tyM M' = tyM M := funext fun j => (g j).1
      have e2 : lkM M' = lkM M := funext fun j => (g j).2.1
      have e3 : RM M' = RM M := funext fun j => RM_of (g j).2.2.1
      have e4 : upM M' = upM M := funext fun j => upM_of (g j).2.2.1
      have hX : VT M' i.toNat := by
        refine ⟨ok1, ?_, fun j => ?_, fun j => ?_, fun j => ?_⟩
        · rw [e1, e2, e3, e4]
          refine ⟨h.vp.z, h.vp.root, h.vp.none, h.vp.ent, h.vp.uniq, h.vp.file, h.vp.dirl, h.vp.one, h.vp.par, h.vp.rank, fun j hj1 hjx hj hl0 => ?_, h.vp.big⟩
          show 1 ≤ (nd M' j).refs
          rw [(g j).2.2.2 hjx]
          exact h.vp.held j hj1 (h.ne0 hj) hj hl0
        · rw [(g j).1, (g j).2.1, (g j).2.2.1, e4]; exact h.dots j
        · rw [(g j).1, (g j).2.1, (g j).2.2.1]; exact h.dead j
        · rw [(g j).1]; exact h.typs j
      exact hX.let_ ok
theorem VT.make (h : VT M 0) (n : Nat) (cwd : Int) (s : List UInt8) (ty ma mi : Int) (ok : MOk (makeM M n cwd s ty ma mi).1.1) : VT (makeM M n cwd s ty ma mi).1.1 0 := by
  unfold makeM at ok ⊢
  split
  · exact h
  · split
    · exact h
    · rename_i h1 h2
      rw [if_neg h1, if_neg h2] at ok
      have h1 : (lastM M cwd s).2.2 = 0 := by simpa using h1
      have h2 : makeCode M n (lastM M cwd s).1.toNat (lastM M cwd s).2.1 ty = 0 := by simpa using h2
      obtain ⟨d0, d1, dt, dm, n1, n2⟩ := lastM_ok h.ok h1
      have hfr := freeM_ok M 199 1
      unfold makeCode at h2
      split at h2
      · exact absurd h2 (by decide)
      split at h2
      · exact absurd h2 (by decide)
      split at h2
      · exact absurd h2 (by decide)
      split at h2
      · exact absurd h2 (by decide)
      split at h2
      · exact absurd h2 (by decide)
      rename_i c1 c2 c3 c4 c5
      obtain ⟨g1, g2, g3⟩ := hfr.resolve_left c5
      exact h.makeD (by omega) dt c2 (by simpa using c3) (good_of dm n1 n2) ⟨g1, by omega⟩ g3 ok
theorem VT.link (h : VT M 0) (n : Nat) (i cwd : Int) (s : List UInt8) (ok : MOk (linkM M n i cwd s).1.1) : VT (linkM M n i cwd s).1.1 0 := by
  unfold linkM at ok ⊢
  split
  · exact h
  · split
    · exact h
    · split
      · exact h
      · split
        · exact h
        · rename_i h1 h2 h3 h4
          rw [if_neg h1, if_neg h2, if_neg h3, if_neg h4] at ok
          have h3 : (lastM M cwd s).2.2 = 0 := by simpa using h3
          have h4 : linkCode M n (lastM M cwd s).1.toNat i.toNat (lastM M cwd s).2.1 = 0 := by simpa using h4
          have hy : thereM M i = true := by simpa using h1
          have hi := thereM_lt hy
          obtain ⟨d0, d1, dt, dm, n1, n2⟩ := lastM_ok h.ok h3
          unfold linkCode at h4
          split at h4
          · exact absurd h4 (by decide)
          split at h4
          · exact absurd h4 (by decide)
          rename_i c2 c3
          exact h.linkD ⟨hi.2.2, h2⟩ (by omega) dt c2 (by simpa using c3) (good_of dm n1 n2) ok
theorem VT.hv (h : VT M 0) {cwd : Int} {s : List UInt8} : (lastM M cwd s).2.2 = 0 → ∀ k, (nd M (lastM M cwd s).1.toNat).dir.findIdx? (isEn (lastM M cwd s).2.1) = some k → ∀ x, x = ((nd M (lastM M cwd s).1.toNat).dir.getD k (0, [])).1.toNat → (nd M x).typ ≠ 0 ∧ 1 ≤ (nd M x).links ∧ ((nd M x).typ = 1 → x ≠ (lastM M cwd s).1.toNat ∧ 1 ≤ (nd M (lastM M cwd s).1.toNat).links) := fun h1 k hk x hx => by
  obtain ⟨d0, d1, dt, dm, n1, n2⟩ := lastM_ok h.ok h1
  obtain ⟨x', hx', hm, hk2, hx2, hx200, hxt, hxl, hxd, hdl⟩ := h.entry dt hk n1 n2
  have e : ((nd M (lastM M cwd s).1.toNat).dir.getD k (0, [])) = ((x' : Int), (lastM M cwd s).2.1) := by rw [List.getD_eq_getElem?_getD, hx']; rfl
  rw [e] at hx
  have hx : x = x' := hx
  subst hx
  exact ⟨hxt, hxl, fun ht => ⟨hxd ht, hdl⟩⟩
theorem VT.unlink (h : VT M 0) (n : Nat) (cwd : Int) (s : List UInt8) (ok : MOk (unlinkM M n cwd s).1.1) : VT (unlinkM M n cwd s).1.1 0 := by
  unfold unlinkM at ok ⊢
  split
  · exact h
  · rename_i h1
    rw [if_neg h1] at ok
    have h1 : (lastM M cwd s).2.2 = 0 := by simpa using h1
    obtain ⟨d0, d1, dt, dm, n1, n2⟩ := lastM_ok h.ok h1
    cases hk : (nd M (lastM M cwd s).1.toNat).dir.findIdx? (isEn (lastM M cwd s).2.1) with
    | none => exact h
    | some k =>
      rw [hk] at ok
      obtain ⟨x', hx', hm, hk2, hx2, hx200, hxt, hxl, hxd, hdl⟩ := h.entry dt hk n1 n2
      have e : ((nd M (lastM M cwd s).1.toNat).dir.getD k (0, [])).1.toNat = x' := by rw [List.getD_eq_getElem?_getD, hx']; exact Int.toNat_natCast x'
      have ok : MOk (if fullM (nd M ((nd M (lastM M cwd s).1.toNat).dir.getD k (0, [])).1.toNat) = true then ((M, n), 187) else (unlD M n (lastM M cwd s).1.toNat k ((nd M (lastM M cwd s).1.toNat).dir.getD k (0, [])).1.toNat, 0) : MS × Int).1.1 := ok
      show VT (if fullM (nd M ((nd M (lastM M cwd s).1.toNat).dir.getD k (0, [])).1.toNat) = true then ((M, n), 187) else (unlD M n (lastM M cwd s).1.toNat k ((nd M (lastM M cwd s).1.toNat).dir.getD k (0, [])).1.toNat, 0) : MS × Int).1.1 0
      rw [e] at ok ⊢
      by_cases hf : fullM (nd M x') = true
      · rw [if_pos hf]; exact h
      · rw [if_neg hf] at ok ⊢
        exact h.unl dt hk n1 n2 hx' (by simpa using hf) ok
end
/-! ### A step of a script -/
def opL (k cwd ino : Int) (path : List UInt8) (ty ma mi off n : Int) (q : Option Addr) (m c : Nat) : Array Value := opC k cwd ino (str path) ty ma mi off n q m c
def doesM (M : List ND) (n : Nat) (k cwd ino : Int) (path : List UInt8) (ty ma mi off : Int) (xs : List UInt8) : MS :=
  if k = 2 then (makeM M n cwd path ty ma mi).1 else if k = 3 then (linkM M n ino cwd path).1 else if k = 4 then (unlinkM M n cwd path).1 else if k = 6 then (writeM M n ino off xs).1
  else if k = 7 then (truncM M n ino).1 else if k = 8 then ((holdM M ino).1, n) else if k = 9 then (dropM M n ino).1 else (M, n)
section
variable {N t r mb hb F : Nat} {H : List Nat} {Q : List SH} {w : World} {M : List ND} {n : Nat}
theorem drop_ok (h : TI N t r mb hb F H Q w M n) (i : Nat) : (nd M i).refs ≠ 0 → MOk (M.set i { nd M i with refs := (nd M i).refs - 1 }) := fun hr => by
  have ok := h.ok.2 i
  have h1 := ok.refs
  refine h.ok.set ⟨ok.links, by show 0 ≤ (nd M i).refs - 1 ∧ (nd M i).refs - 1 ≤ 2147483647; omega, fun hz => ?_, ok.size, ok.ents, ok.dir, ok.dat⟩
  have := ok.zero hz
  rw [this] at hr
  exact absurd rfl hr
theorem Aft.below {p : MS} {w1 w2 : World} (h : Aft N t r mb hb F H Q w p w1) (b : Below w1.heap.size w1 w2) : Aft N t r mb hb F H Q w p w2 := by
  obtain ⟨Q', h1, g1⟩ := h
  exact ⟨Q', h1.below b, g1.trans (TrG.of_below b)⟩
theorem c_does (h : TI N t r mb hb F H Q w M n) (hN : N ≤ w.heap.size) (vt : VT M 0) {k cwd ino ty ma mi off m : Int} {path xs : List UInt8} {q : Option Addr} {l c : Nat} (hq : Rd 1 w q l (bv xs)) (hl : l ≤ 400000) :
    Calls Tryd.prog 58 #[rp t, .agg (opL k cwd ino path ty ma mi off m q l c)] w (Ret fun v w' => v = .tuple #[] ∧ Aft N t r mb hb F H Q w (doesM M n k cwd ino path ty ma mi off xs) w') := by
  refine W58_ok _ _ w _ (newW_intro fun a1 w1 k1 l1 b1 => ?_)
  have z1 := b1.size
  have h1 := h.below b1
  unfold doesM
  refine ⟨_, k1.cell rfl, c_eq (fun e => ?_) (fun e1 => c_eq (fun e => ?_) (fun e2 => c_eq (fun e => ?_) (fun e3 => c_eq (fun e => ?_) (fun e4 => c_eq (fun e => ?_) (fun e5 => c_eq (fun e => ?_) (fun e6 => c_eq (fun e => ?_) (fun e7 => c_eq (fun e => ?_) (fun e8 => c_eq (fun e => ?_) (fun e9 => ?_)))))))))⟩
  · refine ⟨_, by rw [Addr.add_lit]; exact k1.cell rfl, _, by rw [Addr.add_lit]; exact k1.cell rfl, (c_MFind h1 _ _).mono ?_⟩
    rintro _ w2 ⟨_, rfl, rfl, b2⟩
    rw [if_neg (by omega), if_neg (by omega), if_neg (by omega), if_neg (by omega), if_neg (by omega), if_neg (by omega), if_neg (by omega)]
    exact ⟨_, _, rfl, rfl, Aft.same h (b1.trans (b2.mono z1))⟩
  · refine ⟨_, by rw [Addr.add_lit]; exact k1.cell rfl, _, by rw [Addr.add_lit]; exact k1.cell rfl, _, by rw [Addr.add_lit]; exact k1.cell rfl, _, by rw [Addr.add_lit]; exact k1.cell rfl, _, by rw [Addr.add_lit]; exact k1.cell rfl, (c_MMake h1 (by omega) _ _ _ _ _).mono ?_⟩
    rintro _ w2 ⟨_, rfl, rfl, ha⟩
    rw [if_pos e]
    exact ⟨_, _, rfl, rfl, Aft.pre b1 ha⟩
  · refine ⟨_, by rw [Addr.add_lit]; exact k1.cell rfl, _, by rw [Addr.add_lit]; exact k1.cell rfl, _, by rw [Addr.add_lit]; exact k1.cell rfl, (c_MLink h1 (by omega) _ _ _).mono ?_⟩
    rintro _ w2 ⟨_, rfl, rfl, ha⟩
    rw [if_neg (by omega), if_pos e]
    exact ⟨_, rfl, rfl, Aft.pre b1 ha⟩
  · refine ⟨_, by rw [Addr.add_lit]; exact k1.cell rfl, _, by rw [Addr.add_lit]; exact k1.cell rfl, (c_MUnlink h1 _ _ vt.hv).mono ?_⟩
    rintro _ w2 ⟨_, rfl, rfl, ha⟩
    rw [if_neg (by omega), if_neg (by omega), if_pos e]
    exact ⟨_, rfl, rfl, Aft.pre b1 ha⟩
  · refine ⟨_, by rw [Addr.add_lit]; exact k1.cell rfl, _, by rw [Addr.add_lit]; exact k1.cell rfl, _, by rw [Addr.add_lit]; exact k1.cell rfl, (c_MRead h1 _ _ _).mono ?_⟩
    rintro _ w2 ⟨_, rfl, q2, c2, rfl, b2, _⟩
    rw [if_neg (by omega), if_neg (by omega), if_neg (by omega), if_neg (by omega), if_neg (by omega), if_neg (by omega), if_neg (by omega)]
    exact ⟨_, _, _, rfl, rfl, Aft.same h (b1.trans (b2.mono z1))⟩
  · have b1d : Below w.heap.size w w1.drew := b1.trans ⟨rfl, rfl, rfl, Nat.le_refl _, fun _ _ => rfl⟩
    have cell : ∀ j v, (opL k cwd ino path ty ma mi off m q l c)[j]? = some v → ∀ w', Blk w' a1 (opL k cwd ino path ty ma mi off m q l c) 126 → w'.cell? ((⟨a1, 0, none⟩ : Addr).add j) = some v := fun j v hj w' hw => by
      rw [Addr.add_lit, Nat.zero_add]
      exact hw.cell hj
    refine ⟨fun w' => Blk w' a1 (opL k cwd ino path ty ma mi off m q l c) 126, k1.drew, _, cell 2 _ rfl, _, cell 7 _ rfl, _, _, _, cell 9 _ rfl, (c_CopyBytes (hq.below b1d) (by omega)).mono ?_⟩
    rintro _ w2 ⟨_, rfl, q2, c2, rfl, o2, b2⟩
    have hz2 := b2.size
    have zd : w1.drew.heap.size = w1.heap.size := rfl
    have h2 : TI N t r mb hb F H Q w2 M n := h1.drew.below b2
    refine ⟨_, _, _, rfl, fun w' => Blk w' a1 (opL k cwd ino path ty ma mi off m q l c) 126, fun _ hs => hs, below_blk b2 k1.drew.lt k1.drew, (c_MWrite h2 (by omega) o2.rd o2.le (by omega) (Apt.new h1.drew fun a ha => (o2.lt ha).2)).mono ?_⟩
    rintro _ w3 ⟨_, rfl, rfl, ha⟩
    rw [if_neg (by omega), if_neg (by omega), if_neg (by omega), if_pos e]
    exact ⟨_, rfl, rfl, Aft.pre (b1d.trans (b2.mono b1d.size)) ha⟩
  · refine ⟨_, by rw [Addr.add_lit]; exact k1.cell rfl, (c_MTrunc h1 _).mono ?_⟩
    rintro _ w2 ⟨_, rfl, rfl, ha⟩
    rw [if_neg (by omega), if_neg (by omega), if_neg (by omega), if_neg (by omega), if_pos e]
    exact ⟨_, rfl, rfl, Aft.pre b1 ha⟩
  · refine ⟨_, by rw [Addr.add_lit]; exact k1.cell rfl, (c_MHold h1 _).mono ?_⟩
    rintro _ w2 ⟨_, rfl, rfl, ha⟩
    rw [if_neg (by omega), if_neg (by omega), if_neg (by omega), if_neg (by omega), if_neg (by omega), if_pos e]
    exact ⟨_, rfl, rfl, Aft.pre b1 ha⟩
  · refine ⟨_, by rw [Addr.add_lit]; exact k1.cell rfl, (c_MDrop h1 _).mono ?_⟩
    rintro _ w2 ⟨_, rfl, rfl, ha⟩
    rw [if_neg (by omega), if_neg (by omega), if_neg (by omega), if_neg (by omega), if_neg (by omega), if_neg (by omega), if_pos e]
    exact ⟨_, rfl, rfl, Aft.pre b1 ha⟩
  · rw [if_neg (by omega), if_neg (by omega), if_neg (by omega), if_neg (by omega), if_neg (by omega), if_neg (by omega), if_neg (by omega)]
    exact ⟨rfl, Aft.same h b1⟩
theorem VT.does (h : TI N t r mb hb F H Q w M n) (vt : VT M 0) {k cwd ino ty ma mi off : Int} {path xs : List UInt8} (ok : MOk (doesM M n k cwd ino path ty ma mi off xs).1) : VT (doesM M n k cwd ino path ty ma mi off xs).1 0 := by
  unfold doesM at ok ⊢
  by_cases e2 : k = 2
  · rw [if_pos e2] at ok ⊢; exact vt.make _ _ _ _ _ _ ok
  rw [if_neg e2] at ok ⊢
  by_cases e3 : k = 3
  · rw [if_pos e3] at ok ⊢; exact vt.link _ _ _ _ ok
  rw [if_neg e3] at ok ⊢
  by_cases e4 : k = 4
  · rw [if_pos e4] at ok ⊢; exact vt.unlink _ _ _ ok
  rw [if_neg e4] at ok ⊢
  by_cases e6 : k = 6
  · rw [if_pos e6] at ok ⊢; exact vt.write _ _ _ _ ok
  rw [if_neg e6] at ok ⊢
  by_cases e7 : k = 7
  · rw [if_pos e7] at ok ⊢; exact vt.trunc _ _ ok
  rw [if_neg e7] at ok ⊢
  by_cases e8 : k = 8
  · rw [if_pos e8] at ok ⊢; exact vt.hold _ ok
  rw [if_neg e8] at ok ⊢
  by_cases e9 : k = 9
  · rw [if_pos e9] at ok ⊢; exact vt.drop _ _ ok (drop_ok h _)
  rw [if_neg e9] at ok ⊢
  exact vt
end
end Go.Proofs.YthkcdkldpbndnaaDoor
