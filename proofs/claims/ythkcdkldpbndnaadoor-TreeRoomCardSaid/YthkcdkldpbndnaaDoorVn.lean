/- The frames of a tree: free ones and those that hold something are as many as ever. No condition. -/
import Derived.Test.YthkcdkldpbndnaaDoorVi
set_option linter.unusedVariables false
namespace Go.Proofs.YthkcdkldpbndnaaDoor
open Go.RowKit Go.Hx
theorem sumN_upd {f g : Nat → Nat} {d : Nat} : ∀ {n : Nat}, d < n → (∀ k, k ≠ d → f k = g k) → sumN f n + g d = sumN g n + f d
  | 0, h, _ => by omega
  | n + 1, h, ho => by
    unfold sumN
    by_cases hn : d = n
    · subst hn
      rw [sumN_same fun k hk => ho k (by omega)]; omega
    · have := sumN_upd (n := n) (by omega) ho
      rw [ho n (Ne.symm hn)]; omega
/-- How many frames hold something. -/
def frM (M : List ND) : Nat := sumN (fun i => blkN (nd M i).size) 200
theorem frM_set {M : List ND} {i : Nat} {y : ND} (hM : M.length = 200) (hi : i < 200) : frM (M.set i y) + blkN (nd M i).size = frM M + blkN y.size := by
  unfold frM
  have := sumN_upd (f := fun j => blkN (nd (M.set i y) j).size) (g := fun j => blkN (nd M j).size) (d := i) (n := 200) hi fun k hk => by
    rw [md_other (Ne.symm hk)]
  rw [md_self (by omega)] at this
  exact this
theorem ndZ_size : ndZ.size = 0 := rfl
theorem let_fr {M : List ND} {n i : Nat} (hM : M.length = 200) (hi : i < 200) : (letM M n i).2 + frM (letM M n i).1 = n + frM M := by
  unfold letM
  split
  · have := frM_set (y := ndZ) hM hi
    rw [ndZ_size] at this
    have h0 : blkN 0 = 0 := rfl
    show n + blkN (nd M i).size + frM (M.set i ndZ) = _
    omega
  · rfl
theorem ent_fr {l : List Ent} {e : Ent} (h : (demM l).2 = true) : blkN ((entM l e).length * 16) = blkN (l.length * 16) + (demM l).1 := by
  unfold demM entM at *
  cases hk : l.findIdx? isHo with
  | some k =>
    show blkN ((l.set k e).length * 16) = blkN (l.length * 16) + 0
    rw [List.length_set]; rfl
  | none =>
    rw [hk] at h
    show blkN ((l ++ [e]).length * 16) = blkN (l.length * 16) + (if l.length * 16 = 262144 then ((0, false) : Nat × Bool) else if l.length * 16 % 4096 = 0 then (1, true) else (0, true)).1
    have h : (if l.length * 16 = 262144 then ((0, false) : Nat × Bool) else if l.length * 16 % 4096 = 0 then (1, true) else (0, true)).2 = true := h
    rw [List.length_append]
    show blkN ((l.length + 1) * 16) = _
    by_cases h1 : l.length * 16 = 262144
    · rw [if_pos h1] at h; cases h
    · rw [if_neg h1]
      unfold blkN
      by_cases h2 : l.length * 16 % 4096 = 0
      · rw [if_pos h2]
        show _ = _ + 1
        omega
      · rw [if_neg h2]
        show _ = _ + 0
        omega
theorem dirsz {y : ND} (h : y.typ = 1) : y.size = y.dir.length * 16 := by unfold ND.size; rw [if_pos h]
theorem filesz {y : ND} (h : y.typ ≠ 1) : y.size = y.dat.length := by unfold ND.size; rw [if_neg h]
theorem same_fr {M : List ND} {i : Nat} {y : ND} (hM : M.length = 200) (hi : i < 200) (hs : y.size = (nd M i).size) : frM (M.set i y) = frM M := by
  have := frM_set (y := y) hM hi
  rw [hs] at this
  omega
section
variable {M : List ND}
theorem frM_two {d i : Nat} {A B : ND} (hM : M.length = 200) (hd : d < 200) (hi : i < 200) (hne : d ≠ i) : frM ((M.set d A).set i B) + blkN (nd M d).size + blkN (nd M i).size = frM M + blkN A.size + blkN B.size := by
  have h1 := frM_set (y := A) hM hd
  have h2 := frM_set (M := M.set d A) (y := B) (by rw [List.length_set]; exact hM) hi
  rw [md_other hne] at h2
  omega
theorem VT.lt200 (h : VT M 0) {d : Nat} (ht : (nd M d).typ ≠ 0) : d < 200 := Classical.byContradiction fun hn => ht (h.vp.big d (by omega))
theorem VT.make_fr (h : VT M 0) (n : Nat) (cwd : Int) (s : List UInt8) (T ma mi : Int) : (makeM M n cwd s T ma mi).1.2 + frM (makeM M n cwd s T ma mi).1.1 = n + frM M := by
  unfold makeM
  split
  · rfl
  · split
    · rfl
    · rename_i h1 h2
      have h1 : (lastM M cwd s).2.2 = 0 := by simpa using h1
      have h2 : makeCode M n (lastM M cwd s).1.toNat (lastM M cwd s).2.1 T = 0 := by simpa using h2
      obtain ⟨d0, d1, dt, dm, n1, n2⟩ := lastM_ok h.ok h1
      generalize (lastM M cwd s).1.toNat = d at *
      generalize (lastM M cwd s).2.1 = nm at *
      have hfr := freeM_ok M 199 1
      unfold makeCode at h2
      split at h2
      · exact absurd h2 (by decide)
      split at h2
      · exact absurd h2 (by decide)
      split at h2
      · exact absurd h2 (by decide)
      split at h2
      · exact absurd h2 (by decide)
      split at h2
      · exact absurd h2 (by decide)
      split at h2
      · exact absurd h2 (by decide)
      rename_i c1 c2 c3 c4 c5 c6
      have c7 : ¬ n < (demM (nd M d).dir).1 + (if T = 1 then 1 else 0) := fun hc => by
        rw [if_pos hc] at h2
        exact absurd h2 (by decide)
      obtain ⟨g1, g2, g3⟩ := hfr.resolve_left c5
      generalize freeM M 199 1 = i at *
      have hid : i ≠ d := fun e => by rw [e, dt] at g3; exact absurd g3 (by decide)
      have hdl := h.lt200 (d := d) (by rw [dt]; decide)
      have hz : (nd M i).size = 0 := by rw [(h.ok.2 i).zero g3]; rfl
      have c6 : (demM (nd M d).dir).2 = true := by simpa using c6
      have e1 := frM_two (M := M) (A := newND i d T ma mi) (B := { nd M d with links := (nd M d).links + (if T = 1 then 1 else 0), dir := entM (nd M d).dir ((i : Int), nm) }) h.ok.1 (by omega : i < 200) hdl hid
      have e2 := ent_fr (e := ((i : Int), nm)) c6
      have e3 : ({ nd M d with links := (nd M d).links + (if T = 1 then 1 else 0), dir := entM (nd M d).dir ((i : Int), nm) } : ND).size = (entM (nd M d).dir ((i : Int), nm)).length * 16 := dirsz dt
      have e4 : blkN (newND i d T ma mi).size = if T = 1 then 1 else 0 := by
        unfold newND
        by_cases t1 : T = 1
        · rw [if_pos t1, if_pos t1, dirsz (show (1 : Int) = 1 from rfl)]
          show blkN 32 = 1
          rfl
        · rw [if_neg t1, if_neg t1]
          split
          · rw [filesz (show (3 : Int) ≠ 1 by decide)]
            show blkN 0 = 0
            rfl
          · rw [filesz (show T ≠ 1 from t1)]
            show blkN 0 = 0
            rfl
      rw [e3, e2, e4, hz, dirsz dt] at e1
      have h0 : blkN 0 = 0 := rfl
      show n - (demM (nd M d).dir).1 - (if T = 1 then 1 else 0) + frM (Go.Proofs.YthkcdkldpbndnaaDoor.makeD M i d nm T ma mi) = _
      unfold Go.Proofs.YthkcdkldpbndnaaDoor.makeD
      omega
theorem VT.link_fr (h : VT M 0) (n : Nat) (i cwd : Int) (s : List UInt8) : (linkM M n i cwd s).1.2 + frM (linkM M n i cwd s).1.1 = n + frM M := by
  unfold linkM
  split
  · rfl
  · split
    · rfl
    · split
      · rfl
      · split
        · rfl
        · rename_i h1 h2 h3 h4
          have h3 : (lastM M cwd s).2.2 = 0 := by simpa using h3
          have h4 : linkCode M n (lastM M cwd s).1.toNat i.toNat (lastM M cwd s).2.1 = 0 := by simpa using h4
          have hy : thereM M i = true := by simpa using h1
          have hi := thereM_lt hy
          obtain ⟨d0, d1, dt, dm, n1, n2⟩ := lastM_ok h.ok h3
          generalize (lastM M cwd s).1.toNat = d at *
          generalize (lastM M cwd s).2.1 = nm at *
          unfold linkCode at h4
          split at h4
          · exact absurd h4 (by decide)
          split at h4
          · exact absurd h4 (by decide)
          split at h4
          · exact absurd h4 (by decide)
          split at h4
          · exact absurd h4 (by decide)
          split at h4
          · exact absurd h4 (by decide)
          rename_i c2 c3 c4 c5 c6
          have hdl := h.lt200 (d := d) (by rw [dt]; decide)
          have hid : d ≠ i.toNat := fun e => h2 (by rw [← e]; exact dt)
          have c5 : (demM (nd M d).dir).2 = true := by simpa using c5
          have e1 := frM_two (M := M) (A := { nd M d with dir := entM (nd M d).dir (((i.toNat : Nat) : Int), nm) }) (B := { nd M i.toNat with links := (nd M i.toNat).links + 1 }) h.ok.1 hdl (by omega) hid
          have e2 := ent_fr (e := (((i.toNat : Nat) : Int), nm)) c5
          have e3 : ({ nd M d with dir := entM (nd M d).dir (((i.toNat : Nat) : Int), nm) } : ND).size = (entM (nd M d).dir (((i.toNat : Nat) : Int), nm)).length * 16 := dirsz dt
          have e4 : ({ nd M i.toNat with links := (nd M i.toNat).links + 1 } : ND).size = (nd M i.toNat).size := rfl
          rw [e3, e2, e4, dirsz dt] at e1
          show n - (demM (nd M d).dir).1 + frM (Go.Proofs.YthkcdkldpbndnaaDoor.linkD M i.toNat d nm) = _
          unfold Go.Proofs.YthkcdkldpbndnaaDoor.linkD
          omega
theorem VT.unlink_fr (h : VT M 0) (n : Nat) (cwd : Int) (s : List UInt8) : (unlinkM M n cwd s).1.2 + frM (unlinkM M n cwd s).1.1 = n + frM M := by
  unfold unlinkM
  split
  · rfl
  · rename_i h1
    have h1 : (lastM M cwd s).2.2 = 0 := by simpa using h1
    obtain ⟨d0, d1, dt, dm, n1, n2⟩ := lastM_ok h.ok h1
    cases hk : (nd M (lastM M cwd s).1.toNat).dir.findIdx? (isEn (lastM M cwd s).2.1) with
    | none => rfl
    | some k =>
      obtain ⟨x', hx', hm, hk2, hx2, hx200, hxt, hxl, hxd, hdl⟩ := h.entry dt hk n1 n2
      have e : ((nd M (lastM M cwd s).1.toNat).dir.getD k (0, [])).1.toNat = x' := by rw [List.getD_eq_getElem?_getD, hx']; exact Int.toNat_natCast x'
      show (if fullM (nd M ((nd M (lastM M cwd s).1.toNat).dir.getD k (0, [])).1.toNat) = true then ((M, n), 187) else (unlD M n (lastM M cwd s).1.toNat k ((nd M (lastM M cwd s).1.toNat).dir.getD k (0, [])).1.toNat, 0) : MS × Int).1.2 + frM (if fullM (nd M ((nd M (lastM M cwd s).1.toNat).dir.getD k (0, [])).1.toNat) = true then ((M, n), 187) else (unlD M n (lastM M cwd s).1.toNat k ((nd M (lastM M cwd s).1.toNat).dir.getD k (0, [])).1.toNat, 0) : MS × Int).1.1 = _
      rw [e]
      generalize (lastM M cwd s).1.toNat = d at *
      by_cases hf : fullM (nd M x') = true
      · rw [if_pos hf]
      · rw [if_neg hf]
        show (unlD M n d k x').2 + frM (unlD M n d k x').1 = _
        have hdl := h.lt200 (d := d) (by rw [dt]; decide)
        have hxd' : d ≠ x' := fun e => by
          by_cases ht : (nd M x').typ = 1
          · exact hxd ht e.symm
          · exact ht (by rw [← e]; exact dt)
        unfold unlD
        by_cases ht : (nd M x').typ = 1
        · rw [if_pos ht, let_fr (by rw [List.length_set, List.length_set]; exact h.ok.1) hx200]
          have e1 := frM_two (M := M) (A := { nd M d with dir := (nd M d).dir.set k (0, []), links := (nd M d).links - 1 }) (B := { nd M x' with links := (nd M x').links - 1, dir := [] }) h.ok.1 hdl hx200 hxd'
          have e3 : ({ nd M d with dir := (nd M d).dir.set k (0, []), links := (nd M d).links - 1 } : ND).size = (nd M d).size := by
            rw [dirsz dt, dirsz (by exact dt)]
            show ((nd M d).dir.set k (0, [])).length * 16 = _
            rw [List.length_set]
          have e4 : ({ nd M x' with links := (nd M x').links - 1, dir := [] } : ND).size = 0 := dirsz (by exact ht)
          rw [e3, e4] at e1
          have h0 : blkN 0 = 0 := rfl
          omega
        · rw [if_neg ht, let_fr (by rw [List.length_set, List.length_set]; exact h.ok.1) hx200]
          have e1 := frM_two (M := M) (A := { nd M d with dir := (nd M d).dir.set k (0, []) }) (B := { nd M x' with links := (nd M x').links - 1 }) h.ok.1 hdl hx200 hxd'
          have e3 : ({ nd M d with dir := (nd M d).dir.set k (0, []) } : ND).size = (nd M d).size := by
            rw [dirsz dt, dirsz (by exact dt)]
            show ((nd M d).dir.set k (0, [])).length * 16 = _
            rw [List.length_set]
          have e4 : ({ nd M x' with links := (nd M x').links - 1 } : ND).size = (nd M x').size := rfl
          rw [e3, e4] at e1
          omega
theorem VT.write_fr (h : VT M 0) (n : Nat) (i o : Int) (xs : List UInt8) : (writeM M n i o xs).1.2 + frM (writeM M n i o xs).1.1 = n + frM M := by
  unfold writeM
  split
  · rfl
  · rename_i hc
    have ht : thereM M i = true := Classical.byContradiction fun hn => hc (.inl (by simpa using hn))
    have h2 : (nd M i.toNat).typ = 2 := Classical.byContradiction fun hn => hc (.inr (.inl hn))
    have ho : 0 ≤ o := Classical.byContradiction fun hn => hc (.inr (.inr (.inl (by omega))))
    have hol : o ≤ ((nd M i.toNat).dat.length : Int) := Classical.byContradiction fun hn => hc (.inr (.inr (.inr (by omega))))
    have hi := thereM_lt ht
    have hn1 : (nd M i.toNat).typ ≠ 1 := by rw [h2]; decide
    have hs := (h.ok.2 i.toNat).size
    rw [filesz hn1] at hs
    have e1 := frM_set (i := i.toNat) (y := { nd M i.toNat with dat := wrB (nd M i.toNat).dat o.toNat (xs.take (wrN (nd M i.toNat) n o.toNat xs.length)) }) h.ok.1 (by omega)
    have e3 : ({ nd M i.toNat with dat := wrB (nd M i.toNat).dat o.toNat (xs.take (wrN (nd M i.toNat) n o.toNat xs.length)) } : ND).size = (wrB (nd M i.toNat).dat o.toNat (xs.take (wrN (nd M i.toNat) n o.toNat xs.length))).length := filesz hn1
    have hw : wrN (nd M i.toNat) n o.toNat xs.length ≤ xs.length := by unfold wrN; omega
    have hw2 : o.toNat + wrN (nd M i.toNat) n o.toNat xs.length ≤ (blkN (nd M i.toNat).dat.length + n) * 4096 := by
      have : wrN (nd M i.toNat) n o.toNat xs.length ≤ (blkN (nd M i.toNat).dat.length + n) * 4096 - o.toNat := by unfold wrN; omega
      have : o.toNat ≤ (blkN (nd M i.toNat).dat.length + n) * 4096 := by unfold blkN; omega
      omega
    rw [e3, wrB_len (by omega), List.length_take, Nat.min_eq_left hw, filesz hn1] at e1
    show n - (blkN (o.toNat + wrN (nd M i.toNat) n o.toNat xs.length) - blkN (nd M i.toNat).dat.length) + frM (M.set i.toNat { nd M i.toNat with dat := wrB (nd M i.toNat).dat o.toNat (xs.take (wrN (nd M i.toNat) n o.toNat xs.length)) }) = n + frM M
    generalize wrN (nd M i.toNat) n o.toNat xs.length = k at *
    generalize (nd M i.toNat).dat.length = l at *
    unfold blkN at *
    omega
theorem VT.trunc_fr (h : VT M 0) (n : Nat) (i : Int) : (truncM M n i).1.2 + frM (truncM M n i).1.1 = n + frM M := by
  unfold truncM
  split
  · rfl
  · split
    · rfl
    · rename_i h1 h2
      have hy : thereM M i = true := by simpa using h1
      have hi := thereM_lt hy
      have h2 : (nd M i.toNat).typ = 2 := by simpa using h2
      have hn1 : (nd M i.toNat).typ ≠ 1 := by rw [h2]; decide
      have e1 := frM_set (i := i.toNat) (y := { nd M i.toNat with dat := [] }) h.ok.1 (by omega)
      have e3 : ({ nd M i.toNat with dat := [] } : ND).size = 0 := filesz hn1
      rw [e3, filesz hn1] at e1
      have h0 : blkN 0 = 0 := rfl
      show n + blkN (nd M i.toNat).dat.length + frM (M.set i.toNat { nd M i.toNat with dat := [] }) = n + frM M
      omega
theorem VT.hold_fr (h : VT M 0) (i : Int) : frM (holdM M i).1 = frM M := by
  unfold holdM
  split
  · rfl
  · split
    · rfl
    · rename_i h1 h2
      have hy : thereM M i = true := by simpa using h1
      have hi := thereM_lt hy
      exact same_fr h.ok.1 (by omega) rfl
theorem VT.drop_fr (h : VT M 0) (n : Nat) (i : Int) : (dropM M n i).1.2 + frM (dropM M n i).1.1 = n + frM M := by
  unfold dropM
  split
  · rfl
  · split
    · rfl
    · rename_i h1 h2
      have hy : thereM M i = true := by simpa using h1
      have hi := thereM_lt hy
      show (letM _ n i.toNat).2 + frM (letM _ n i.toNat).1 = _
      rw [let_fr (by rw [List.length_set]; exact h.ok.1) (by omega), same_fr h.ok.1 (by omega)]
      rfl
end
end Go.Proofs.YthkcdkldpbndnaaDoor
