/- Walk: adjoint of the program. -/
import Derived.Test.YtgbfifcbbfhpmaaReord
import Derived.Test.YtgbfifcbbfhpmaaRev2
import Derived.Test.YtgbfifcbbfhpmaaInv
import Derived.Test.YtgbfifcbbfhpmaaScale2
import Derived.Test.YtgbfifcbbfhpmaaTabN
set_option linter.unusedVariables false
set_option linter.unusedSimpArgs false
namespace Go.Proofs.Ytgbfifcbbfhpmaa
open Go.RowKit

def dn (n : Nat) : List Nat := (List.range n).map fun i => n - 1 - i
theorem dn_len (n : Nat) : (dn n).length = n := by simp [dn]
theorem dn_casts (n : Nat) : downTo n n = casts (dn n) := by simp [casts, dn, downTo, List.map_map]
theorem dn_lt {n a : Nat} (h : a ∈ dn n) : a < n := by
  obtain ⟨i, hi, rfl⟩ := List.mem_map.1 h
  have := List.mem_range.1 hi
  omega
/-- the rows ahead of the reordering -/
def adjM (A : List (List Int)) (Bs : List Int) : List (List Int) := (A.map fun r => addk 10006 r Bs).map (scl 10006)
def adjW (Bs : List Int) : List Int := scl 10006 (scl 10006 Bs)
def adjA (A : List (List Int)) (Bs : List Int) : List (List Int) := pRows (adjM A Bs) (dn Bs.length) (dn Bs.length)
def adjB (Bs : List Int) : List Int := pWs (adjW Bs) (dn Bs.length)
theorem adjM_len (A : List (List Int)) (Bs : List Int) : (adjM A Bs).length = A.length := by simp [adjM]
theorem adjW_len (Bs : List Int) : (adjW Bs).length = Bs.length := by simp [adjW, scl_len]
theorem adjA_len (A : List (List Int)) (Bs : List Int) : (adjA A Bs).length = Bs.length := by simp [adjA, pRows, dn_len]
theorem adjB_len (Bs : List Int) : (adjB Bs).length = Bs.length := by simp [adjB, pWs, dn_len]
theorem adjM_row {A : List (List Int)} {Bs : List Int} (hI : IsTab A Bs) : ∀ zs ∈ adjM A Bs, zs.length = (adjM A Bs).length := by
  intro zs hz
  obtain ⟨ys, hy, rfl⟩ := List.mem_map.1 hz
  obtain ⟨xs, hx, rfl⟩ := List.mem_map.1 hy
  rw [scl_len, addk_len, adjM_len, (hI.row xs hx).1, hI.len]
theorem inv_numTab {A : List (List Int)} {Bs : List Int} (hI : IsTab A Bs) : NumTab (A.map fun r => addk 10006 r Bs) (scl 10006 Bs) := by
  have h1 := hI.len
  have h2 := hI.hi
  refine ⟨by simp; omega, by rw [scl_len]; omega, fun zs hz => ?_, scl_nums _ _⟩
  obtain ⟨xs, hx, rfl⟩ := List.mem_map.1 hz
  refine ⟨addTo_nums _ _ _ _, ?_⟩
  rw [addk_len, (hI.row xs hx).1]
  omega

set_option maxRecDepth 100000 in
set_option maxHeartbeats 2000000 in
theorem im_adjoint (w : World) (v : Value) (A : List (List Int)) (Bs : List Int) (ha : TabArg w v A Bs) (hI : IsTab A Bs) :
    Calls Try.prog 52 #[v] w fun e w' => ∃ r, e = .returned r ∧ OT w' w.heap.size w'.heap.size r (adjA A Bs) (adjB Bs) ∧ Below w.heap.size w w' := by
  have HT := Lib.hid ha
  obtain ⟨Aa, ca, Ab, cb, rfl⟩ := ha.open_
  have B0 := Lib.hid (below2 w (.cells #[.slice Aa A.length ca, .slice Ab Bs.length cb] 27) (.cells #[.slice none 0 0, .slice none 0 0] 27))
  have K0 := Lib.hid ((Blk.new w #[.slice Aa A.length ca, .slice Ab Bs.length cb] 27).alloc (.cells #[.slice none 0 0, .slice none 0 0] 27))
  have K1 := Lib.hid (Blk.new1 w (.cells #[.slice Aa A.length ca, .slice Ab Bs.length cb] 27) #[.slice none 0 0, .slice none 0 0] 27)
  have HI := Lib.hid hI
  have hlo := hI.lo
  have hhi := hI.hi
  clear ha hI
  go_enter Try.func52, Try.ntmps52
  go_wp2_with fail
  refine (im_allStages _ _ A Bs (HT.out.below B0.out) (by omega)).mono ?_
  rintro e w3 ⟨v3, rfl, ho3, hb3⟩
  obtain ⟨A3, c3, hv3, -, -, -⟩ := ho3.ints.open_
  rw [upTo_len] at hv3
  subst hv3
  have B3 := Lib.hid (B0.out.trans (hb3.mono B0.out.size))
  have X0 := Lib.hid (K0.out.below hb3 K0.out.lt)
  have X1 := Lib.hid (K1.out.below hb3 K1.out.lt)
  have HO3 := Lib.hid (ho3.mono (B' := w.heap.size + 1 + 1) (by simp))
  have hs3 := hb3.size
  simp only [size_alloc'] at hs3
  have HS3 := Lib.hid hs3
  clear ho3 hb3 hs3 K0 K1
  go_wp2_with fail
  refine (lib_Reverse _ (w.heap.size + 1 + 1) _ _ HO3.out (by rw [upTo_len]; omega) (by rw [upTo_len]; omega)).mono ?_
  rintro e w4 ⟨⟨x, rfl⟩, ho4, hg4⟩
  rw [upTo_reverse, dn_casts] at ho4
  have hge : ∀ b, (Value.slice A3 Bs.length c3).ownBlock = some b → w.heap.size + 1 + 1 ≤ b := HO3.out.1.ge
  have C4 : Chg (w.heap.size + 1 + 1) w3.heap.size w3 w4 := Chg.of_grown hg4 (fun b hb => ⟨hge b hb, HO3.out.1.lt b hb⟩)
  have B4 := Lib.hid (C4.below B3.out (by omega) B3.out.size)
  have Y0 := Lib.hid (X0.out.chg C4 (.inl (by omega)))
  have Y1 := Lib.hid (X1.out.chg C4 (.inl (by omega)))
  have HO4 := Lib.hid ho4
  have HS4 := Lib.hid C4.size
  have g0 : w4.cell? ⟨w.heap.size, 0, none⟩ = some (.slice Aa A.length ca) := Y0.out.cell 0
  have g1 : w4.cell? ⟨w.heap.size, 1, none⟩ = some (.slice Ab Bs.length cb) := Y0.out.cell 1
  clear ho4 hg4 hge X0 X1 C4
  go_wp2_with fail
  refine (im_inverse _ _ A Bs (HT.out.below B4.out) HI.out.numTab (fun zs hz => by rw [(HI.out.row zs hz).1]; omega)).mono ?_
  rintro e w5 ⟨v5, rfl, ho5, hb5⟩
  obtain ⟨A5, c5, A5b, c5b, rfl⟩ := ho5.open_
  rw [List.length_map, scl_len] at ho5 ⊢
  have HO5 := Lib.hid ho5
  have B5 := Lib.hid (B4.out.trans (hb5.mono B4.out.size))
  have HB5 := Lib.hid hb5
  clear ho5 hb5 g0 g1
  go_wp2_with fail
  refine (im_times _ _ _ _ (-1) HO5.out.arg (inv_numTab HI.out) (by omega) (by omega)).mono ?_
  rintro e w6 ⟨v6, rfl, ho6, hb6⟩
  obtain ⟨A6, c6, A6b, c6b, rfl⟩ := ho6.open_
  rw [show (-1 : Int) % 10007 = 10006 from by decide] at ho6 ⊢
  have ho6' : OT w6 w5.heap.size w6.heap.size _ (adjM A Bs) (adjW Bs) := ho6
  simp only [List.length_map, scl_len] at ho6' ⊢
  have HO6 := Lib.hid ho6'
  have B6 := Lib.hid (B5.out.trans (hb6.mono B5.out.size))
  have HB6 := Lib.hid (HB5.out.trans (hb6.mono HB5.out.size))
  clear ho6 ho6' hb6
  go_wp2_with fail
  refine (im_reordered _ _ _ _ _ (dn Bs.length) HO6.out.arg (HO4.out.below HB6.out).ints (by rw [dn_len]; omega) (fun a h => by have := dn_lt h; have := HI.out.len; rw [adjM_len, adjW_len]; omega) (adjM_row HI.out)).mono ?_
  rintro e w7 ⟨v7, rfl, ho7, hb7⟩
  have ho7' : OT w7 w6.heap.size w7.heap.size v7 (adjA A Bs) (adjB Bs) := ho7
  obtain ⟨A7, c7, A7b, c7b, rfl⟩ := ho7'.open_
  rw [adjA_len, adjB_len] at ho7' ⊢
  have HO7 := Lib.hid ho7'
  have B7 := Lib.hid (B6.out.trans (hb7.mono B6.out.size))
  have Z1 := Lib.hid (Y1.out.below (HB6.out.trans (hb7.mono HB6.out.size)) Y1.out.lt)
  have f0 : w7.cell? ⟨w.heap.size + 1, 0, none⟩ = some (.slice none 0 0) := Z1.out.cell 0
  have f1 : w7.cell? ⟨w.heap.size + 1, 1, none⟩ = some (.slice none 0 0) := Z1.out.cell 1
  have f2 := Z1.out.frozen 0
  have f3 := Z1.out.frozen 1
  have HSZ := Lib.hid (show w.heap.size + 1 + 1 ≤ w6.heap.size from Nat.le_trans (Nat.le_trans HS3.out HS4.out) HB6.out.size)
  clear ho7 ho7' hb7
  go_wp2_with fail
  have c0 := Chg.refl (w.heap.size + 1) (w.heap.size + 1 + 1) w7
  have c1' := c0.setCell (p := ⟨w.heap.size + 1, 0, none⟩) (Nat.le_refl _) (by simp) (.slice A7 Bs.length c7)
  have c2' := c1'.setCell (p := ⟨w.heap.size + 1, 1, none⟩) (Nat.le_refl _) (by simp) (.slice A7b Bs.length c7b)
  refine bodyPost_ret (v := .agg #[.slice A7 Bs.length c7, .slice A7b Bs.length c7b]) (by simp [results, Try.results52, go_sem, f0, f1]) rfl ⟨_, rfl, (HO7.out.kept c2' (.inr HSZ.out)).mono (by have := HSZ.out; omega) c2'.size, c2'.below B7.out (by omega) B7.out.size⟩
end Go.Proofs.Ytgbfifcbbfhpmaa
