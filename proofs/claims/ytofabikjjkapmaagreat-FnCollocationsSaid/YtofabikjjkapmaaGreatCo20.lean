/- Walks: inverse of the program, l10Inverse of the reference. | Walk: adjoint of the program. | Walks: AdjointTableau of the program and of the reference. | Walk: InverseTableau of the program. | Walk: composed of the program. | Walks: numbers that are drawn (laws.dice): any numbers in their ranges; what the source holds is not told. | Walk: ComposeTableaus of the program. | Plain: what the law of adjoint tableaus says. No walk. | Walk: l11Collocation of the reference. -/
import Derived.Test.YtofabikjjkapmaaGreatCo19
import Derived.Test.YtofabikjjkapmaaGreatCo10
import Derived.Test.YtofabikjjkapmaaGreatCo18
import Derived.Test.YtofabikjjkapmaaGreatCo15
import Derived.Test.YtofabikjjkapmaaGreatCo14
import Derived.Test.YtofabikjjkapmaaGreatRows
import Derived.Test.YtofabikjjkapmaaGreatCo2
import Derived.Test.YtofabikjjkapmaaGreatCo3
import Derived.Test.YtofabikjjkapmaaGreatCo4
import Derived.Test.YtofabikjjkapmaaGreatCo1
import Derived.BigQuiet
import Derived.Deep.RegionLaw
import Derived.WalkSmall
import Derived.IntWalk
import Derived.Deep.CutRange
import Derived.Deep.CutBlock
import Derived.Deep.DeepCutAuto
import Derived.Deep.QuietTactic
import Derived.WalkLawsBesides
import Derived.Deep.RegionHeld3
import Derived.Test.YtofabikjjkapmaaGreatCo17
set_option linter.unusedVariables false
set_option linter.unusedSimpArgs false
namespace Go.Proofs.YtofabikjjkapmaaGreat
open Go.RowKit

theorem addk_len (k : Int) (a b : List Int) : (addk k a b).length = a.length := addTo_len _ _ _ _
theorem i_scaledM (w : World) (v : Value) (zs : List Int) (ha : Ints w v zs) (hN : Nums zs) (hn : zs.length ≤ 4294967296) :
    Calls Tryz.prog 130 #[v, .int .i64 (-1)] w fun e w' => ∃ r, e = .returned r ∧ OwnInts w' w.heap.size tI r (scl 10006 zs) ∧ Below w.heap.size w w' := by
  have h := i_scaled w v zs (-1) ha hN hn (by omega) (by omega)
  rwa [show (-1 : Int) % 10007 = 10006 from by decide] at h
theorem i_plusM (w : World) (v v' : Value) (a b : List Int) (ha : Ints w v a) (hb : Ints w v' b) (hA : Nums a) (hB : Nums b) (hl : a.length ≤ b.length) (hn : a.length ≤ 4294967296) :
    Calls Tryz.prog 98 #[v, v', .int .i64 (-1)] w fun e w' => ∃ r, e = .returned r ∧ OwnInts w' w.heap.size tI r (addk 10006 a b) ∧ Below w.heap.size w w' := by
  have h := i_plus w v v' a b (-1) ha hb hA hB hl hn (by omega) (by omega)
  rwa [show (-1 : Int) % 10007 = 10006 from by decide] at h
set_option maxRecDepth 100000 in
set_option maxHeartbeats 2000000 in
theorem im_inverse (w : World) (v : Value) (A : List (List Int)) (Bs : List Int) (ha : TabArg w v A Bs) (hT : NumTab A Bs) (hsq : ∀ zs ∈ A, zs.length ≤ Bs.length) :
    Calls Tryz.prog 145 #[v] w fun e w' => ∃ r, e = .returned r ∧ OT w' w.heap.size w'.heap.size r (A.map (fun r => addk 10006 r Bs)) (scl 10006 Bs) ∧ Below w.heap.size w w' := by
  obtain ⟨va, vb, rfl, hA, hB⟩ := ha
  have HB := Lib.hid hB
  have HA := Lib.hid hA
  obtain ⟨A1, c1, rfl, l1, l2, h3⟩ := hA.open_
  obtain ⟨A2, c2, rfl, -, -, -⟩ := hB.open_
  have H3 := Lib.hid h3
  have hal := hT.la
  have hbl := hT.lb
  have HT := Lib.hid hT
  have HSQ := Lib.hid hsq
  clear hsq
  clear hA hB h3 hT
  go_enter Tryz.func145, Tryz.ntmps145
  go_wp2_with fail
  refine (i_scaledM _ _ Bs (HB.out.below (below2 w _ _)) HT.out.ws (by omega)).mono ?_
  rintro e w3 ⟨v3, rfl, ho, hb3⟩
  simp only [size_alloc'] at ho hb3
  obtain ⟨A3, c3, hv, -, -, -⟩ := ho.ints.open_
  rw [scl_len] at hv
  subst hv
  have hs3 := hb3.size
  simp only [size_alloc'] at hs3
  have k0 : Blk w3 w.heap.size 37 #[.slice A1 A.length c1, .slice A2 Bs.length c2] := ((Blk.new w _ _).alloc _).below hb3 (by omega)
  have k1 : Blk w3 (w.heap.size + 1) 37 #[.slice none 0 0, .slice none 0 0] := (Blk.new1 w _ _ _).below hb3 (by omega)
  have g0 : (w3.alloc (.cells #[.slice none 0 0, .slice A3 Bs.length c3] 37)).cell? ⟨w.heap.size, 0, none⟩ = some (.slice A1 A.length c1) := (k0.alloc _).cell 0
  have HF := Lib.hid (show Fill w (w3.alloc (.cells #[.slice none 0 0, .slice A3 Bs.length c3] 37)) w3.heap.size (.slice none 0 0) (.slice A3 Bs.length c3) [] (w.heap.size + 1 + 1) [] (scl 10006 Bs) from
    ⟨Blk.new _ _ _, Own.nil _ _ _, RowsOwn.nil _ _ _ _, (OI.of ho).below (below1 _ _), by omega, ((below2 w _ _).trans (hb3.mono (by omega))).alloc (by omega) _⟩)
  have K1 := Lib.hid (k1.alloc (.cells #[.slice none 0 0, .slice A3 Bs.length c3] 37))
  have X1 := Lib.hid (k0.alloc (.cells #[.slice none 0 0, .slice A3 Bs.length c3] 37))
  have HP := Lib.hid hs3
  clear k0 k1 ho hb3 hs3
  go_wp2_with fail
  clear g0
  generalize hw4 : (w3.alloc (.cells #[.slice none 0 0, .slice A3 Bs.length c3] 37)) = w4 at HF K1 X1
  have HBelow4 := Lib.hid HF.out.below
  clear hw4
  generalize hp : w3.heap.size = p at HF HP ⊢
  clear hp
  go_loopw [13] (fun i wr => ∃ (j : Nat) (va : Value) (vs : List Value), j ≤ A.length ∧ i = .int .i64 j ∧ Fill w wr p va (.slice A3 Bs.length c3) vs (w.heap.size + 1 + 1) ((A.take j).map (fun r => addk 10006 r Bs)) (scl 10006 Bs) ∧ Blk wr (w.heap.size + 1) 37 #[.slice none 0 0, .slice none 0 0] ∧ Blk wr w.heap.size 37 #[.slice A1 A.length c1, .slice A2 Bs.length c2]) (fun i _ => A.length - (intOf i).toNat)
  case atStart => exact ⟨0, _, [], Nat.zero_le _, rfl, HF.out, K1.out, X1.out⟩
  case round =>
    obtain ⟨j, va, vs, hj, rfl, hfill, hk1, hx1⟩ := hrel
    clear HF K1 X1
    have X1 := Lib.hid hx1
    have x0 : wr.cell? ⟨w.heap.size, 1, none⟩ = some (.slice A2 Bs.length c2) := X1.out.cell 1
    clear hx1
    have HF := Lib.hid hfill
    have K1 := Lib.hid hk1
    have hvl : vs.length ≤ 1000 := by have := hfill.rows.1; simp at this; omega
    have HV := Lib.hid hvl
    clear hfill hk1 hvl
    by_cases hlt : j < A.length
    · obtain ⟨ad, u, zs, rfl, hz, hu, hc0⟩ := H3.out j hlt
      have hc : wr.cell? (ad.add j) = some u := by
        rw [HF.out.below.cell (by rw [block_add]; have := World.block_lt_of_cell? w _ hc0; rwa [block_add] at this)]; exact hc0
      have HU := Lib.hid (hu.below HF.out.below)
      have HZN := Lib.hid (HT.out.rows zs (List.mem_of_getElem? hz))
      have HZL := Lib.hid (HSQ.out zs (List.mem_of_getElem? hz))
      have HZ := Lib.hid hz
      clear hz hu hc0
      have q0 := (HF.out.blk.both (u := va) rfl).1
      have q1 := (HF.out.blk.both (u := va) rfl).2
      go_wp2_with fail
      go_region_law (first | (refine step_app1 T_row (B := p + 1) (v := va) (vs := vs) (HF.out.own.below (below_of_drew hb5)) (by have := HV.out; omega) (by have h1 := HF.out.lt; have h2 := hb5.size; simp at h2; omega) (by rfl) rfl (by rfl) (by rfl) (by rfl) ?_; intro v6 w6 hown6 hgr6; obtain ⟨A6, c6, hv6, -, -⟩ := hown6.cells.open_; subst hv6; have q6 := (((HF.out.after (below_of_drew hb5)).grow hgr6 HF.out.np).both (u := va) rfl).1; have q7 := (((HF.out.after (below_of_drew hb5)).grow hgr6 HF.out.np).both (u := va) rfl).2) | (go_simp; go_at_call 98; refine (i_plusM _ _ _ zs Bs (by exact HU.out) (by exact HB.out.below HF.out.below.drew) HZN.out.1 HT.out.ws HZL.out (by have := HZN.out.2; omega)).mono ?_; rintro e w5 ⟨r5, rfl, ho5, hb5⟩; obtain ⟨A5, c5, hv5, -, -, -⟩ := ho5.ints.open_; rw [addk_len] at hv5; subst hv5; have q5 := ((HF.out.after (below_of_drew hb5)).both (u := va) rfl).1; have q5a : ∀ o, (w5.alloc o).cell? ⟨p, 0, none⟩ = some va := fun o => ((HF.out.after (below_of_drew hb5)).alloc o).cell 0))
      all_goals
        have HN := Lib.hid (HF.out.next (zs := addk 10006 zs Bs) (r := Value.slice A5 zs.length c5) (by have := HP.out; omega) (below_of_drew hb5) ho5 hown6 hgr6)
        have KN := Lib.hid ((((K1.out.below (below_of_drew hb5) K1.out.lt).grow hgr6 (fun e => by have h1 := HF.out.own.ge _ e; have h2 := HP.out; omega))).far (p := ⟨p, 0, none⟩) (by have h2 := HP.out; simp; omega) (Value.slice A6 (vs ++ [Value.slice A5 zs.length c5]).length c6))
        have XN := Lib.hid ((((X1.out.below (below_of_drew hb5) X1.out.lt).grow hgr6 (fun e => by have h1 := HF.out.own.ge _ e; have h2 := HP.out; omega))).far (p := ⟨p, 0, none⟩) (by have h2 := HP.out; simp; omega) (Value.slice A6 (vs ++ [Value.slice A5 zs.length c5]).length c6))
        have HZT := Lib.hid (show (A.take (j + 1)).map (fun r => addk 10006 r Bs) = (A.take j).map (fun r => addk 10006 r Bs) ++ [addk 10006 zs Bs] by rw [List.take_add_one, HZ.out]; simp)
        simp only [List.length_append, List.length_singleton] at HN KN XN
        clear hown6 hgr6 ho5 hb5 q0 q1 q5 q5a q6 q7 hc x0
        go_wp2_with fail
        go_roundw
        case rel =>
          refine ⟨j + 1, .slice A6 (vs.length + 1) c6, vs ++ [.slice A5 zs.length c5], by omega, by go_num, ?_, KN.out, XN.out⟩
          rw [HZT.out]
          exact HN.out
        case measure => simp [intOf]; omega
    · have : j = A.length := by omega
      subst this
      rw [List.take_length] at HF
      obtain ⟨A7, c7, hv7, -, -⟩ := HF.out.own.cells.open_
      have hvl : vs.length = A.length := by have := HF.out.rows.1; simp at this; omega
      rw [hvl] at hv7
      subst hv7
      have e0 : wr.cell? ⟨p, 0, none⟩ = some (.slice A7 A.length c7) := HF.out.blk.cell 0
      have e1 : wr.cell? ⟨p, 1, none⟩ = some (.slice A3 Bs.length c3) := HF.out.blk.cell 1
      have f0 : wr.cell? ⟨w.heap.size + 1, 0, none⟩ = some (.slice none 0 0) := K1.out.cell 0
      have f1 : wr.cell? ⟨w.heap.size + 1, 1, none⟩ = some (.slice none 0 0) := K1.out.cell 1
      have f2 := K1.out.frozen 0
      have f3 := K1.out.frozen 1
      have HTAB := Lib.hid (HF.out.tab (by have := HP.out; omega))
      clear hvl
      go_wp2_with fail
      have c0 := Chg.refl (w.heap.size + 1) (w.heap.size + 1 + 1) wr
      have c1' := c0.setCell (p := ⟨w.heap.size + 1, 0, none⟩) (Nat.le_refl _) (by simp) (.slice A7 A.length c7)
      have c2' := c1'.setCell (p := ⟨w.heap.size + 1, 1, none⟩) (Nat.le_refl _) (by simp) (.slice A3 Bs.length c3)
      have hsb := HF.out.below.size
      refine bodyPost_ret (v := .agg #[.slice A7 A.length c7, .slice A3 Bs.length c3]) (by simp [results, Tryz.results145, go_sem, f0, f1]) rfl ⟨_, rfl, (HTAB.out.kept c2' (.inr (Nat.le_refl _))).mono (by omega) c2'.size, c2'.below HF.out.below (by omega) hsb⟩

end Go.Proofs.YtofabikjjkapmaaGreat

set_option linter.unusedVariables false
set_option linter.unusedSimpArgs false
namespace Go.Proofs.YtofabikjjkapmaaGreat
open Go.RowKit

def dn (n : Nat) : List Nat := (List.range n).map fun i => n - 1 - i
theorem dn_len (n : Nat) : (dn n).length = n := by simp [dn]
theorem dn_casts (n : Nat) : downTo n n = casts (dn n) := by simp [casts, dn, downTo, List.map_map]
theorem dn_lt {n a : Nat} (h : a ∈ dn n) : a < n := by
  obtain ⟨i, hi, rfl⟩ := List.mem_map.1 h
  have := List.mem_range.1 hi
  omega
/-- the rows ahead of the reordering -/
def adjM (A : List (List Int)) (Bs : List Int) : List (List Int) := (A.map fun r => addk 10006 r Bs).map (scl 10006)
def adjW (Bs : List Int) : List Int := scl 10006 (scl 10006 Bs)
def adjA (A : List (List Int)) (Bs : List Int) : List (List Int) := pRows (adjM A Bs) (dn Bs.length) (dn Bs.length)
def adjB (Bs : List Int) : List Int := pWs (adjW Bs) (dn Bs.length)
theorem adjM_len (A : List (List Int)) (Bs : List Int) : (adjM A Bs).length = A.length := by simp [adjM]
theorem adjW_len (Bs : List Int) : (adjW Bs).length = Bs.length := by simp [adjW, scl_len]
theorem adjA_len (A : List (List Int)) (Bs : List Int) : (adjA A Bs).length = Bs.length := by simp [adjA, pRows, dn_len]
theorem adjB_len (Bs : List Int) : (adjB Bs).length = Bs.length := by simp [adjB, pWs, dn_len]
theorem adjM_row {A : List (List Int)} {Bs : List Int} (hI : IsTab A Bs) : ∀ zs ∈ adjM A Bs, zs.length = (adjM A Bs).length := by
  intro zs hz
  obtain ⟨ys, hy, rfl⟩ := List.mem_map.1 hz
  obtain ⟨xs, hx, rfl⟩ := List.mem_map.1 hy
  rw [scl_len, addk_len, adjM_len, (hI.row xs hx).1, hI.len]
theorem inv_numTab {A : List (List Int)} {Bs : List Int} (hI : IsTab A Bs) : NumTab (A.map fun r => addk 10006 r Bs) (scl 10006 Bs) := by
  have h1 := hI.len
  have h2 := hI.hi
  refine ⟨by simp; omega, by rw [scl_len]; omega, fun zs hz => ?_, scl_nums _ _⟩
  obtain ⟨xs, hx, rfl⟩ := List.mem_map.1 hz
  refine ⟨addTo_nums _ _ _ _, ?_⟩
  rw [addk_len, (hI.row xs hx).1]
  omega

set_option maxRecDepth 100000 in
set_option maxHeartbeats 2000000 in
theorem im_adjoint (w : World) (v : Value) (A : List (List Int)) (Bs : List Int) (ha : TabArg w v A Bs) (hI : IsTab A Bs) :
    Calls Tryz.prog 80 #[v] w fun e w' => ∃ r, e = .returned r ∧ OT w' w.heap.size w'.heap.size r (adjA A Bs) (adjB Bs) ∧ Below w.heap.size w w' := by
  have HT := Lib.hid ha
  obtain ⟨Aa, ca, Ab, cb, rfl⟩ := ha.open_
  have B0 := Lib.hid (below2 w (.cells #[.slice Aa A.length ca, .slice Ab Bs.length cb] 37) (.cells #[.slice none 0 0, .slice none 0 0] 37))
  have K0 := Lib.hid ((Blk.new w #[.slice Aa A.length ca, .slice Ab Bs.length cb] 37).alloc (.cells #[.slice none 0 0, .slice none 0 0] 37))
  have K1 := Lib.hid (Blk.new1 w (.cells #[.slice Aa A.length ca, .slice Ab Bs.length cb] 37) #[.slice none 0 0, .slice none 0 0] 37)
  have HI := Lib.hid hI
  have hlo := hI.lo
  have hhi := hI.hi
  clear ha hI
  go_enter Tryz.func80, Tryz.ntmps80
  go_wp2_with fail
  refine (im_allStages _ _ A Bs (HT.out.below B0.out) (by omega)).mono ?_
  rintro e w3 ⟨v3, rfl, ho3, hb3⟩
  obtain ⟨A3, c3, hv3, -, -, -⟩ := ho3.ints.open_
  rw [upTo_len] at hv3
  subst hv3
  have B3 := Lib.hid (B0.out.trans (hb3.mono B0.out.size))
  have X0 := Lib.hid (K0.out.below hb3 K0.out.lt)
  have X1 := Lib.hid (K1.out.below hb3 K1.out.lt)
  have HO3 := Lib.hid (ho3.mono (B' := w.heap.size + 1 + 1) (by simp))
  have hs3 := hb3.size
  simp only [size_alloc'] at hs3
  have HS3 := Lib.hid hs3
  clear ho3 hb3 hs3 K0 K1
  go_wp2_with fail
  refine (lib_Reverse _ (w.heap.size + 1 + 1) _ _ HO3.out (by rw [upTo_len]; omega) (by rw [upTo_len]; omega)).mono ?_
  rintro e w4 ⟨⟨x, rfl⟩, ho4, hg4⟩
  rw [upTo_reverse, dn_casts] at ho4
  have hge : ∀ b, (Value.slice A3 Bs.length c3).ownBlock = some b → w.heap.size + 1 + 1 ≤ b := HO3.out.1.ge
  have C4 : Chg (w.heap.size + 1 + 1) w3.heap.size w3 w4 := Chg.of_grown hg4 (fun b hb => ⟨hge b hb, HO3.out.1.lt b hb⟩)
  have B4 := Lib.hid (C4.below B3.out (by omega) B3.out.size)
  have Y0 := Lib.hid (X0.out.chg C4 (.inl (by omega)))
  have Y1 := Lib.hid (X1.out.chg C4 (.inl (by omega)))
  have HO4 := Lib.hid ho4
  have HS4 := Lib.hid C4.size
  have g0 : w4.cell? ⟨w.heap.size, 0, none⟩ = some (.slice Aa A.length ca) := Y0.out.cell 0
  have g1 : w4.cell? ⟨w.heap.size, 1, none⟩ = some (.slice Ab Bs.length cb) := Y0.out.cell 1
  clear ho4 hg4 hge X0 X1 C4
  go_wp2_with fail
  refine (im_inverse _ _ A Bs (HT.out.below B4.out) HI.out.numTab (fun zs hz => by rw [(HI.out.row zs hz).1]; omega)).mono ?_
  rintro e w5 ⟨v5, rfl, ho5, hb5⟩
  obtain ⟨A5, c5, A5b, c5b, rfl⟩ := ho5.open_
  rw [List.length_map, scl_len] at ho5 ⊢
  have HO5 := Lib.hid ho5
  have B5 := Lib.hid (B4.out.trans (hb5.mono B4.out.size))
  have HB5 := Lib.hid hb5
  clear ho5 hb5 g0 g1
  go_wp2_with fail
  refine (im_times _ _ _ _ (-1) HO5.out.arg (inv_numTab HI.out) (by omega) (by omega)).mono ?_
  rintro e w6 ⟨v6, rfl, ho6, hb6⟩
  obtain ⟨A6, c6, A6b, c6b, rfl⟩ := ho6.open_
  rw [show (-1 : Int) % 10007 = 10006 from by decide] at ho6 ⊢
  have ho6' : OT w6 w5.heap.size w6.heap.size _ (adjM A Bs) (adjW Bs) := ho6
  simp only [List.length_map, scl_len] at ho6' ⊢
  have HO6 := Lib.hid ho6'
  have B6 := Lib.hid (B5.out.trans (hb6.mono B5.out.size))
  have HB6 := Lib.hid (HB5.out.trans (hb6.mono HB5.out.size))
  clear ho6 ho6' hb6
  go_wp2_with fail
  refine (im_reordered _ _ _ _ _ (dn Bs.length) HO6.out.arg (HO4.out.below HB6.out).ints (by rw [dn_len]; omega) (fun a h => by have := dn_lt h; have := HI.out.len; rw [adjM_len, adjW_len]; omega) (adjM_row HI.out)).mono ?_
  rintro e w7 ⟨v7, rfl, ho7, hb7⟩
  have ho7' : OT w7 w6.heap.size w7.heap.size v7 (adjA A Bs) (adjB Bs) := ho7
  obtain ⟨A7, c7, A7b, c7b, rfl⟩ := ho7'.open_
  rw [adjA_len, adjB_len] at ho7' ⊢
  have HO7 := Lib.hid ho7'
  have B7 := Lib.hid (B6.out.trans (hb7.mono B6.out.size))
  have Z1 := Lib.hid (Y1.out.below (HB6.out.trans (hb7.mono HB6.out.size)) Y1.out.lt)
  have f0 : w7.cell? ⟨w.heap.size + 1, 0, none⟩ = some (.slice none 0 0) := Z1.out.cell 0
  have f1 : w7.cell? ⟨w.heap.size + 1, 1, none⟩ = some (.slice none 0 0) := Z1.out.cell 1
  have f2 := Z1.out.frozen 0
  have f3 := Z1.out.frozen 1
  have HSZ := Lib.hid (show w.heap.size + 1 + 1 ≤ w6.heap.size from Nat.le_trans (Nat.le_trans HS3.out HS4.out) HB6.out.size)
  clear ho7 ho7' hb7
  go_wp2_with fail
  have c0 := Chg.refl (w.heap.size + 1) (w.heap.size + 1 + 1) w7
  have c1' := c0.setCell (p := ⟨w.heap.size + 1, 0, none⟩) (Nat.le_refl _) (by simp) (.slice A7 Bs.length c7)
  have c2' := c1'.setCell (p := ⟨w.heap.size + 1, 1, none⟩) (Nat.le_refl _) (by simp) (.slice A7b Bs.length c7b)
  refine bodyPost_ret (v := .agg #[.slice A7 Bs.length c7, .slice A7b Bs.length c7b]) (by simp [results, Tryz.results80, go_sem, f0, f1]) rfl ⟨_, rfl, (HO7.out.kept c2' (.inr HSZ.out)).mono (by have := HSZ.out; omega) c2'.size, c2'.below B7.out (by omega) B7.out.size⟩
end Go.Proofs.YtofabikjjkapmaaGreat

set_option linter.unusedVariables false
set_option linter.unusedSimpArgs false
namespace Go.Proofs.YtofabikjjkapmaaGreat
open Go.RowKit

def adjTA (A : List (List Int)) (Bs : List Int) : List (List Int) := if tabB A Bs then adjA A Bs else []
def adjTB (A : List (List Int)) (Bs : List Int) : List Int := if tabB A Bs then adjB Bs else []
def adjTC (A : List (List Int)) (Bs : List Int) : Int := if tabB A Bs then 0 else 1
def IsAdj (A : List (List Int)) (Bs : List Int) (RA : List (List Int)) (RB : List Int) (c : Int) : Prop := RA = adjTA A Bs ∧ RB = adjTB A Bs ∧ c = adjTC A Bs
theorem IsAdj.unique {A : List (List Int)} {Bs : List Int} {RA RA' : List (List Int)} {RB RB' : List Int} {c c' : Int} (h : IsAdj A Bs RA RB c) (h' : IsAdj A Bs RA' RB' c') : RA = RA' ∧ RB = RB' ∧ c = c' := by
  obtain ⟨rfl, rfl, rfl⟩ := h
  obtain ⟨rfl, rfl, rfl⟩ := h'
  exact ⟨rfl, rfl, rfl⟩
theorem IsAdj.short {A : List (List Int)} {Bs : List Int} {RA : List (List Int)} {RB : List Int} {c : Int} (h : IsAdj A Bs RA RB c) : tot RA ≤ 1000 ∧ RB.length ≤ 1000 := by
  obtain ⟨rfl, rfl, rfl⟩ := h
  unfold adjTA adjTB
  cases ht : tabB A Bs with
  | false => simp [tot]
  | true =>
    have hI := isTab_of ht
    have h1 : tot (adjA A Bs) ≤ (adjA A Bs).length * 8 := tot_le fun zs hz => by
      obtain ⟨a, ha, rfl⟩ := List.mem_map.1 hz
      have := hI.hi
      simp [pRow, dn_len]
      omega
    have := hI.hi
    rw [adjA_len] at h1
    simp only [if_true]
    rw [adjB_len]
    omega

set_option maxRecDepth 100000 in
set_option maxHeartbeats 2000000 in
theorem i_AdjointTableau (w : World) (v : Value) (A : List (List Int)) (Bs : List Int) (ha : TabArg w v A Bs) :
    Calls Tryz.prog 32 #[v] w fun e w' => ∃ RA RB v' c, e = .returned (.tuple #[v', .int .i64 c]) ∧ IsAdj A Bs RA RB c ∧ OT w' w.heap.size w'.heap.size v' RA RB ∧ Below w.heap.size w w' := by
  have HT := Lib.hid ha
  obtain ⟨Aa, ca, Ab, cb, rfl⟩ := ha.open_
  have B0 := Lib.hid (below2 w (.cells #[.slice Aa A.length ca, .slice Ab Bs.length cb] 37) (.cells #[.slice none 0 0, .slice none 0 0] 37))
  have K0 := Lib.hid ((Blk.new w #[.slice Aa A.length ca, .slice Ab Bs.length cb] 37).alloc (.cells #[.slice none 0 0, .slice none 0 0] 37))
  have K1 := Lib.hid (Blk.new1 w (.cells #[.slice Aa A.length ca, .slice Ab Bs.length cb] 37) #[.slice none 0 0, .slice none 0 0] 37)
  clear ha
  go_enter Tryz.func32, Tryz.ntmps32
  go_wp2_with fail
  refine (i_IsTableau _ _ _ _ (HT.out.below B0.out)).mono ?_
  rintro e w1 ⟨rfl, hb1⟩
  have B1 := Lib.hid (B0.out.trans (hb1.mono B0.out.size))
  have X0 := Lib.hid (K0.out.below hb1 K0.out.lt)
  have X1 := Lib.hid (K1.out.below hb1 K1.out.lt)
  have hs1 := hb1.size
  simp only [size_alloc'] at hs1
  have HS1 := Lib.hid hs1
  have g0 : w1.cell? ⟨w.heap.size, 0, none⟩ = some (.slice Aa A.length ca) := X0.out.cell 0
  have g1 : w1.cell? ⟨w.heap.size, 1, none⟩ = some (.slice Ab Bs.length cb) := X0.out.cell 1
  have f0 : w1.cell? ⟨w.heap.size + 1, 0, none⟩ = some (.slice none 0 0) := X1.out.cell 0
  have f1 : w1.cell? ⟨w.heap.size + 1, 1, none⟩ = some (.slice none 0 0) := X1.out.cell 1
  have f2 := X1.out.frozen 0
  have f3 := X1.out.frozen 1
  clear hb1 K0 K1 hs1
  cases ht : tabB A Bs with
  | false =>
    have HQ := Lib.hid ht
    go_wp2_with fail
    have c0 := Chg.refl (w.heap.size + 1) (w.heap.size + 1 + 1) w1
    have c1' := c0.setCell (p := ⟨w.heap.size + 1, 0, none⟩) (Nat.le_refl _) (by simp) (.slice none 0 0)
    have c2' := c1'.setCell (p := ⟨w.heap.size + 1, 1, none⟩) (Nat.le_refl _) (by simp) (.slice none 0 0)
    refine bodyPost_ret (v := .tuple #[.agg #[.slice none 0 0, .slice none 0 0], .int .i64 1]) (by simp [results, Tryz.results32, go_sem, f0, f1]) rfl ⟨[], [], _, _, rfl, ⟨by simp [adjTA, HQ.out], by simp [adjTB, HQ.out], by simp [adjTC, HQ.out]⟩, OT.nil _ _ _, c2'.below B1.out (by omega) B1.out.size⟩
  | true =>
    have HQ := Lib.hid ht
    have HI := Lib.hid (isTab_of ht)
    go_wp2_with fail
    refine (im_adjoint _ _ A Bs (HT.out.below B1.out) HI.out).mono ?_
    rintro e w2 ⟨r, rfl, hot, hb2⟩
    obtain ⟨A3, c3, A4, c4, rfl⟩ := hot.open_
    rw [adjA_len, adjB_len] at hot ⊢
    have HO := Lib.hid hot
    have B2 := Lib.hid (B1.out.trans (hb2.mono B1.out.size))
    have X2 := Lib.hid (X1.out.below hb2 X1.out.lt)
    clear g0 g1 f0 f1 f2 f3 hot hb2
    have f0 : w2.cell? ⟨w.heap.size + 1, 0, none⟩ = some (.slice none 0 0) := X2.out.cell 0
    have f1 : w2.cell? ⟨w.heap.size + 1, 1, none⟩ = some (.slice none 0 0) := X2.out.cell 1
    have f2 := X2.out.frozen 0
    have f3 := X2.out.frozen 1
    go_wp2_with fail
    have c0 := Chg.refl (w.heap.size + 1) (w.heap.size + 1 + 1) w2
    have c1' := c0.setCell (p := ⟨w.heap.size + 1, 0, none⟩) (Nat.le_refl _) (by simp) (.slice A3 Bs.length c3)
    have c2' := c1'.setCell (p := ⟨w.heap.size + 1, 1, none⟩) (Nat.le_refl _) (by simp) (.slice A4 Bs.length c4)
    refine bodyPost_ret (v := .tuple #[.agg #[.slice A3 Bs.length c3, .slice A4 Bs.length c4], .int .i64 0]) (by simp [results, Tryz.results32, go_sem, f0, f1]) rfl ⟨_, _, _, _, rfl, ⟨by simp [adjTA, HQ.out], by simp [adjTB, HQ.out], by simp [adjTC, HQ.out]⟩, (HO.out.kept c2' (.inr HS1.out)).mono B1.out.size c2'.size, c2'.below B2.out (by omega) B2.out.size⟩

end Go.Proofs.YtofabikjjkapmaaGreat

set_option linter.unusedVariables false
set_option linter.unusedSimpArgs false
namespace Go.Proofs.YtofabikjjkapmaaGreat
open Go.RowKit

end Go.Proofs.YtofabikjjkapmaaGreat

set_option maxRecDepth 100000
set_option linter.unusedVariables false
set_option linter.unusedSimpArgs false
namespace Go.Proofs.YtofabikjjkapmaaGreat
open Go.RowKit

end Go.Proofs.YtofabikjjkapmaaGreat

set_option maxRecDepth 100000
set_option linter.unusedVariables false
set_option linter.unusedSimpArgs false
namespace Go.Proofs.YtofabikjjkapmaaGreat
open Go.RowKit

/-- bytes that can be read, in a block below B -/
def ByB (w : World) (B : Nat) (A : Option Addr) (n : Nat) : Prop := ∀ k, k < n → ∃ ad z, A = some ad ∧ ad.block < B ∧ ad.block < w.heap.size ∧ 0 ≤ z ∧ z ≤ 255 ∧ w.cell? (ad.add k) = some (.int .u8 z)
/-- a byte slice that can be read -/
def Bts (w : World) (v : Value) (n : Nat) : Prop := ∃ A c, v = .slice A n c ∧ ByB w w.heap.size A n
/-- a source of numbers in block p: the bytes, the place, the hash -/
def Src (w : World) (B : Nat) (t : TypeId) (p : Nat) : Prop := ∃ (A : Option Addr) (n c k : Nat) (h : Int), Blk w p t #[.slice A n c, .int .i64 k, .int .u64 h] ∧ B ≤ p ∧ ByB w B A n ∧ k ≤ n ∧ n ≤ 1000000 ∧ 0 ≤ h ∧ h < 18446744073709551616
abbrev at0 (p : Nat) : Value := .pointer (some ⟨p, 0, none⟩)
theorem ByB.grown {w w' : World} {B n p : Nat} {A : Option Addr} (h : ByB w B A n) (hg : w.grownBy w' (some p)) (hp : B ≤ p) : ByB w' B A n := fun k hk => by
  obtain ⟨ad, z, rfl, h1, h2, h3, h4, h5⟩ := h k hk
  refine ⟨ad, z, rfl, h1, Nat.lt_of_lt_of_le h2 hg.size, h3, h4, ?_⟩
  have hb : w'.heap[ad.block]? = w.heap[ad.block]? := hg.block ad.block h2 (fun e => by injection e with e; omega)
  rw [← h5]
  unfold World.cell?
  simp only [block_add]
  rw [hb]
theorem gset (w : World) (g i : Nat) (u : Value) : w.grownBy (w.setCell ⟨g, i, none⟩ u) (some g) := by
  have b := Below.setCell (B := 0) (Below.refl 0 w) (p := ⟨g, i, none⟩) (Nat.zero_le _) u
  exact ⟨b.os, b.tape, b.output, b.size, fun k hk hne => Below.heap_setCell w _ u k (fun e => hne (by rw [e]))⟩
theorem w64_dr (x : Int) (h : -9223372036854775808 ≤ x ∧ x ≤ 9223372036854775807) : wrap64 x = x := by unfold wrap64; omega
theorem u64_bd (x : Int) : 0 ≤ IntKind.u64.wrap x ∧ IntKind.u64.wrap x < 18446744073709551616 := by rw [IntKind.wrap_u64]; omega
theorem bits_bd {x : Int} (h0 : 0 ≤ x) (h1 : x < 18446744073709551616) : 0 ≤ bits BinOp.and IntKind.u64 x 16777215 ∧ bits BinOp.and IntKind.u64 x 16777215 ≤ 16777215 := by
  have h := bits_and_u64_nat x.toNat 16777215 (by omega) (by omega)
  rw [Int.toNat_of_nonneg h0] at h
  have h2 : x.toNat &&& 16777215 ≤ 16777215 := Nat.and_le_right
  rw [show (16777215 : Int) = ((16777215 : Nat) : Int) from rfl, h]
  omega
/-- what one step of the hash gives -/
theorem hash_bd (z : Int) : ∃ x y : Int, x = IntKind.u64.wrap z ∧ 0 ≤ x ∧ x < 18446744073709551616 ∧ y = bits BinOp.and IntKind.u64 (x / 8589934592) 16777215 ∧ wrap64 (bits BinOp.and IntKind.u64 (x / 8589934592) 16777215) = y ∧ 0 ≤ y ∧ y ≤ 16777215 := by
  have h1 := u64_bd z
  have h2 := bits_bd (x := IntKind.u64.wrap z / 8589934592) (by omega) (by omega)
  exact ⟨_, _, rfl, h1.1, h1.2, rfl, w64_dr _ (by omega), h2.1, h2.2⟩
theorem rem_bd {x n : Int} (h0 : 0 ≤ x) (h1 : 1 ≤ n) : 0 ≤ x % n ∧ x % n < n := ⟨Int.emod_nonneg _ (by omega), Int.emod_lt_of_pos _ (by omega)⟩
theorem gtrans {w w1 w2 : World} {b : Option Nat} (h : w.grownBy w1 b) (h' : w1.grownBy w2 b) : w.grownBy w2 b :=
  ⟨h'.os.trans h.os, h'.tape.trans h.tape, h'.output.trans h.output, Nat.le_trans h.size h'.size, fun k hk hne => (h'.block k (Nat.lt_of_lt_of_le hk h.size) hne).trans (h.block k hk hne)⟩
theorem gof {w w' : World} {r : Option Nat} (h : Below w.heap.size w w') : w.grownBy w' r := ⟨h.os, h.tape, h.output, h.size, fun k hk _ => h.block k hk⟩
/-- the source is kept where others grow -/
theorem Src.kept {w w' : World} {B p : Nat} {t : TypeId} {r : Option Nat} (h : Src w B t p) (hg : w.grownBy w' r) (hne : r ≠ some p) (hr : ∀ b, r = some b → B ≤ b) : Src w' B t p := by
  obtain ⟨A, m, c, k, hs, hk, hB, hby, h1⟩ := h
  refine ⟨A, m, c, k, hs, (hg.block p hk.lt (fun e => hne e.symm)).trans hk, hB, fun j hj => ?_, h1⟩
  obtain ⟨ad, z, rfl, a1, a2, z0, z1, hc⟩ := hby j hj
  refine ⟨ad, z, rfl, a1, Nat.lt_of_lt_of_le a2 hg.size, z0, z1, ?_⟩
  have hb : w'.heap[ad.block]? = w.heap[ad.block]? := hg.block ad.block a2 (fun e => by have := hr _ e.symm; omega)
  rw [← hc]
  unfold World.cell?
  simp only [block_add]
  rw [hb]
theorem Src.below {w w' : World} {B p : Nat} {t : TypeId} (h : Src w B t p) (hg : Below w.heap.size w w') : Src w' B t p := h.kept (r := none) (gof hg) (by simp) (by simp)
theorem Src.ge {w : World} {B p : Nat} {t : TypeId} (h : Src w B t p) : B ≤ p := by obtain ⟨A, m, c, k, hs, hk, hB, -⟩ := h; exact hB
theorem Src.lt {w : World} {B p : Nat} {t : TypeId} (h : Src w B t p) : p < w.heap.size := by obtain ⟨A, m, c, k, hs, hk, hB, -⟩ := h; exact hk.lt
theorem gthen {w w1 w2 : World} {p : Nat} {r : Option Nat} (h : w.grownBy w1 (some p)) (h' : w1.grownBy w2 r) (hr : ∀ b, r = some b → w.heap.size ≤ b) : w.grownBy w2 (some p) :=
  ⟨h'.os.trans h.os, h'.tape.trans h.tape, h'.output.trans h.output, Nat.le_trans h.size h'.size, fun k hk hne => (h'.block k (Nat.lt_of_lt_of_le hk h.size) (fun e => by have := hr _ e.symm; omega)).trans (h.block k hk hne)⟩
theorem Own.src {w w' : World} {C p : Nat} {e : TypeId} {v : Value} {vs : List Value} (h : Own w C e v vs) (hp : p < C) (hg : w.grownBy w' (some p)) : Own w' C e v vs := h.kept hg (by
  cases hb : v.ownBlock with
  | none => exact .inl rfl
  | some b => exact .inr fun e => by injection e with e; have := h.ge b hb; omega)
end Go.Proofs.YtofabikjjkapmaaGreat

set_option maxRecDepth 100000
set_option linter.unusedVariables false
set_option linter.unusedSimpArgs false
namespace Go.Proofs.YtofabikjjkapmaaGreat
open Go.RowKit

end Go.Proofs.YtofabikjjkapmaaGreat

set_option linter.unusedVariables false
set_option linter.unusedSimpArgs false
namespace Go.Proofs.YtofabikjjkapmaaGreat
open Go.RowKit

theorem adjA_ad (A : List (List Int)) (Bs : List Int) : adjA A Bs = adA A Bs := rfl
theorem adjB_ad (Bs : List Int) : adjB Bs = adB Bs := rfl
theorem adj_ok {A : List (List Int)} {Bs : List Int} (h : tabB A Bs = true) :
    tabB (adA A Bs) (adB Bs) = true ∧ adA (adA A Bs) (adB Bs) = A ∧ adB (adB Bs) = Bs ∧ tabB (invT A Bs) (scl 10006 Bs) = true ∧ invT (invT A Bs) (scl 10006 Bs) = A ∧ scl 10006 (scl 10006 Bs) = Bs ∧ ordR (adA A Bs) (adB Bs) = ordR A Bs ∧ (adB Bs).length = Bs.length := by
  have hI := isTab_of h
  have hS := SqT.of hI
  have t1 := tabB_sq hS.ad hI.lo hI.hi
  obtain ⟨a1, a2⟩ := ad_ad hS
  obtain ⟨b1, b2⟩ := inv_inv hS
  refine ⟨t1, a1, a2, tabB_sq hS.inv hI.lo hI.hi, b1, b2, ?_, hS.ad.lb⟩
  unfold ordR
  rw [if_pos h, if_pos t1]
  exact ad_order hS
/-- the adjoint: what IsAdj says of a tableau -/
theorem isAdj_ok {A RA : List (List Int)} {Bs RB : List Int} {c : Int} (h : tabB A Bs = true) (hr : IsAdj A Bs RA RB c) : RA = adA A Bs ∧ RB = adB Bs ∧ c = 0 := by
  obtain ⟨rfl, rfl, rfl⟩ := hr
  exact ⟨by simp [adjTA, h, adjA_ad], by simp [adjTB, h, adjB_ad], by simp [adjTC, h]⟩
end Go.Proofs.YtofabikjjkapmaaGreat

set_option maxRecDepth 100000
set_option linter.unusedVariables false
set_option linter.unusedSimpArgs false
namespace Go.Proofs.YtofabikjjkapmaaGreat
open Go.RowKit

def rowTo (zs : List Int) (i m : Nat) : List Int := (List.range m).map fun j => integ (lag zs j) (zs.getD i 0)
theorem rowTo_succ (zs : List Int) (i m : Nat) : rowTo zs i (m + 1) = rowTo zs i m ++ [integ (lag zs m) (zs.getD i 0)] := by simp [rowTo, List.range_succ]
theorem rowTo_len (zs : List Int) (i m : Nat) : (rowTo zs i m).length = m := by simp [rowTo]
theorem rowTo_in (zs : List Int) (i m : Nat) : ∀ z ∈ rowTo zs i m, In64 z := by
  intro z hz
  obtain ⟨j, _, rfl⟩ := List.mem_map.1 hz
  have := integ_bd (lag zs j) (zs.getD i 0)
  unfold In64
  omega
theorem lag_nums (zs : List Int) (j : Nat) : Nums (lag zs j) := lagI_nums _ _ _ _
theorem lag_le5 (zs : List Int) (j : Nat) : (lag zs j).length ≤ zs.length + 1 := (lagI_len _ _ _ _).2

set_option maxHeartbeats 4000000 in
theorem s_l11Collocation (w : World) (v : Value) (zs : List Int) (ha : Ints w v zs) (hN : Nums zs) (hn : zs.length ≤ 900) :
    Calls Tryz.prog 72 #[v] w fun e w' => ∃ r, e = .returned r ∧ OT w' w.heap.size w'.heap.size r (colA zs zs.length) (colB zs zs.length) ∧ Below w.heap.size w w' := by
  have HA := Lib.hid ha
  obtain ⟨A, c, rfl, l1, l2, h3⟩ := ha.open_
  have H3 := Lib.hid h3
  have HN := Lib.hid hN
  clear h3 ha hN
  go_enter Tryz.func72, Tryz.ntmps72
  go_wp2_with fail
  have HF := Lib.hid (show Fill2 w ((w.alloc (.cells #[.slice none 0 0, .slice none 0 0] 37)).alloc (.cells #[.slice none 0 0, .slice none 0 0] 37)) (w.heap.size + 1) (.slice none 0 0) (.slice none 0 0) [] [] [] from
    ⟨Blk.new1 _ _ _ _, Own.nil _ _ _, RowsOwn.nil _ _ _ _, OwnInts.nil _ _ _, fun k u hu => by simp at hu, below2 _ _ _⟩)
  have K0 := Lib.hid ((Blk.new w #[.slice none 0 0, .slice none 0 0] 37).alloc (.cells #[.slice none 0 0, .slice none 0 0] 37))
  generalize ((w.alloc (.cells #[.slice none 0 0, .slice none 0 0] 37)).alloc (.cells #[.slice none 0 0, .slice none 0 0] 37)) = w3 at HF K0 ⊢
  go_loopw [4] (fun i wr => ∃ (j : Nat) (va vb : Value) (vs : List Value), j ≤ zs.length ∧ i = .int .i64 j ∧ Fill2 w wr (w.heap.size + 1) va vb vs (colA zs j) (colB zs j) ∧ Blk wr w.heap.size 37 #[.slice none 0 0, .slice none 0 0]) (fun i _ => zs.length - (intOf i).toNat)
  case atStart => exact ⟨0, _, _, [], Nat.zero_le _, rfl, HF.out, K0.out⟩
  case round =>
    obtain ⟨j, va, vb, vs, hj, rfl, hfill, hk0⟩ := hrel
    clear HF K0
    have HF := Lib.hid hfill
    have K0 := Lib.hid hk0
    clear hfill hk0
    by_cases hlt : j < zs.length
    · obtain ⟨ad, x, rfl, hx, hx64, hcx0⟩ := H3.out j hlt
      have hxn := HN.out x (List.mem_of_getElem? hx)
      have HX := Lib.hid (show zs.getD j 0 = x by simp [List.getD, hx])
      have HC := Lib.hid hcx0
      have hji : (j : Int) < (zs.length : Int) := by omega
      clear hx hcx0
      have OL := Lib.hid (own_lit wr tI [] (by simp [maxLen]))
      go_wp2_with fail
      obtain ⟨wo, rfl⟩ : ∃ wo : World, wo = wr := ⟨_, rfl⟩
      go_loopw [5, 6] (fun o k wi => ∃ m : Nat, m ≤ zs.length ∧ k = .int .i64 m ∧ Own wi wo.heap.size tI o (ints (rowTo zs j m)) ∧ Below wo.heap.size wo wi) (fun _ k _ => zs.length - (intOf k).toNat)
      case atStart => exact ⟨0, Nat.zero_le _, rfl, by simpa [rowTo, ints] using OL.out, below1 _ _⟩
      case round =>
        obtain ⟨m, hm, rfl, hown, hb⟩ := hrel
        clear OL
        have HO := Lib.hid hown
        have HB := Lib.hid hb
        have HW := Lib.hid (HF.out.below.trans (hb.mono HF.out.below.size))
        clear hown hb
        by_cases hlt2 : m < zs.length
        · have hc : wr.cell? (ad.add j) = some (.int .i64 x) := by
            rw [HW.out.cell (by rw [block_add]; have := World.block_lt_of_cell? w _ HC.out; rwa [block_add] at this)]; exact HC.out
          have HPR := Lib.hid (rowTo_succ zs j m)
          have hmi : (m : Int) < (zs.length : Int) := by omega
          have hll := lag_le5 zs m
          go_wp2_with fail
          go_region_law (first
            | (refine step_app1 T_int (B := wo.heap.size) (W := w5.drewN n7) (show Own (w5.drewN n7) wo.heap.size tI _ (ints (rowTo zs j m)) from HO.out.below (below_drewN (below_of_drew hb5) _)) (by rw [ints_len, rowTo_len]; omega) (by have h1 := HB.out.size; have h2 := hb5.size; simp at h2 ⊢; omega) (by rfl) rfl (by rfl) (by rfl) (by rfl) ?_; intro v6 w6 hown6 hgr6)
            | (go_simp; go_at_call 136; refine (s_l11Lagrange _ _ zs m (by exact HA.out.below HW.out.drew) HN.out (by omega) hlt2).mono ?_; rintro e w5 ⟨r5, rfl, ho5, hb5⟩; have hc5 : w5.cell? (ad.add j) = some (.int .i64 x) := (by rw [hb5.cell (by exact World.block_lt_of_cell? wr _ hc)]; exact hc))
            | (go_simp; go_at_call 135; refine (s_l11Integral _ _ (lag zs m) x (by exact ho5.ints) (lag_nums _ _) (by omega) hxn.1 hxn.2).mono ?_; rintro e w7 ⟨rfl, n7, rfl⟩))
          all_goals
            have HN6 := Lib.hid (hgr6.below (B := wo.heap.size) (below_drewN (HB.out.trans ((below_of_drew hb5).mono HB.out.size)) _) (by have h1 := HB.out.size; have h2 := hb5.size; simp at h2 ⊢; omega) HO.out.ge)
            have HO6 := Lib.hid hown6
            clear hown6 hgr6 ho5 hb5 hc5 hc
            go_wp2_with fail
            go_roundw
            case rel =>
              refine ⟨m + 1, by omega, by go_num, ?_, HN6.out⟩
              rw [HPR.out, HX.out]
              simpa [ints] using HO6.out
            case measure => simp [intOf]; omega
        · have : m = zs.length := by omega
          subst this
          have HIN := Lib.hid (rowTo_in zs j zs.length)
          obtain ⟨A6, c6, hv6, -, -, -⟩ := (show Ints wr _ (rowTo zs j zs.length) from ⟨HO.out.cells, HIN.out⟩).open_
          rw [rowTo_len] at hv6
          subst hv6
          have HF2 := Lib.hid (HF.out.step HB.out)
          have q0 : wr.cell? ⟨w.heap.size + 1, 0, none⟩ = some va := HF2.out.blk.cell 0
          have hll := lag_le5 zs j
          go_wp2_with (at_builtin; refine wpList_app1 T_row (B := w.heap.size + 1 + 1) (v := va) (vs := vs) HF2.out.own (by have := HF2.out.rows.1; rw [colA_len] at this; omega) (by have := HF2.out.lt; omega) (by rfl) rfl (by rfl) (by rfl) (by rfl) ?_; intro v1 w1 hown1 hgr1; obtain ⟨A8, c8, hv8, -, -⟩ := hown1.cells.open_; subst hv8; have q6 := ((HF2.out.blk.grow hgr1 HF2.out.npA).both (u := va) rfl).1; have q7 := ((HF2.out.blk.grow hgr1 HF2.out.npA).both (u := va) rfl).2)
          have HA2 := Lib.hid (HF.out.nextA' (zs := rowTo zs j zs.length) (Nat.le_succ _) HB.out ⟨HO.out, HIN.out⟩ hown1 hgr1)
          have KA := Lib.hid (((K0.out.below HB.out K0.out.lt).grow hgr1 (fun e => by have := HF.out.own.ge _ e; omega)).far (p := ⟨w.heap.size + 1, 0, none⟩) (by simp) (.slice A8 (vs ++ [Value.slice A6 zs.length c6]).length c8))
          simp only [List.length_append, List.length_singleton] at HA2 KA
          clear hown1 hgr1 q0 q6 q7 HO HF2 K0 hlt2
          generalize (w1.setCell ⟨w.heap.size + 1, 0, none⟩ (.slice A8 (vs.length + 1) c8)) = w2 at HA2 KA ⊢
          have HW2 := Lib.hid HA2.out.below
          have r0 : w2.cell? ⟨w.heap.size + 1, 1, none⟩ = some vb := HA2.out.blk.cell 1
          go_wp2_with fail
          go_region_law (first
            | (refine step_app1 T_int (B := w.heap.size + 1 + 1) (v := vb) (vs := ints (colB zs j)) (W := w5.drewN n7) (show Own (w5.drewN n7) (w.heap.size + 1 + 1) tI vb (ints (colB zs j)) from HA2.out.ws.1.below (below_drewN (below_of_drew hb5) _)) (by rw [ints_len, colB_len]; omega) (by have h1 := HA2.out.lt; have h2 := hb5.size; simp at h2 ⊢; omega) (by rfl) rfl (by rfl) (by rfl) (by rfl) ?_; intro v9 w9 hown9 hgr9; obtain ⟨A9, c9, hv9, -, -⟩ := hown9.cells.open_; subst hv9; have q6 : w9.cell? ⟨w.heap.size + 1, 1, none⟩ = some vb := ((HA2.out.step (below_drewN (below_of_drew hb5) n7)).blk.grow hgr9 HA2.out.npB).cell 1; have q7 := ((HA2.out.step (below_drewN (below_of_drew hb5) n7)).blk.grow hgr9 HA2.out.npB).frozen 1)
            | (go_simp; go_at_call 136; refine (s_l11Lagrange _ _ zs j (by exact HA.out.below HW2.out.drew) HN.out (by omega) hlt).mono ?_; rintro e w5 ⟨r5, rfl, ho5, hb5⟩; have r5a : w5.cell? ⟨w.heap.size + 1, 1, none⟩ = some vb := (HA2.out.step (below_of_drew hb5)).blk.cell 1; have r5b : ∀ o, (w5.alloc o).cell? ⟨w.heap.size + 1, 1, none⟩ = some vb := fun o => ((HA2.out.step (below_of_drew hb5)).blk.alloc o).cell 1)
            | (go_simp; go_at_call 135; refine (s_l11Integral _ _ (lag zs j) 1 (by exact ho5.ints) (lag_nums _ _) (by omega) (by omega) (by omega)).mono ?_; rintro e w7 ⟨rfl, n7, rfl⟩; have r7b : ∀ o, ((w5.drewN n7).alloc o).cell? ⟨w.heap.size + 1, 1, none⟩ = some vb := fun o => ((HA2.out.step (below_drewN (below_of_drew hb5) n7)).blk.alloc o).cell 1))
          all_goals
            have HZ64 := Lib.hid (show In64 (integ (lag zs j) 1) by have := integ_bd (lag zs j) 1; unfold In64; omega)
            have HB2 := Lib.hid ((HA2.out.step (below_drewN (below_of_drew hb5) n7)).nextB (Nat.le_succ _) HZ64.out hown9 hgr9)
            have KA2 := Lib.hid (((KA.out.below (below_drewN (below_of_drew hb5) n7) KA.out.lt).grow hgr9 (fun e => by have := HA2.out.ws.1.ge _ e; omega)).far (p := ⟨w.heap.size + 1, 1, none⟩) (by simp) (.slice A9 (ints (colB zs j) ++ [Value.int .i64 (integ (lag zs j) 1)]).length c9))
            simp only [List.length_append, List.length_singleton] at HB2 KA2
            clear hown9 hgr9 q6 q7 r0 r5a r5b r7b ho5 hb5
            go_wp2_with fail
            go_roundw
            case rel =>
              refine ⟨j + 1, .slice A8 (vs.length + 1) c8, .slice A9 ((ints (colB zs j)).length + 1) c9, vs ++ [.slice A6 zs.length c6], by omega, by go_num, ?_, KA2.out⟩
              rw [colA_succ, colB_succ]
              exact HB2.out
            case measure => simp [intOf]; omega
    · have : j = zs.length := by omega
      subst this
      obtain ⟨A7, c7, hv7, -, -⟩ := HF.out.own.cells.open_
      have hvl : vs.length = zs.length := by have := HF.out.rows.1; rwa [colA_len] at this
      rw [hvl] at hv7
      subst hv7
      obtain ⟨A9, c9, hv9, -, -⟩ := HF.out.ws.1.cells.open_
      rw [ints_len, colB_len] at hv9
      subst hv9
      have e0 : wr.cell? ⟨w.heap.size + 1, 0, none⟩ = some (.slice A7 zs.length c7) := HF.out.blk.cell 0
      have e1 : wr.cell? ⟨w.heap.size + 1, 1, none⟩ = some (.slice A9 zs.length c9) := HF.out.blk.cell 1
      have f0 : wr.cell? ⟨w.heap.size, 0, none⟩ = some (.slice none 0 0) := K0.out.cell 0
      have f1 : wr.cell? ⟨w.heap.size, 1, none⟩ = some (.slice none 0 0) := K0.out.cell 1
      have f2 := K0.out.frozen 0
      have f3 := K0.out.frozen 1
      have HTAB := Lib.hid HF.out.tab
      clear hvl
      go_wp2_with fail
      have c0 := Chg.refl w.heap.size (w.heap.size + 1) wr
      have c1' := c0.setCell (p := ⟨w.heap.size, 0, none⟩) (Nat.le_refl _) (by simp) (.slice A7 zs.length c7)
      have c2' := c1'.setCell (p := ⟨w.heap.size, 1, none⟩) (Nat.le_refl _) (by simp) (.slice A9 zs.length c9)
      have hsb := HF.out.below.size
      refine bodyPost_ret (v := .agg #[.slice A7 zs.length c7, .slice A9 zs.length c9]) (by simp [results, Tryz.results72, go_sem, f0, f1]) rfl ⟨_, rfl, (HTAB.out.kept c2' (.inr (by omega))).mono (by omega) c2'.size, c2'.below HF.out.below (by omega) hsb⟩
end Go.Proofs.YtofabikjjkapmaaGreat

