/- Walk: newForms of the program. | DROP Walks: productsTo of the program; SymplecticTo, HamiltonianTo. | DROP Walks: symplecticTo, hamiltonianTo; SymplecticTo, HamiltonianTo of the program and of the reference. (printed by vgen.py) | Walk: l04Cut of the reference. | Walk: l04Turn of the reference: the recursion. | Walk: l04Double of the reference. | Walk: l04Put of the reference. | Walk: l04Roots of the reference. | Walk: l12Free of the reference. | Walks: allConditions of the program; l12All of the reference. (printed by allgen.py) | Walks: isEvenRoot of the program, l12Sign of the reference. | Walks: HamiltonianOf of the program and of the reference. | Plain: the free conditions by places; reduced order. No walk. | The partitions of the trees of maps by places: the pieces', the skeleton's, how often. (printed by sbtgen.py) No walk. | Plain: substitution by a table of places is associative, has a unit on either side, and goes into convolutions; kernel checks. No walk. | slices.SortFunc at partitions: laid. | Walks: the comparison of partitions; slices.SortFunc at partitions. -/
import Derived.Test.YtdjhfeaimmpmhaaGreatZc15
import Derived.Test.YtdjhfeaimmpmhaaGreatZc16
import Derived.Test.YtdjhfeaimmpmhaaGreatZc14
import Derived.Test.YtdjhfeaimmpmhaaGreatZc10
import Derived.Deep.CutRange
import Derived.Deep.CutBlock
import Derived.Deep.DeepCutAuto
import Derived.Test.YtdjhfeaimmpmhaaGreatZc11
import Derived.Test.YtdjhfeaimmpmhaaGreatZc8
import Derived.Test.YtdjhfeaimmpmhaaGreatZc6
import Derived.Test.YtdjhfeaimmpmhaaGreatZc1
import Derived.Shelf.SlSortCmp.WholeK
import Derived.Shelf.SlSortCmp.NoneTotal
import Derived.Shelf.SlGeneric
import Derived.Ground.SlsfProg
import Derived.Test.YtdjhfeaimmpmhaaGreatZc9
set_option maxRecDepth 100000
set_option linter.unusedVariables false
set_option linter.unusedSimpArgs false
namespace Go.Proofs.YtdjhfeaimmpmhaaGreat
open Go.RowKit

abbrev tFo : TypeId := 71
theorem BT.neb {w : World} {e t : TypeId} {v : Value} {p : Nat} {cs : Array Value} (h : BT w e v) (hk : Blk w p t cs) (hne : e ≠ t) : v.ownBlock ≠ some p := by
  intro hb
  rcases h with h | ⟨g, cur, fz, h, hg⟩
  · rw [h] at hb; cases hb
  · rw [h] at hb
    injection hb with hb
    subst hb
    have h2 : w.heap[g]? = some (.cells cs t (0, 0)) := hk
    rw [hg] at h2
    injection h2 with h2
    injection h2 with _ h2
    exact hne h2
theorem T_ml : ElemT Tryz.prog 69 114 (.slice none 0 0) 24 := ⟨Tryz.underlying69, by kernel_rfl, rfl, by omega⟩
theorem T_mc : ElemK Tryz.prog 114 121 (.agg #[.int .i64 0, .slice none 0 0, .int .i64 0]) 3 40 := ⟨Tryz.underlying114, by kernel_rfl, rfl, by omega, by omega⟩
theorem grown_set (w : World) (g i : Nat) (u : Value) : w.grownBy (w.setCell ⟨g, i, none⟩ u) (Value.slice (some ⟨g, 0, none⟩) 1 1).ownBlock := by
  have b := Below.setCell (B := 0) (Below.refl 0 w) (p := ⟨g, i, none⟩) (Nat.zero_le _) u
  exact ⟨b.os, b.tape, b.output, b.size, fun k hk hne => Below.heap_setCell w _ u k (fun e => hne (by rw [e]; rfl))⟩
theorem cutsU_len {r : List SP} (h : okLs r = true) : (cutsU r).length ≤ 500 ∧ ∀ x ∈ cutsU r, x.2 ≤ 500 := by
  have h0 := (okLs_of h).1
  have h1 := (srtSF_perm (lt := ltS) [] (r.map normS)).length_eq
  have h2 := grpL_len cmpS (srtS ltS (r.map normS)) _ (Nat.le_refl _)
  rw [List.take_length] at h2
  have h3 : (srtS ltS (r.map normS)).length = r.length := by simpa [srtS] using h1
  rw [h3] at h2
  unfold cutsU
  refine ⟨by rw [List.length_map]; omega, fun x hx => ?_⟩
  obtain ⟨y, hy, rfl⟩ := List.mem_map.1 hx
  have := h2.2 y hy
  show y.2 ≤ 500
  omega
set_option maxHeartbeats 16000000 in
theorem i_newForms (w : World) :
    Calls Tryz.prog 65 #[] w fun e w' => ∃ v, e = .returned v ∧ Frm w' w.heap.size v ∧ Below w.heap.size w w' := by
  go_enter Tryz.func65, Tryz.ntmps65
  go_wp2_with (go_at_call 56; go_loud (refine (i_treesTo _ 6 (by omega)).mono ?_; rintro e w1 ⟨x1, rfl, hx1, hb1⟩; obtain ⟨vs1, hv1, hr1, hp1⟩ := hx1; obtain ⟨A1, c1, rfl, -, -⟩ := hv1.cells.open_; have HV1 := Lib.hid hv1; have HR1 := Lib.hid hr1; have HP1 := Lib.hid hp1; have HB1 := Lib.hid hb1; have hl1 := hr1.1; rw [List.length_map, show (allG treesN 6).length = 37 from T6n_len] at hl1; rw [hl1] at HV1; rw [hl1]; clear hv1 hr1 hp1 hb1))
  have hba : Below w.heap.size w (w.alloc (.cells #[.slice none 0 0, .slice none 0 0] tFo)) := below1 w _
  have hbb : Below w1.heap.size w1 (w1.alloc (.cells #[.slice A1 37 c1, .slice none 0 0] tFo)) := below1 w1 _
  have hs1 := HB1.out.size
  rw [size_alloc'] at hs1
  have HBA := Lib.hid ((hba.trans (HB1.out.mono (by rw [size_alloc']; omega))).trans (hbb.mono (by omega)))
  have HBP := Lib.hid (show Blk (w1.alloc (.cells #[.slice A1 37 c1, .slice none 0 0] tFo)) w1.heap.size tFo #[.slice A1 37 c1, .slice none 0 0] from Blk.new _ _ _)
  have HB0 := Lib.hid (show Blk (w1.alloc (.cells #[.slice A1 37 c1, .slice none 0 0] tFo)) w.heap.size tFo #[.slice none 0 0, .slice none 0 0] from ((Blk.new w #[.slice none 0 0, .slice none 0 0] tFo).below HB1.out (by rw [size_alloc']; omega)).below hbb (by omega))
  have HV2 := Lib.hid ((HV1.out.below hbb).mono (show w.heap.size ≤ _ from by rw [size_alloc']; omega))
  have HR2 := Lib.hid ((HR1.out.below hbb).mono (show w.heap.size ≤ _ from by rw [size_alloc']; omega))
  have HSZ := Lib.hid hs1
  clear hba hbb hs1 HB1 HV1 HR1
  go_loopw [15] (fun x wr => ∃ (i : Nat) (us : List Value) (y : Value), i ≤ 37 ∧ x = .int .i64 i ∧ Blk wr w1.heap.size tFo #[.slice A1 37 c1, y] ∧ Blk wr w.heap.size tFo #[.slice none 0 0, .slice none 0 0] ∧ Own wr w.heap.size tL (.slice A1 37 c1) vs1 ∧ RR wr w.heap.size vs1 (T6n.map up) ∧ Own wr w.heap.size tMl y us ∧ Mls wr w.heap.size us ((T6n.take i).map (cutsI T6n)) ∧ Below w.heap.size w wr) (fun x _ => 37 - (intOf x).toNat)
  case atStart => exact ⟨0, [], _, by omega, rfl, HBP.out, HB0.out, HV2.out, HR2.out, Own.nil _ _ _, Mls.nil _ _, HBA.out⟩
  case round =>
    obtain ⟨i, us, y, hi, rfl, hbp, hb0, hv, hr, hy, hm, hb⟩ := hrel
    rename World => wq
    have hgr := hb.size
    by_cases hlt : i < 37
    · obtain ⟨t, ht⟩ : ∃ t, T6n[i]? = some t := ⟨_, List.getElem?_eq_getElem (by rw [T6n_len]; exact hlt)⟩
      obtain ⟨r, hr0, hok⟩ := T6n_split (List.mem_of_getElem? ht)
      have hrow : ∃ ad At ct, A1 = some ad ∧ OwnInts wq w.heap.size tI (.slice At t.length ct) (up t) ∧ wq.cell? (ad.add i) = some (.slice At t.length ct) := by
        obtain ⟨u, hu⟩ : ∃ u, vs1[i]? = some u := ⟨_, List.getElem?_eq_getElem (by rw [hl1]; exact hlt)⟩
        obtain ⟨ad, n', c', he, hc⟩ := hv.cells.at_ hu
        injection he with he _ _
        have h := hr.2 i u (up t) hu (by rw [List.getElem?_map, ht]; rfl)
        obtain ⟨At, ct, rfl, -, -, -⟩ := h.ints.open_
        rw [up_len] at h hc
        exact ⟨ad, At, ct, he, h, hc⟩
      obtain ⟨ad, At, ct, rfl, hti, hcr⟩ := hrow
      have HTI := Lib.hid hti
      have HR0 := Lib.hid hr0
      have HOK := Lib.hid hok
      have HTS := Lib.hid (show (T6n.take (i + 1)).map (cutsI T6n) = (T6n.take i).map (cutsI T6n) ++ [cutsI T6n t] from by rw [List.take_add_one, ht, List.map_append]; rfl)
      have HCI := Lib.hid (show cutsI T6n t = (cutsU r).map (mcU T6n) from by unfold cutsI; rw [hr0])
      obtain ⟨Ay, cy, rfl, -, -⟩ := hy.cells.open_
      have HBP := Lib.hid hbp
      have HB0 := Lib.hid hb0
      have HV := Lib.hid hv
      have HR := Lib.hid hr
      have HY := Lib.hid hy
      have HM := Lib.hid hm
      have HB := Lib.hid hb
      have HW1 := Lib.hid hbp.lt
      have hii : (i : Int) < 37 := by omega
      have OL := Lib.hid (show OwnK (wq.alloc (.cells #[] tMc)) wq.heap.size tMc 3 (.slice (some ⟨wq.heap.size, 0, none⟩) 0 0) [] from OwnK.lit wq tMc 3 [] (fun c hc => by simp at hc) (by simp [maxLen]) #[] rfl)
      clear ht hr0 hok hti hbp hb0 hv hr hy hm hb
      go_wp2_with (go_at_call 127; go_loud (refine (i_cutsOf _ _ t r (HTI.out.ints.below (below1 wq _)) HR0.out HOK.out).mono ?_; rintro e w3 ⟨x3, rfl, hx3, hb3⟩; obtain ⟨css2, ho2, he2⟩ := hx3; obtain ⟨A2, c2, rfl, -, -⟩ := ho2.open_; have HO2 := Lib.hid ho2; have HE2 := Lib.hid he2; have HB3 := Lib.hid hb3; clear ho2 he2 hb3))
      obtain ⟨C, hC⟩ : ∃ C, C = cutsU r := ⟨_, rfl⟩
      have he2 := HE2.out
      rw [← hC] at he2
      have hc2 := cutsU_len HOK.out
      rw [← hC] at hc2
      have hcl := he2.1
      have HCL := Lib.hid hcl
      have HC2 := Lib.hid hc2
      have HCC := Lib.hid hC
      have hc5 : css2.length ≤ 500 := by rw [hcl]; exact hc2.1
      have HE3 := Lib.hid (he2.mono (show wq.heap.size ≤ _ from by simp))
      have HBW := Lib.hid (show Below wq.heap.size wq w3 from (below1 wq _).trans (HB3.out.mono (by simp)))
      have OL2 := Lib.hid (show OwnK w3 wq.heap.size tMc 3 (.slice (some ⟨wq.heap.size, 0, none⟩) 0 0) [] from OL.out.below HB3.out)
      clear hC he2 hc2 hcl HE2
      go_loopw [4, 23] (fun o x wc => ∃ (j : Nat) (css3 : List (List Value)), j ≤ css2.length ∧ x = .int .i64 j ∧ OwnK wc wq.heap.size tMc 3 o css3 ∧ Mcs wc wq.heap.size css3 ((C.take j).map (mcU T6n)) ∧ Grow w3 wc (.slice (some ⟨wq.heap.size, 0, none⟩) 0 0) o) (fun _ x _ => css2.length - (intOf x).toNat)
      case atStart => exact ⟨0, [], Nat.zero_le _, rfl, OL2.out, Mcs.nil _ _, Grow.refl _ _⟩
      case round =>
        obtain ⟨j, css3, hj, rfl, ho3, hm3, hg3⟩ := hrel
        rename World => wc
        have HO3 := Lib.hid ho3
        have HM3 := Lib.hid hm3
        have HG3 := Lib.hid hg3
        have HBC := Lib.hid (hg3.below HBW.out HBW.out.size (OL2.out.ge))
        have hcl3 : css3.length ≤ 500 := by rw [hm3.1, List.length_map, List.length_take]; omega
        by_cases hlj : j < css2.length
        · obtain ⟨⟨⟨cr, tr⟩, n⟩, hy⟩ : ∃ y, C[j]? = some y := ⟨_, List.getElem?_eq_getElem (by rw [← HCL.out]; exact hlj)⟩
          have hn := HC2.out.2 _ (List.mem_of_getElem? hy)
          have ho2 := HO2.out.kept hg3.1 (HO2.out.bt.ne OL2.out.bt (by decide))
          have he2 := HE3.out.kept hg3.1 OL2.out.bt (by decide) (by decide)
          obtain ⟨cyy, hcy, hD⟩ := he2.at_ hy
          obtain ⟨u, s, rfl, hu0, hs0⟩ := hD
          have hu1 : LL wc wq.heap.size u (cr.map up) ∧ cr.length ≤ 1000000 ∧ ndN cr ≤ 1000000 := hu0
          have hs1 : OwnInts wc wq.heap.size tI s (up tr) := hs0
          obtain ⟨Au, cu, rfl, -, -, -⟩ := hu1.1.rows.open_
          obtain ⟨As, cs, rfl, -, -, -⟩ := hs1.ints.open_
          rw [up_len] at hs1 hcy
          rw [List.length_map] at hu1 hcy
          obtain ⟨go, cg, heo, hg0⟩ := ho2.cell (j := 0) hcy rfl
          simp only [Value.slice.injEq] at heo
          obtain ⟨rfl, -, rfl⟩ := heo
          have hq0 : wc.cell? ⟨go, j * 3, none⟩ = some (.slice Au cr.length cu) := hg0
          have hq1 : wc.cell? ⟨go, j * 3 + 1, none⟩ = some (.slice As tr.length cs) := by obtain ⟨g', c', he', h'⟩ := ho2.cell (j := 1) hcy rfl; simp only [Value.slice.injEq, Option.some.injEq, Addr.mk.injEq, and_true, true_and] at he'; rw [he'.1]; exact h'
          have hq2 : wc.cell? ⟨go, j * 3 + 2, none⟩ = some (.int .i64 (n : Nat)) := by obtain ⟨g', c', he', h'⟩ := ho2.cell (j := 2) hcy rfl; simp only [Value.slice.injEq, Option.some.injEq, Addr.mk.injEq, and_true, true_and] at he'; rw [he'.1]; exact h'
          have HTJ := Lib.hid (show (C.take (j + 1)).map (mcU T6n) = (C.take j).map (mcU T6n) ++ [mcU T6n ((cr, tr), n)] from by rw [List.take_add_one, hy, List.map_append]; rfl)
          have HU := Lib.hid hu1
          have HS := Lib.hid hs1
          have hcr6 : cr.length ≤ 1000000 := hu1.2.1
          have hjj : (j : Int) < (css2.length : Int) := by omega
          have HPC := Lib.hid (show Blk wc w1.heap.size tFo #[.slice (some ad) 37 c1, .slice Ay us.length cy] from HBP.out.below HBC.out HW1.out)
          have HVC := Lib.hid (show Own wc w.heap.size tL (.slice (some ad) 37 c1) vs1 from HV.out.below HBC.out)
          have HRC := Lib.hid (show RR wc w.heap.size vs1 (T6n.map up) from HR.out.below HBC.out)
          have hbx : Below wc.heap.size wc ((wc.alloc (.cells #[.slice Au cr.length cu, .slice As tr.length cs, .int .i64 n] tCu)).alloc (.cells #[.int .i64 n, .slice none 0 0, .int .i64 0] tMc)) := (below1 wc _).trans ((below1 _ _).mono (by simp))
          have HBX := Lib.hid hbx
          have HP6 := Lib.hid (show Blk ((wc.alloc (.cells #[.slice Au cr.length cu, .slice As tr.length cs, .int .i64 n] tCu)).alloc (.cells #[.int .i64 n, .slice none 0 0, .int .i64 0] tMc)) wc.heap.size tCu #[.slice Au cr.length cu, .slice As tr.length cs, .int .i64 n] from (Blk.new _ _ _).alloc _)
          have HP7 := Lib.hid (show Blk ((wc.alloc (.cells #[.slice Au cr.length cu, .slice As tr.length cs, .int .i64 n] tCu)).alloc (.cells #[.int .i64 n, .slice none 0 0, .int .i64 0] tMc)) (wc.heap.size + 1) tMc #[.int .i64 n, .slice none 0 0, .int .i64 0] from Blk.new1 _ _ _ _)
          clear hbx hu0 hs0 hu1 hs1 hg0 hcy hy ho2 he2 ho3 hm3 hg3 hn
          go_wp2_with fail
          go_loopw [33] (fun x wd => ∃ (k : Nat) (s7 : Value), k ≤ cr.length ∧ x = .int .i64 k ∧ Blk wd wc.heap.size tCu #[.slice Au cr.length cu, .slice As tr.length cs, .int .i64 n] ∧ Blk wd (wc.heap.size + 1) tMc #[.int .i64 n, s7, .int .i64 0] ∧ OwnInts wd wc.heap.size tN s7 (up ((cr.take k).map (idxN T6n))) ∧ Below wc.heap.size wc wd) (fun x _ => cr.length - (intOf x).toNat)
          case atStart => exact ⟨0, _, Nat.zero_le _, rfl, HP6.out, HP7.out, OwnInts.nil _ _ _, HBX.out⟩
          case round =>
            obtain ⟨k, s7, hk, rfl, h6, h7, hs7, hbd⟩ := hrel
            rename World => wd
            have hsz := hbd.size
            obtain ⟨A7, c7, he7, -, -, -⟩ := hs7.ints.open_
            rw [up_len, List.length_map, List.length_take, Nat.min_eq_left hk] at he7
            subst he7
            have H6 := Lib.hid h6
            have H7 := Lib.hid h7
            have HS7 := Lib.hid hs7
            have HBD := Lib.hid hbd
            have hp7l := h7.lt
            by_cases hlk : k < cr.length
            · obtain ⟨x, hx⟩ : ∃ x, cr[k]? = some x := ⟨_, List.getElem?_eq_getElem hlk⟩
              obtain ⟨vcr, hvcr, hrcr⟩ := HU.out.1.below hbd
              have hlv : vcr.length = cr.length := by rw [hrcr.1, List.length_map]
              obtain ⟨au, Ax, cx, rfl, hxi, hxc⟩ : ∃ au Ax cx, Au = some au ∧ OwnInts wd wq.heap.size tI (.slice Ax x.length cx) (up x) ∧ wd.cell? (au.add k) = some (.slice Ax x.length cx) := by
                obtain ⟨u, hu⟩ : ∃ u, vcr[k]? = some u := ⟨_, List.getElem?_eq_getElem (by rw [hlv]; exact hlk)⟩
                obtain ⟨ad', n', c', he, hc⟩ := hvcr.cells.at_ hu
                injection he with he _ _
                have h := hrcr.2 k u (up x) hu (by rw [List.getElem?_map, hx]; rfl)
                obtain ⟨At', ct', rfl, -, -, -⟩ := h.ints.open_
                rw [up_len] at h hc
                exact ⟨ad', At', ct', he, h, hc⟩
              have HXI := Lib.hid hxi
              have HXK := Lib.hid (show (cr.take (k + 1)).map (idxN T6n) = (cr.take k).map (idxN T6n) ++ [idxN T6n x] from by rw [List.take_add_one, hx, List.map_append]; rfl)
              have hkk : (k : Int) < (cr.length : Int) := by omega
              have HPD := Lib.hid (HPC.out.below HBD.out (Nat.lt_of_lt_of_le HW1.out HBC.out.size))
              have hf0 : wd.cell? ⟨w1.heap.size, 0, none⟩ = some (.slice (some ad) 37 c1) := HPD.out.cell 0
              have hf1 : wd.cell? ⟨w1.heap.size, 1, none⟩ = some (.slice Ay us.length cy) := HPD.out.cell 1
              have hp1 : wd.cell? ⟨wc.heap.size + 1, 1, none⟩ = some (.slice A7 k c7) := H7.out.cell 1
              clear hx hvcr hrcr hlv hxi h6 h7 hs7 hbd
              go_upto_region 13 with fail
              have hdr : ∀ o, Below wd.heap.size wd (wd.drew.alloc o) := fun o => below_of_drew (below1 wd.drew o)
              have HRW := Lib.hid (LL.rows ⟨vs1, HVC.out.below HBD.out, HRC.out.below HBD.out⟩)
              have hp0 : wd.frozen? ⟨wc.heap.size + 1, 1, none⟩ = false := H7.out.frozen 1
              have h7a : ∀ o, (wd.alloc o).cell? ⟨wc.heap.size + 1, 1, none⟩ = some (.slice A7 k c7) := fun o => (H7.out.alloc o).cell 1
              have h7b : ∀ o o', ((wd.alloc o).alloc o').cell? ⟨wc.heap.size + 1, 1, none⟩ = some (.slice A7 k c7) := fun o o' => ((H7.out.alloc o).alloc o').cell 1
              go_region_law (first
                | (go_simp; go_at_call 66; refine (i_place _ _ _ _ _ _ T6n x (by exact HRW.out) (by exact HXI.out.ints) (by rw [T6n_len]; omega)).mono ?_; rintro e w5 ⟨rfl, hw5⟩; have hb5 : Below wd.heap.size wd w5 := (by rw [hw5]; exact hdr _); clear hw5; have HB5 := Lib.hid hb5; have k7 : w5.cell? ⟨wc.heap.size + 1, 1, none⟩ = some (.slice A7 k c7) := (H7.out.below hb5 hp7l).cell 1; have k7a : ∀ o, (w5.alloc o).cell? ⟨wc.heap.size + 1, 1, none⟩ = some (.slice A7 k c7) := fun o => ((H7.out.below hb5 hp7l).alloc o).cell 1)
                | (refine step_app1 T_nat (B := wc.heap.size) (v := .slice A7 k c7) (vs := ints (up ((cr.take k).map (idxN T6n)))) (HS7.out.1.below hb5) (by rw [ints_len, up_len, List.length_map, List.length_take]; omega) (by have := HBD.out.size; have := hb5.size; omega) (by rfl) rfl (by rfl) (by rfl) (by rfl) ?_; intro v6 w6 hown6 hgr6; obtain ⟨A6, c6, hv6, -, -⟩ := hown6.cells.open_; rw [List.length_append, ints_len, up_len, List.length_map, List.length_take, Nat.min_eq_left hk, List.length_singleton] at hv6; subst hv6; have HN6 := Lib.hid hown6; have HG6 := Lib.hid hgr6; have HB7 := Lib.hid ((H7.out.below hb5 hp7l).keptG hgr6.1 ((HS7.out.1.below hb5).bt.neb (H7.out.below hb5 hp7l) (by decide))); have m7 : w6.cell? ⟨wc.heap.size + 1, 1, none⟩ = some (.slice A7 k c7) := HB7.out.cell 1; have m7f : w6.frozen? ⟨wc.heap.size + 1, 1, none⟩ = false := HB7.out.frozen 1; clear hown6 hgr6))
              all_goals
                have HB8 := Lib.hid (HG6.out.below (HBD.out.trans (HB5.out.mono HBD.out.size)) (Nat.le_trans HBD.out.size HB5.out.size) (HS7.out.1.ge))
                have HN8 := Lib.hid (HN6.out.kept (grown_set w6 (wc.heap.size + 1) 1 (.slice A6 (k + 1) c6)) (.inr (HN6.out.bt.neb HB7.out (by decide))))
                have HB9 := Lib.hid (HB8.out.setCell (p := ⟨wc.heap.size + 1, 1, none⟩) (Nat.le_succ _) (.slice A6 (k + 1) c6))
                have H77 := Lib.hid (HB7.out.set_ 1 (.slice A6 (k + 1) c6))
                have H66 := Lib.hid ((((H6.out.below HB5.out H6.out.lt).keptG HG6.out.1 ((HS7.out.1.below HB5.out).bt.neb (H6.out.below HB5.out H6.out.lt) (by decide)))).far (p := ⟨wc.heap.size + 1, 1, none⟩) (by simp) (.slice A6 (k + 1) c6))
                clear hb5 k7 k7a m7 m7f hdr hp0 h7a h7b hp1 hf0 hf1
                go_wp2_with fail
                go_roundw
                case rel =>
                  refine ⟨k + 1, .slice A6 (k + 1) c6, by omega, by go_num, H66.out, H77.out, ?_, HB9.out⟩
                  rw [HXK.out]
                  refine ⟨by simpa [up, ints] using HN8.out, fun z hz => ?_⟩
                  obtain ⟨q, hq, rfl⟩ := List.mem_map.1 hz
                  have hq' : q ≤ 37 := by
                    rcases List.mem_append.1 hq with h | h
                    · obtain ⟨y, -, rfl⟩ := List.mem_map.1 h
                      have := idxN_le T6n y
                      rwa [T6n_len] at this
                    · have := idxN_le T6n x
                      rw [T6n_len] at this
                      simp at h
                      rw [h]; exact this
                  unfold In64; omega
                case measure => simp [intOf]; omega
            · have hkl : k = cr.length := by omega
              have HTK := Lib.hid (show cr.take k = cr from List.take_of_length_le (by omega))
              obtain ⟨Ao, co, rfl, -, -⟩ := HO3.out.open_
              have hp7c : wd.cell? ⟨wc.heap.size + 1, 0, none⟩ = some (.int .i64 n) := H7.out.cell 0
              have hp7d : wd.cell? ⟨wc.heap.size + 1, 1, none⟩ = some (.slice A7 k c7) := H7.out.cell 1
              have hp7e : wd.cell? ⟨wc.heap.size + 1, 2, none⟩ = some (.int .i64 0) := H7.out.cell 2
              have hp6c : wd.cell? ⟨wc.heap.size, 1, none⟩ = some (.slice As tr.length cs) := H6.out.cell 1
              clear hkl h6 h7 hs7 hbd
              obtain ⟨ix, hix, hixx⟩ : ∃ ix : Nat, (if tr.length = 0 then 0 else idxN T6n tr) = ix ∧ mcU T6n ((cr, tr), n) = ((cr.map (idxN T6n), ix), n) := by
                refine ⟨_, rfl, ?_⟩
                unfold mcU
                cases tr with
                | nil => rfl
                | cons a l => rfl
              have HIX := Lib.hid hixx
              by_cases htr : tr.length = 0
              · have htp : decide ((0 : Int) < (tr.length : Int)) = false := decide_eq_false (by omega)
                have htq : ¬ 0 < tr.length := by omega
                rw [if_pos htr] at hix
                subst hix
                clear htr
                go_upto_region 17 with fail
                obtain ⟨W, hW⟩ : ∃ W, W = wd := ⟨_, rfl⟩
                have H7W := Lib.hid (show Blk W (wc.heap.size + 1) tMc #[.int .i64 n, .slice A7 k c7, .int .i64 0] from by rw [hW]; exact H7.out)
                have HBW := Lib.hid (show Below wc.heap.size wc W from by rw [hW]; exact HBD.out)
                have HS7W := Lib.hid (show OwnInts W wc.heap.size tN (.slice A7 k c7) (up ((cr.take k).map (idxN T6n))) from by rw [hW]; exact HS7.out)
                rw [← hW]
                clear hW
                have HBW2 := Lib.hid (fun o => show Below wc.heap.size wc (W.alloc o) from HBW.out.trans ((below1 W o).mono HBW.out.size))
                have HO3W := Lib.hid (fun o => HO3.out.below (HBW2.out o))
                have hw0 : W.cell? ⟨wc.heap.size + 1, 0, none⟩ = some (.int .i64 n) := H7W.out.cell 0
                have hw1 : W.cell? ⟨wc.heap.size + 1, 1, none⟩ = some (.slice A7 k c7) := H7W.out.cell 1
                have hw2 : W.cell? ⟨wc.heap.size + 1, 2, none⟩ = some (.int .i64 0) := H7W.out.cell 2
                clear hp7c hp7d hp7e hp6c
                go_wp2_with (at_builtin; go_must (refine wpList_app1K T_mc (ad := ⟨W.heap.size, 0, none⟩) (W := W.alloc (.cells #[.int .i64 n, .slice A7 k c7, .int .i64 0] tMc)) (c := [.int .i64 n, .slice A7 k c7, .int .i64 0]) (HO3W.out _) (by omega) (Nat.le_trans HBC.out.size (HBW2.out _).size) rfl (by intro u hu; simp at hu; rcases hu with rfl | rfl | rfl <;> rfl) (fun j u hu => lit_cells W tMc [.int .i64 n, .slice A7 k c7, .int .i64 0] #[.int .i64 n, .slice A7 k c7, .int .i64 0] rfl j u hu) (by rfl) rfl (by rfl) (by rfl) ?_; intro v5 w5 hown5 hgr5; have HN5 := Lib.hid hown5; have HG5 := Lib.hid hgr5; clear hown5 hgr5))
                go_roundw
                case rel =>
                  refine ⟨j + 1, _, by omega, by go_num, HN5.out, ?_, HG3.out.trans (Grow.pre (HBW2.out _) HG5.out)⟩
                  rw [HTJ.out, HIX.out]
                  have hs := HS7W.out
                  rw [HTK.out] at hs
                  exact ((HM3.out.below (HBW2.out _)).snoc (x := ((cr.map (idxN T6n), 0), n)) ⟨_, rfl, (hs.below (below1 W _)).mono HBC.out.size⟩).kept HG5.out.1 (HO3W.out _).bt (by decide)
                case measure => simp [intOf]; omega
              · have htp : decide ((0 : Int) < (tr.length : Int)) = true := decide_eq_true (by omega)
                have htq : 0 < tr.length := by omega
                rw [if_neg htr] at hix
                have HXX := Lib.hid hix
                clear htr hix
                have HSD := Lib.hid (HS.out.below HBD.out)
                have HPD := Lib.hid (HPC.out.below HBD.out (Nat.lt_of_lt_of_le HW1.out HBC.out.size))
                have hf0 : wd.cell? ⟨w1.heap.size, 0, none⟩ = some (.slice (some ad) 37 c1) := HPD.out.cell 0
                have hf1 : wd.cell? ⟨w1.heap.size, 1, none⟩ = some (.slice Ay us.length cy) := HPD.out.cell 1
                have HRW := Lib.hid (LL.rows ⟨vs1, HVC.out.below HBD.out, HRC.out.below HBD.out⟩)
                go_upto_region 17 with (go_at_call 66; go_loud (refine (i_place _ _ _ _ _ _ T6n tr HRW.out HSD.out.ints (by rw [T6n_len]; omega)).mono ?_; rintro e w5 ⟨rfl, hw5⟩; rw [HXX.out]; have hb5 : Below wd.heap.size wd w5 := (by rw [hw5]; exact below1 _ _); clear hw5; have HB5 := Lib.hid hb5; have H75 := Lib.hid (H7.out.below hb5 hp7l); have k7 : w5.cell? ⟨wc.heap.size + 1, 2, none⟩ = some (.int .i64 0) := H75.out.cell 2; have k7f : w5.frozen? ⟨wc.heap.size + 1, 2, none⟩ = false := H75.out.frozen 2; clear hb5))
                obtain ⟨W, hW⟩ : ∃ W, W = w5.setCell ⟨wc.heap.size + 1, 2, none⟩ (.int .i64 (ix : Nat)) := ⟨_, rfl⟩
                have H7W := Lib.hid (show Blk W (wc.heap.size + 1) tMc #[.int .i64 n, .slice A7 k c7, .int .i64 (ix : Nat)] from by rw [hW]; exact H75.out.set_ 2 _)
                have HBW := Lib.hid (show Below wc.heap.size wc W from by rw [hW]; exact (HBD.out.trans (HB5.out.mono HBD.out.size)).setCell (p := ⟨wc.heap.size + 1, 2, none⟩) (Nat.le_succ _) _)
                have HS7W := Lib.hid (show OwnInts W wc.heap.size tN (.slice A7 k c7) (up ((cr.take k).map (idxN T6n))) from by
                  rw [hW]
                  have h := HS7.out.below HB5.out
                  exact h.kept (grown_set w5 (wc.heap.size + 1) 2 _) (.inr (h.1.bt.neb H75.out (by decide))))
                rw [← hW]
                clear hW k7 k7f hf0 hf1
                have HBW2 := Lib.hid (fun o => show Below wc.heap.size wc (W.alloc o) from HBW.out.trans ((below1 W o).mono HBW.out.size))
                have HO3W := Lib.hid (fun o => HO3.out.below (HBW2.out o))
                have hw0 : W.cell? ⟨wc.heap.size + 1, 0, none⟩ = some (.int .i64 n) := H7W.out.cell 0
                have hw1 : W.cell? ⟨wc.heap.size + 1, 1, none⟩ = some (.slice A7 k c7) := H7W.out.cell 1
                have hw2 : W.cell? ⟨wc.heap.size + 1, 2, none⟩ = some (.int .i64 (ix : Nat)) := H7W.out.cell 2
                clear hp7c hp7d hp7e hp6c
                go_wp2_with (at_builtin; go_must (refine wpList_app1K T_mc (ad := ⟨W.heap.size, 0, none⟩) (W := W.alloc (.cells #[.int .i64 n, .slice A7 k c7, .int .i64 (ix : Nat)] tMc)) (c := [.int .i64 n, .slice A7 k c7, .int .i64 (ix : Nat)]) (HO3W.out _) (by omega) (Nat.le_trans HBC.out.size (HBW2.out _).size) rfl (by intro u hu; simp at hu; rcases hu with rfl | rfl | rfl <;> rfl) (fun j u hu => lit_cells W tMc [.int .i64 n, .slice A7 k c7, .int .i64 (ix : Nat)] #[.int .i64 n, .slice A7 k c7, .int .i64 (ix : Nat)] rfl j u hu) (by rfl) rfl (by rfl) (by rfl) ?_; intro v5 w5 hown5 hgr5; have HN5 := Lib.hid hown5; have HG5 := Lib.hid hgr5; clear hown5 hgr5))
                go_roundw
                case rel =>
                  refine ⟨j + 1, _, by omega, by go_num, HN5.out, ?_, HG3.out.trans (Grow.pre (HBW2.out _) HG5.out)⟩
                  rw [HTJ.out, HIX.out]
                  have hs := HS7W.out
                  rw [HTK.out] at hs
                  exact ((HM3.out.below (HBW2.out _)).snoc (x := ((cr.map (idxN T6n), ix), n)) ⟨_, rfl, (hs.below (below1 W _)).mono HBC.out.size⟩).kept HG5.out.1 (HO3W.out _).bt (by decide)
                case measure => simp [intOf]; omega
        · have hjl : j = css2.length := by omega
          have HTK := Lib.hid (show C.take j = C from List.take_of_length_le (by rw [hjl, HCL.out]; exact Nat.le_refl _))
          clear hjl
          have HPQ := Lib.hid (HBP.out.below HBC.out HW1.out)
          have hf1 : wc.cell? ⟨w1.heap.size, 1, none⟩ = some (.slice Ay us.length cy) := HPQ.out.cell 1
          clear ho3 hm3 hg3
          obtain ⟨Ao, co, rfl, -, -⟩ := HO3.out.open_
          have HYC := Lib.hid (HY.out.below HBC.out)
          have hus : us.length ≤ 37 := by have := HM.out.1; rw [List.length_map, List.length_take] at this; omega
          go_wp2_with (at_builtin; go_loud (refine wpList_app1 T_ml (W := wc) (u := .slice Ao css3.length co) HYC.out (by omega) (by have := HB.out.size; have := HBC.out.size; omega) (by cases Ao <;> rfl) rfl (by rfl) (by rfl) (by rfl) ?_; intro v6 w6 hown6 hgr6; obtain ⟨A6, c6, hv6, -, -⟩ := hown6.cells.open_; rw [List.length_append, List.length_singleton] at hv6; subst hv6; have HN6 := Lib.hid hown6; have HG6 := Lib.hid hgr6; have HP6 := Lib.hid (HPQ.out.keptG hgr6.1 (HYC.out.bt.neb HPQ.out (by decide))); have k5 : w6.cell? ⟨w1.heap.size, 1, none⟩ = some (.slice Ay us.length cy) := HP6.out.cell 1; have k6 : w6.frozen? ⟨w1.heap.size, 1, none⟩ = false := HP6.out.frozen 1; clear hown6 hgr6))
          go_roundw
          case rel =>
            have g6 := HG6.out.1
            have gs := grown_set w6 w1.heap.size 1 (.slice A6 (us.length + 1) c6)
            have bs : BT w6 tFo (Value.slice (some ⟨w1.heap.size, 0, none⟩) 1 1) := .inr ⟨_, _, _, rfl, HP6.out⟩
            have hv0 := HV.out.below HBC.out
            have hv1 := hv0.kept g6 (hv0.bt.ne HYC.out.bt (by decide))
            have hv2 := hv1.kept gs (.inr (hv1.bt.neb HP6.out (by decide)))
            have hr0 := HR.out.below HBC.out
            have hr2 := (hr0.keptT g6 HYC.out.bt (by decide)).keptT gs bs (by decide)
            have h00 : Blk wc w.heap.size tFo #[.slice none 0 0, .slice none 0 0] := HB0.out.below HBC.out HB0.out.lt
            have h01 := h00.keptG g6 (HYC.out.bt.neb h00 (by decide))
            have hne : w.heap.size ≠ w1.heap.size := by have := HSZ.out; omega
            have h02 : Blk (w6.setCell ⟨w1.heap.size, 1, none⟩ (.slice A6 (us.length + 1) c6)) w.heap.size tFo #[.slice none 0 0, .slice none 0 0] := h01.far (p := ⟨w1.heap.size, 1, none⟩) hne _
            have hn2 := HN6.out.kept gs (.inr (HN6.out.bt.neb HP6.out (by decide)))
            have hml : ML w6 w.heap.size (.slice Ao css3.length co) (cutsI T6n t) := by
              rw [HCI.out, ← HCC.out]
              have hm3 := HM3.out
              rw [HTK.out] at hm3
              have h : ML wc wq.heap.size (.slice Ao css3.length co) (C.map (mcU T6n)) := ⟨css3, HO3.out, hm3⟩
              obtain ⟨css, k1, k2⟩ := h.kept g6 HYC.out.bt (by decide) (by decide)
              exact ⟨css, k1.mono HB.out.size, k2.mono HB.out.size⟩
            have hm0 := (HM.out.below HBC.out).kept g6 HYC.out.bt (by decide) (by decide)
            have hm2 := (hm0.snoc hml).kept gs bs (by decide) (by decide)
            rw [← HTS.out] at hm2
            have hbw : Below w.heap.size w w6 := HG6.out.below (HB.out.trans (HBC.out.mono HB.out.size)) (Nat.le_trans HB.out.size HBC.out.size) HYC.out.ge
            exact ⟨i + 1, us ++ [.slice Ao css3.length co], _, by omega, by go_num, HP6.out.set_ 1 _, h02, hv2, hr2, hn2, hm2, hbw.setCell (p := ⟨w1.heap.size, 1, none⟩) (by have := HSZ.out; show w.heap.size ≤ w1.heap.size; omega) _⟩
          case measure => simp [intOf]; omega
    · have hil : i = 37 := by omega
      obtain ⟨Ay, cy, rfl, -, -⟩ := hy.cells.open_
      have HTK := Lib.hid (show T6n.take i = T6n from List.take_of_length_le (by rw [T6n_len]; omega))
      have HP := Lib.hid hbp
      have HP0 := Lib.hid hb0
      have HV := Lib.hid hv
      have HR := Lib.hid hr
      have HY := Lib.hid hy
      have HM := Lib.hid hm
      have HB := Lib.hid hb
      subst hil
      have hf0 : wq.cell? ⟨w1.heap.size, 0, none⟩ = some (.slice A1 37 c1) := HP.out.cell 0
      have hf1 : wq.cell? ⟨w1.heap.size, 1, none⟩ = some (.slice Ay us.length cy) := HP.out.cell 1
      have hg0 : wq.cell? ⟨w.heap.size, 0, none⟩ = some (.slice none 0 0) := HP0.out.cell 0
      have hg1 : wq.cell? ⟨w.heap.size, 1, none⟩ = some (.slice none 0 0) := HP0.out.cell 1
      have hz0 : wq.frozen? ⟨w.heap.size, 0, none⟩ = false := HP0.out.frozen 0
      have hz1 : wq.frozen? ⟨w.heap.size, 1, none⟩ = false := HP0.out.frozen 1
      clear hbp hb0 hv hr hy hm hb
      go_wp2_with fail
      have hblk : Blk ((wq.setCell ⟨w.heap.size, 0, none⟩ (.slice A1 37 c1)).setCell ⟨w.heap.size, 1, none⟩ (.slice Ay us.length cy)) w.heap.size tFo #[.slice A1 37 c1, .slice Ay us.length cy] := (HP0.out.set_ 0 (.slice A1 37 c1)).set_ 1 (.slice Ay us.length cy)
      have hr0 : ((wq.setCell ⟨w.heap.size, 0, none⟩ (.slice A1 37 c1)).setCell ⟨w.heap.size, 1, none⟩ (.slice Ay us.length cy)).cell? ⟨w.heap.size, 0, none⟩ = some (.slice A1 37 c1) := hblk.cell 0
      have hr1 : ((wq.setCell ⟨w.heap.size, 0, none⟩ (.slice A1 37 c1)).setCell ⟨w.heap.size, 1, none⟩ (.slice Ay us.length cy)).cell? ⟨w.heap.size, 1, none⟩ = some (.slice Ay us.length cy) := hblk.cell 1
      have g1 := grown_set wq w.heap.size 0 (.slice A1 37 c1)
      have g2 := grown_set (wq.setCell ⟨w.heap.size, 0, none⟩ (.slice A1 37 c1)) w.heap.size 1 (.slice Ay us.length cy)
      have HBE := Lib.hid ((HB.out.setCell (p := ⟨w.heap.size, 0, none⟩) (Nat.le_refl _) (.slice A1 37 c1)).setCell (p := ⟨w.heap.size, 1, none⟩) (Nat.le_refl _) (.slice Ay us.length cy))
      refine bodyPost_ret (v := .agg #[.slice A1 37 c1, .slice Ay us.length cy]) (by simp [results, Tryz.results65, go_sem, hr0, hr1]) rfl ⟨_, rfl, ⟨_, _, us, rfl, ?_, ?_, ?_⟩, HBE.out⟩
      · have n1 := HV.out.bt.neb HP0.out (by decide)
        have hv1 := HV.out.kept g1 (.inr n1)
        have hb1 : Blk (wq.setCell ⟨w.heap.size, 0, none⟩ (.slice A1 37 c1)) w.heap.size tFo _ := HP0.out.set_ 0 (.slice A1 37 c1)
        have b1 : BT wq tFo (Value.slice (some ⟨w.heap.size, 0, none⟩) 1 1) := .inr ⟨_, _, _, rfl, HP0.out⟩
        have b2 : BT (wq.setCell ⟨w.heap.size, 0, none⟩ (.slice A1 37 c1)) tFo (Value.slice (some ⟨w.heap.size, 0, none⟩) 1 1) := .inr ⟨_, _, _, rfl, hb1⟩
        exact ⟨vs1, hv1.kept g2 (.inr (hv1.bt.neb hb1 (by decide))), (HR.out.keptT g1 b1 (by decide)).keptT g2 b2 (by decide), HP1.out⟩
      · have hv1 := HY.out.kept g1 (.inr (HY.out.bt.neb HP0.out (by decide)))
        have hb1 : Blk (wq.setCell ⟨w.heap.size, 0, none⟩ (.slice A1 37 c1)) w.heap.size tFo _ := HP0.out.set_ 0 (.slice A1 37 c1)
        exact hv1.kept g2 (.inr (hv1.bt.neb hb1 (by decide)))
      · have hb1 : Blk (wq.setCell ⟨w.heap.size, 0, none⟩ (.slice A1 37 c1)) w.heap.size tFo _ := HP0.out.set_ 0 (.slice A1 37 c1)
        have b1 : BT wq tFo (Value.slice (some ⟨w.heap.size, 0, none⟩) 1 1) := .inr ⟨_, _, _, rfl, HP0.out⟩
        have b2 : BT (wq.setCell ⟨w.heap.size, 0, none⟩ (.slice A1 37 c1)) tFo (Value.slice (some ⟨w.heap.size, 0, none⟩) 1 1) := .inr ⟨_, _, _, rfl, hb1⟩
        have h := (HM.out.kept g1 b1 (by decide) (by decide)).kept g2 b2 (by decide) (by decide)
        rw [HTK.out] at h
        exact h
end Go.Proofs.YtdjhfeaimmpmhaaGreat

set_option maxRecDepth 100000
set_option linter.unusedVariables false
set_option linter.unusedSimpArgs false
namespace Go.Proofs.YtdjhfeaimmpmhaaGreat
open Go.RowKit

end Go.Proofs.YtdjhfeaimmpmhaaGreat

set_option maxRecDepth 100000
set_option linter.unusedVariables false
set_option linter.unusedSimpArgs false
namespace Go.Proofs.YtdjhfeaimmpmhaaGreat
open Go.RowKit

end Go.Proofs.YtdjhfeaimmpmhaaGreat

set_option maxRecDepth 100000
set_option linter.unusedVariables false
set_option linter.unusedSimpArgs false
namespace Go.Proofs.YtdjhfeaimmpmhaaGreat
open Go.RowKit

end Go.Proofs.YtdjhfeaimmpmhaaGreat

set_option maxRecDepth 100000
set_option linter.unusedVariables false
set_option linter.unusedSimpArgs false
namespace Go.Proofs.YtdjhfeaimmpmhaaGreat
open Go.RowKit

end Go.Proofs.YtdjhfeaimmpmhaaGreat

set_option maxRecDepth 100000
set_option linter.unusedVariables false
set_option linter.unusedSimpArgs false
namespace Go.Proofs.YtdjhfeaimmpmhaaGreat
open Go.RowKit

end Go.Proofs.YtdjhfeaimmpmhaaGreat

set_option maxRecDepth 100000
set_option linter.unusedVariables false
set_option linter.unusedSimpArgs false
namespace Go.Proofs.YtdjhfeaimmpmhaaGreat
open Go.RowKit

end Go.Proofs.YtdjhfeaimmpmhaaGreat

set_option maxRecDepth 100000
set_option linter.unusedVariables false
set_option linter.unusedSimpArgs false
namespace Go.Proofs.YtdjhfeaimmpmhaaGreat
open Go.RowKit

end Go.Proofs.YtdjhfeaimmpmhaaGreat

set_option maxRecDepth 100000
set_option linter.unusedVariables false
set_option linter.unusedSimpArgs false
namespace Go.Proofs.YtdjhfeaimmpmhaaGreat
open Go.RowKit

end Go.Proofs.YtdjhfeaimmpmhaaGreat

set_option maxRecDepth 100000
set_option linter.unusedVariables false
set_option linter.unusedSimpArgs false
namespace Go.Proofs.YtdjhfeaimmpmhaaGreat
open Go.RowKit

end Go.Proofs.YtdjhfeaimmpmhaaGreat

set_option maxRecDepth 100000
set_option linter.unusedVariables false
set_option linter.unusedSimpArgs false
namespace Go.Proofs.YtdjhfeaimmpmhaaGreat
open Go.RowKit

end Go.Proofs.YtdjhfeaimmpmhaaGreat

set_option maxRecDepth 100000
set_option linter.unusedVariables false
set_option linter.unusedSimpArgs false
namespace Go.Proofs.YtdjhfeaimmpmhaaGreat
open Go.RowKit

theorem LA.keptLt {w w' : World} {B g : Nat} {v : Value} {xss : List (List Int)} (h : LA w B v xss) (hg : w.grownBy w' (some g)) (hlt : g < B) : LA w' B v xss := by
  obtain ⟨vs, h1, h2, h3⟩ := h
  have ne : ∀ u : Value, (∀ b, u.ownBlock = some b → B ≤ b) → u.ownBlock = none ∨ u.ownBlock ≠ some g := fun u hu => by
    cases hb : u.ownBlock with
    | none => exact .inl rfl
    | some b => exact .inr fun e => by injection e with e; have := hu b hb; omega
  exact ⟨vs, h1.kept hg (ne v h1.ge), ⟨h2.1, fun k u zs hu hz => ⟨(h2.2 k u zs hu hz).1.kept hg (ne u (h2.2 k u zs hu hz).1.ge), (h2.2 k u zs hu hz).2⟩⟩, h3⟩

end Go.Proofs.YtdjhfeaimmpmhaaGreat

set_option maxRecDepth 100000
set_option linter.unusedVariables false
set_option linter.unusedSimpArgs false
namespace Go.Proofs.YtdjhfeaimmpmhaaGreat
open Go.RowKit

end Go.Proofs.YtdjhfeaimmpmhaaGreat

set_option maxRecDepth 100000
namespace Go.Proofs.YtdjhfeaimmpmhaaGreat

end Go.Proofs.YtdjhfeaimmpmhaaGreat

set_option maxRecDepth 100000
set_option linter.unusedVariables false
set_option linter.unusedSimpArgs false
namespace Go.Proofs.YtdjhfeaimmpmhaaGreat

/-! ### the unit -/
end Go.Proofs.YtdjhfeaimmpmhaaGreat

set_option maxRecDepth 100000
namespace Go.Proofs
end Go.Proofs

set_option maxRecDepth 100000
set_option linter.unusedVariables false
set_option linter.unusedSimpArgs false
namespace Go.Proofs.YtdjhfeaimmpmhaaGreat
open Go.RowKit Go.Sort Go.Shelf

/-- pieces and skeleton -/
abbrev PK := List (List Nat) × List Nat
end Go.Proofs.YtdjhfeaimmpmhaaGreat

