/- Walk: substituted of the program. | Walk: convolve of the program. | Walk: inverseMap of the program. -/
import Derived.Test.YtdjhfeaimmpmhaaGreatZc18
import Derived.Test.YtdjhfeaimmpmhaaGreatZc32
import Derived.Test.YtdjhfeaimmpmhaaGreatZc16
import Derived.Test.YtdjhfeaimmpmhaaGreatZc10
set_option maxRecDepth 100000
set_option linter.unusedVariables false
set_option linter.unusedSimpArgs false
namespace Go.Proofs.YtdjhfeaimmpmhaaGreat
open Go.RowKit

theorem Mcs.at_ {w : World} {B : Nat} {css : List (List Value)} {xs : List MC} {i : Nat} {x : MC} (h : Mcs w B css xs) (hx : xs[i]? = some x) : ∃ c, css[i]? = some c ∧ McD w B c x := by
  have hi := (List.getElem?_eq_some_iff.1 hx).1
  have hc : css[i]? = some (css[i]'(by rw [h.1]; exact hi)) := List.getElem?_eq_getElem _
  exact ⟨_, hc, h.2 i _ x hc hx⟩
/-- the parts of a partition or a cut in memory -/
theorem part_at {w : World} {B : Nat} {e : TypeId} {A2 : Option Addr} {c2 : Nat} {css : List (List Value)} {xs : List MC} {j : Nat} {x : MC} (h : OwnK w B e 3 (.slice A2 css.length c2) css) (hm : Mcs w B css xs) (hx : xs[j]? = some x) :
    ∃ go As cs, A2 = some ⟨go, 0, none⟩ ∧ OwnInts w B tN (.slice As x.1.1.length cs) (up x.1.1) ∧ w.cell? ⟨go, j * 3, none⟩ = some (.int .i64 (x.2 : Nat)) ∧ w.cell? ⟨go, j * 3 + 1, none⟩ = some (.slice As x.1.1.length cs) ∧ w.cell? ⟨go, j * 3 + 2, none⟩ = some (.int .i64 (x.1.2 : Nat)) := by
  obtain ⟨c, hc, s, rfl, hs⟩ := hm.at_ hx
  obtain ⟨As, cs, rfl, -, -, -⟩ := hs.ints.open_
  rw [up_len] at hs hc
  obtain ⟨go, cg, heo, hg0⟩ := h.cell (j := 0) hc rfl
  simp only [Value.slice.injEq] at heo
  obtain ⟨rfl, -, rfl⟩ := heo
  refine ⟨go, As, cs, rfl, hs, hg0, ?_, ?_⟩
  · obtain ⟨g', c', he', h'⟩ := h.cell (j := 1) hc rfl; simp only [Value.slice.injEq, Option.some.injEq, Addr.mk.injEq, and_true, true_and] at he'; rw [he'.1]; exact h'
  · obtain ⟨g', c', he', h'⟩ := h.cell (j := 2) hc rfl; simp only [Value.slice.injEq, Option.some.injEq, Addr.mk.injEq, and_true, true_and] at he'; rw [he'.1]; exact h'
end Go.Proofs.YtdjhfeaimmpmhaaGreat

set_option maxRecDepth 100000
set_option linter.unusedVariables false
set_option linter.unusedSimpArgs false
namespace Go.Proofs.YtdjhfeaimmpmhaaGreat
open Go.RowKit

set_option maxHeartbeats 16000000 in
theorem i_convolve (w : World) (vp va vb : Value) (Af : Option Addr) (cf Bp : Nat) (a b : List Int) (hP : FrC w Bp vp) (h1 : Ints w va a) (l1 : a.length = 38) (hN1 : Nums a) (h2 : Ints w vb b) (l2 : b.length = 38) (hN2 : Nums b) :
    Calls Tryz.prog 80 #[.agg #[.slice Af 37 cf, vp], va, vb] w fun e w' => ∃ x, e = .returned x ∧ OwnInts w' w.heap.size tI x (cvZ a b) ∧ Below w.heap.size w w' := by
  obtain ⟨AP, cP, rfl, -⟩ := hP.at_
  obtain ⟨Ab, cb, rfl, -, -, -⟩ := h1.open_
  obtain ⟨Aa, ca, rfl, -, -, -⟩ := h2.open_
  rw [l1] at h1 ⊢
  rw [l2] at h2 ⊢
  obtain ⟨ada, rfl, hc0, ha0, ha1⟩ := map_cell h2 hN2 (k := 0) (by omega)
  obtain ⟨wb, hwb⟩ : ∃ wb, wb = w.alloc (.cells #[.slice Af 37 cf, .slice AP 37 cP] tFo) := ⟨_, rfl⟩
  have hbb : Below w.heap.size w wb := by rw [hwb]; exact below1 w _
  have HBX := Lib.hid hbb
  have HF := Lib.hid (show Blk wb w.heap.size tFo #[.slice Af 37 cf, .slice AP 37 cP] from by rw [hwb]; exact Blk.new _ _ _)
  have HP := Lib.hid (hP.below hbb)
  have HB1 := Lib.hid (h1.below hbb)
  have HA1 := Lib.hid (h2.below hbb)
  have HNB := Lib.hid hN1
  have HNA := Lib.hid hN2
  have HLB := Lib.hid l1
  have HSZ := Lib.hid (cvZ_len a b)
  obtain ⟨y0, hy0⟩ : ∃ y0, y0 = b.getD 0 0 := ⟨_, rfl⟩
  rw [← hy0] at hc0
  have HS0 := Lib.hid (show ints ((cvZ a b).take 1) = [.int .i64 y0] from by rw [hy0]; rfl)
  have OL := Lib.hid (show Own (wb.alloc (.cells #[.int .i64 y0] tI)) wb.heap.size tI (.slice (some ⟨wb.heap.size, 0, none⟩) 1 1) (ints ((cvZ a b).take 1)) from by rw [HS0.out]; exact own_lit wb tI [.int .i64 y0] (by simp [maxLen]))
  have hc0' : wb.cell? ada = some (.int .i64 y0) := keepCell hbb (by simpa [Addr.add] using hc0)
  have hf0 : wb.cell? ⟨w.heap.size, 0, none⟩ = some (.slice Af 37 cf) := HF.out.cell 0
  have hf1 : wb.cell? ⟨w.heap.size, 1, none⟩ = some (.slice AP 37 cP) := HF.out.cell 1
  have hf1a : ∀ o, (wb.alloc o).cell? ⟨w.heap.size, 1, none⟩ = some (.slice AP 37 cP) := fun o => (HF.out.alloc o).cell 1
  clear hy0 ha0 ha1
  clear hP h1 h2 l1 l2 hN1 hN2 hc0 hbb
  go_enter Tryz.func80, Tryz.ntmps80
  go_upto_region 1 with fail
  rw [← hwb]
  clear hwb
  go_wp2_with fail
  clear hf0 hf1 hf1a hc0'
  go_loopw [7, 20] (fun o x wr => ∃ i : Nat, i ≤ 37 ∧ x = .int .i64 i ∧ Own wr wb.heap.size tI o (ints ((cvZ a b).take (i + 1))) ∧ Below wb.heap.size wb wr) (fun _ x _ => 37 - (intOf x).toNat)
  case atStart => exact ⟨0, Nat.zero_le _, rfl, OL.out, below1 wb _⟩
  case round =>
    obtain ⟨i, hi, rfl, ho, hb⟩ := hrel
    rename World => wq
    clear OL
    have hel : ((cvZ a b).take (i + 1)).length = i + 1 := by rw [List.length_take, HSZ.out]; omega
    have hol := ho.cells.open_
    rw [ints_len, hel] at hol
    obtain ⟨Ao, co, rfl, -, -⟩ := hol
    have HEL := Lib.hid hel
    have HO := Lib.hid ho
    have HBQ := Lib.hid hb
    obtain ⟨AP', cP', he, hat⟩ := (HP.out.below hb).at_
    simp only [Value.slice.injEq, true_and] at he
    obtain ⟨rfl, rfl⟩ := he
    clear ho hel
    by_cases hlt : i < 37
    · obtain ⟨adp, css, A2, c2, rfl, ho2, hm2, hcp⟩ := hat i hlt
      have htm := tr_mem hlt
      have hpl := CTab_ln hlt
      obtain ⟨L, hL⟩ : ∃ L, L = CTab.getD i [] := ⟨_, rfl⟩
      rw [← hL] at hm2 hpl
      have HLE := Lib.hid hL
      have HPL := Lib.hid hpl
      have hcl := hm2.1
      have HCL := Lib.hid hcl
      have hc5 : css.length ≤ 100 := by rw [hcl]; exact hpl
      have HO2 := Lib.hid ho2
      have HM2 := Lib.hid hm2
      have HTS := Lib.hid (show ints ((cvZ a b).take (i + 1 + 1)) = ints ((cvZ a b).take (i + 1)) ++ [.int .i64 (sumF (tcI a b) L % 10007)] from by
        have h1 : (cvZ a b)[i + 1]? = some (sumF (tcI a b) L % 10007) := by rw [hL]; exact cvZ_get a b hlt
        rw [List.take_add_one, h1, ints, ints, List.map_append]; rfl)
      have hii : (i : Int) < 37 := by omega
      clear hat hb htm hpl hL hcl ho2 hm2
      go_wp2_with fail
      go_loopw [10, 26] (fun s x wr => ∃ j : Nat, j ≤ css.length ∧ x = .int .i64 j ∧ s = .int .i64 (sumF (tcI a b) (L.take j)) ∧ Below wq.heap.size wq wr) (fun _ x _ => css.length - (intOf x).toNat)
      case atStart => exact ⟨0, Nat.zero_le _, rfl, rfl, Below.refl _ _⟩
      case round =>
        obtain ⟨j, hj, rfl, rfl, hb⟩ := hrel
        rename World => wc
        have HBC := Lib.hid hb
        have hsb : 0 ≤ sumF (tcI a b) (L.take j) ∧ sumF (tcI a b) (L.take j) ≤ 100 * 10006 := by
          have h := sumF_bd (tcI a b) 10006 (L.take j) fun x _ => tcI_bd a b x
          have h2 : (L.take j).length ≤ 100 := Nat.le_trans (List.length_take_le _ _) (by omega)
          have h3 := HPL.out
          rw [List.length_take] at h
          omega
        by_cases hlj : j < css.length
        · obtain ⟨⟨⟨cr, sk⟩, n⟩, hx⟩ : ∃ x, L[j]? = some x := ⟨_, List.getElem?_eq_getElem (by rw [← HCL.out]; exact hlj)⟩
          have hxm := List.mem_of_getElem? hx
          obtain ⟨hcr, hsk, hn⟩ := CTab_at hlt (x := ((cr, sk), n)) (by rw [← HLE.out]; exact hxm)
          have hn : n ≤ 100 := hn
          have hcr : ∀ p ∈ cr, p < 38 := hcr
          have hsk : sk < 38 := hsk
          obtain ⟨go, As, cs, rfl, hs1, hq0, hq1, hq2⟩ := part_at (HO2.out.below hb) (HM2.out.below hb) hx
          have hs1 : OwnInts wc Bp tN (.slice As cr.length cs) (up cr) := hs1
          have hq0 : wc.cell? ⟨go, j * 3, none⟩ = some (.int .i64 n) := hq0
          have hq1 : wc.cell? ⟨go, j * 3 + 1, none⟩ = some (.slice As cr.length cs) := hq1
          have hq2 : wc.cell? ⟨go, j * 3 + 2, none⟩ = some (.int .i64 sk) := hq2
          have HTJ := Lib.hid (show sumF (tcI a b) (L.take (j + 1)) = sumF (tcI a b) (L.take j) + (n : Int) * (valZ a cr * b.getD sk 0 % 10007) % 10007 from by rw [sumF_take _ hx]; rfl)
          have HCR := Lib.hid hcr
          generalize sumF (tcI a b) (L.take j) = sm at *
          obtain ⟨_, he, hcx, hx0, hx1⟩ := map_cell ((HA1.out.below HBQ.out).below hb) HNA.out (k := sk) hsk
          simp only [Option.some.injEq] at he
          subst he
          have hvb := valZ_bd a cr
          have HVB := Lib.hid (show valZ a cr = valZ a cr from rfl)
          obtain ⟨V, hV⟩ : ∃ V, V = valZ a cr := ⟨_, rfl⟩
          rw [← hV] at hvb HTJ
          have HVE := Lib.hid hV
          generalize b.getD sk 0 = y at *
          obtain ⟨p1, p2⟩ := mul_bd 10006 10006 hvb.1 hvb.2 hx0 hx1
          have hmd : 0 ≤ V * y % 10007 ∧ V * y % 10007 ≤ 10006 := by omega
          obtain ⟨q1, q2⟩ := mul_bd 100 10006 (show (0 : Int) ≤ (n : Int) by omega) (show (n : Int) ≤ 100 by omega) hmd.1 hmd.2
          have hjj : (j : Int) < (css.length : Int) := by omega
          have hskk : (sk : Int) < 38 := by omega
          clear hxm hcr hx hV hb
          go_upto_region 9 with fail
          obtain ⟨W, hW⟩ : ∃ W, W = wc.alloc (.cells #[.int .i64 n, .slice As cr.length cs, .int .i64 sk] tMc) := ⟨_, rfl⟩
          have hbw : Below wc.heap.size wc W := by rw [hW]; exact below1 wc _
          have HBW := Lib.hid hbw
          have HKP := Lib.hid (show Blk W wc.heap.size tMc #[.int .i64 n, .slice As cr.length cs, .int .i64 sk] from by rw [hW]; exact Blk.new _ _ _)
          have HSW := Lib.hid (hs1.below hbw).ints
          have HBB := Lib.hid ((HB1.out.below HBQ.out).below (HBC.out.trans (hbw.mono HBC.out.size)))
          rw [← hW]
          clear hW hs1 hbw
          obtain ⟨S, hS1, hS2⟩ : ∃ S : World → Prop, (∀ Wx, S Wx → Below W.heap.size W Wx) ∧ (∀ Wx, Below W.heap.size W Wx → S Wx) := ⟨fun Wx => Below W.heap.size W Wx, fun _ h => h, fun _ h => h⟩
          have HSE := Lib.hid (show ∀ x : GW S, Below W.heap.size W x.w from fun x => hS1 _ x.h)
          have HSI := Lib.hid (show S W.drew from hS2 _ (Below.refl W.heap.size W).drew)
          have hx0' : ∀ x : GW S, x.w.cell? ⟨wc.heap.size, 0, none⟩ = some (.int .i64 n) := fun x => keepCell (HSE.out x) (HKP.out.cell 0)
          have hx1' : ∀ x : GW S, x.w.cell? ⟨wc.heap.size, 1, none⟩ = some (.slice As cr.length cs) := fun x => keepCell (HSE.out x) (HKP.out.cell 1)
          have hx2' : ∀ x : GW S, x.w.cell? ⟨wc.heap.size, 2, none⟩ = some (.int .i64 sk) := fun x => keepCell (HSE.out x) (HKP.out.cell 2)
          have hx3' : ∀ x : GW S, x.w.cell? (ada.add sk) = some (.int .i64 y) := fun x => keepCell ((HBW.out.trans ((HSE.out x).mono HBW.out.size))) hcx
          have HVL := Lib.hid (show ∀ x : GW S, Calls Tryz.prog 142 #[.slice Ab 38 cb, .slice As cr.length cs] x.w (fun e w' => e = .returned (.int .i64 V) ∧ S w') from fun x => (i_valueOf x.w _ _ a cr (HBB.out.below (HSE.out x)) HLB.out HNB.out (HSW.out.below (HSE.out x)) HCR.out).mono (by rintro e w7 ⟨rfl, rfl⟩; exact ⟨by rw [HVE.out], hS2 _ (HSE.out x)⟩))
          have HN1 := Lib.hid (show ∀ x : GW S, Calls Tryz.prog 60 #[.int .i64 (V * y)] x.w (fun e w' => e = .returned (.int .i64 (V * y % 10007)) ∧ S w') from fun x => (i_num (V * y) x.w (by omega) (by omega)).mono (by rintro e w7 ⟨rfl, rfl⟩; exact ⟨rfl, hS2 _ (HSE.out x)⟩))
          have hws1 : IntKind.i64.wrap (V * y) = V * y := IntWalk.i64_in _ (by omega)
          generalize V * y % 10007 = q at *
          have HN2 := Lib.hid (show ∀ x : GW S, Calls Tryz.prog 60 #[.int .i64 ((n : Int) * q)] x.w (fun e w' => e = .returned (.int .i64 ((n : Int) * q % 10007)) ∧ S w') from fun x => (i_num ((n : Int) * q) x.w (by omega) (by omega)).mono (by rintro e w7 ⟨rfl, rfl⟩; exact ⟨rfl, hS2 _ (HSE.out x)⟩))
          have hws2 : IntKind.i64.wrap ((n : Int) * q) = (n : Int) * q := IntWalk.i64_in _ (by omega)
          have hq3 : 0 ≤ (n : Int) * q % 10007 ∧ (n : Int) * q % 10007 ≤ 10006 := by omega
          clear hS1 hS2 hq0 hq1 hq2 hcx
          refine wp_region_grow S (by kernel_rfl) (by kernel_rfl) HSI.out (fun hne => ?_)
          repeat (go_big_quiet_step ((first
            | (go_at_call 142; exact grow_call (HVL.out _))
            | (go_at_call_of 60 V; exact grow_call (HN1.out _))
            | (go_at_call 60; exact grow_call (HN2.out _)))))
          refine wpQuiet_nil ?_
          rintro _ ⟨xq, rfl⟩
          clear hx0' hx1' hx2' hx3'
          go_wp2_with fail
          go_roundw
          case rel => exact ⟨j + 1, by omega, by go_num, by rw [HTJ.out], HBC.out.trans ((HBW.out.trans ((HSE.out xq).mono HBW.out.size)).mono HBC.out.size)⟩
          case measure => simp [intOf]; omega
        · have hjl : L.take j = L := List.take_of_length_le (by rw [← HCL.out]; omega)
          rw [hjl] at hsb ⊢
          have HOX := Lib.hid (HO.out.below HBC.out)
          clear hjl hb
          generalize sumF (tcI a b) L = sm at *
          go_wp2_with (first
            | (go_at_call 60; refine (i_num sm _ (by omega) (by omega)).mono ?_; rintro e w' ⟨rfl, rfl⟩)
            | (at_builtin; go_loud (refine wpList_app1 T_int HOX.out (by rw [ints_len, HEL.out]; omega) (Nat.le_trans HBQ.out.size HBC.out.size) (by rfl) rfl (by rfl) (by rfl) (by rfl) ?_; intro v1 w6 hown1 hgr1; have HN := Lib.hid hown1; have HGR := Lib.hid hgr1; clear hown1 hgr1)))
          go_roundw
          case rel =>
            refine ⟨i + 1, by omega, by go_num, ?_, HGR.out.below (HBQ.out.trans (HBC.out.mono HBQ.out.size)) (Nat.le_trans HBQ.out.size HBC.out.size) HO.out.ge⟩
            rw [HTS.out]; exact HN.out
          case measure => simp [intOf]; omega
    · have hil : i + 1 = (cvZ a b).length := by rw [HSZ.out]; omega
      have HFF := Lib.hid (show (cvZ a b).take (i + 1) = cvZ a b from by rw [hil]; exact List.take_length)
      clear hil
      go_wp2_with fail
      go_ret
      refine ⟨_, rfl, ⟨?_, fun z hz => in64_num (cvZ_nums HNA.out z hz)⟩, HBX.out.trans (HBQ.out.mono HBX.out.size)⟩
      have h := HO.out
      rw [HFF.out] at h
      exact h.mono HBX.out.size
end Go.Proofs.YtdjhfeaimmpmhaaGreat

set_option maxRecDepth 100000
set_option linter.unusedVariables false
set_option linter.unusedSimpArgs false
namespace Go.Proofs.YtdjhfeaimmpmhaaGreat
open Go.RowKit

set_option maxHeartbeats 16000000 in
theorem i_inverseMap (w : World) (vp va : Value) (Af : Option Addr) (cf Bp : Nat) (a : List Int) (hP : FrC w Bp vp) (h2 : Ints w va a) (l2 : a.length = 38) (hN2 : Nums a) :
    Calls Tryz.prog 109 #[.agg #[.slice Af 37 cf, vp], va] w fun e w' => ∃ x, e = .returned x ∧ OwnInts w' w.heap.size tI x (invL a 37) ∧ Below w.heap.size w w' := by
  obtain ⟨AP, cP, rfl, -⟩ := hP.at_
  obtain ⟨Aa, ca, rfl, -, -, -⟩ := h2.open_
  rw [l2] at h2 ⊢
  obtain ⟨ada, rfl, -, -, -⟩ := map_cell h2 hN2 (k := 0) (by omega)
  obtain ⟨wb, hwb⟩ : ∃ wb, wb = w.alloc (.cells #[.slice Af 37 cf, .slice AP 37 cP] tFo) := ⟨_, rfl⟩
  have hbb : Below w.heap.size w wb := by rw [hwb]; exact below1 w _
  have HBX := Lib.hid hbb
  have HF := Lib.hid (show Blk wb w.heap.size tFo #[.slice Af 37 cf, .slice AP 37 cP] from by rw [hwb]; exact Blk.new _ _ _)
  have HP := Lib.hid (hP.below hbb)
  have HA1 := Lib.hid (h2.below hbb)
  have HNA := Lib.hid hN2
  have HSZ := Lib.hid (invL_len a)
  have OL := Lib.hid (show Own (wb.alloc (.cells #[.int .i64 1] tI)) wb.heap.size tI (.slice (some ⟨wb.heap.size, 0, none⟩) 1 1) (ints (invL a 0)) from own_lit wb tI [.int .i64 1] (by simp [maxLen]))
  have hf0 : wb.cell? ⟨w.heap.size, 0, none⟩ = some (.slice Af 37 cf) := HF.out.cell 0
  have hf1 : wb.cell? ⟨w.heap.size, 1, none⟩ = some (.slice AP 37 cP) := HF.out.cell 1
  have hf1a : ∀ o, (wb.alloc o).cell? ⟨w.heap.size, 1, none⟩ = some (.slice AP 37 cP) := fun o => (HF.out.alloc o).cell 1
  clear hP h2 l2 hN2 hbb
  go_enter Tryz.func109, Tryz.ntmps109
  go_upto_region 1 with fail
  rw [← hwb]
  clear hwb
  go_wp2_with fail
  clear hf0 hf1 hf1a
  go_loopw [5, 15] (fun o x wr => ∃ i : Nat, i ≤ 37 ∧ x = .int .i64 i ∧ Own wr wb.heap.size tI o (ints (invL a i)) ∧ Below wb.heap.size wb wr) (fun _ x _ => 37 - (intOf x).toNat)
  case atStart => exact ⟨0, Nat.zero_le _, rfl, OL.out, below1 wb _⟩
  case round =>
    obtain ⟨i, hi, rfl, ho, hb⟩ := hrel
    rename World => wq
    clear OL
    have hel : (invL a i).length = i + 1 := HSZ.out i
    have hol := ho.cells.open_
    rw [ints_len, hel] at hol
    obtain ⟨Ao, co, rfl, -, -⟩ := hol
    have HEL := Lib.hid hel
    have HO := Lib.hid ho
    have HBQ := Lib.hid hb
    obtain ⟨AP', cP', he, hat⟩ := (HP.out.below hb).at_
    simp only [Value.slice.injEq, true_and] at he
    obtain ⟨rfl, rfl⟩ := he
    clear ho hel
    by_cases hlt : i < 37
    · obtain ⟨adp, css, A2, c2, rfl, ho2, hm2, hcp⟩ := hat i hlt
      have hpl := CTab_ln hlt
      obtain ⟨L, hL⟩ : ∃ L, L = CTab.getD i [] := ⟨_, rfl⟩
      rw [← hL] at hm2 hpl
      have HLE := Lib.hid hL
      have HPL := Lib.hid hpl
      have hcl := hm2.1
      have HCL := Lib.hid hcl
      have hc5 : css.length ≤ 100 := by rw [hcl]; exact hpl
      have HO2 := Lib.hid ho2
      have HM2 := Lib.hid hm2
      obtain ⟨b, hbE⟩ : ∃ b, b = invL a i := ⟨_, rfl⟩
      have HTS := Lib.hid (show ints (invL a (i + 1)) = ints b ++ [.int .i64 ((-(sumF (tpI b a) L)) % 10007)] from by
        rw [invL, ← hL, ← hbE, ints, ints, List.map_append]; rfl)
      have HNB := Lib.hid (show Nums b from by rw [hbE]; exact invL_nums a i)
      rw [← hbE] at HEL HO
      have HOI := Lib.hid (show OwnInts wq wb.heap.size tI (.slice Ao (i + 1) co) b from ⟨HO.out, fun z hz => in64_num (HNB.out z hz)⟩)
      have hii : (i : Int) < 37 := by omega
      clear hat hb hpl hL hcl ho2 hm2 hbE
      go_wp2_with fail
      go_loopw [8, 21] (fun s x wr => ∃ j : Nat, j ≤ css.length ∧ x = .int .i64 j ∧ s = .int .i64 (sumF (tpI b a) (L.take j)) ∧ Below wq.heap.size wq wr) (fun _ x _ => css.length - (intOf x).toNat)
      case atStart => exact ⟨0, Nat.zero_le _, rfl, rfl, Below.refl _ _⟩
      case round =>
        obtain ⟨j, hj, rfl, rfl, hb⟩ := hrel
        rename World => wc
        have HBC := Lib.hid hb
        have hsb : 0 ≤ sumF (tpI b a) (L.take j) ∧ sumF (tpI b a) (L.take j) ≤ 100 * 10006 := by
          have h := sumF_bd (tpI b a) 10006 (L.take j) fun x _ => tpI_bd b a x
          have h2 : (L.take j).length ≤ 100 := Nat.le_trans (List.length_take_le _ _) (by omega)
          have h3 := HPL.out
          rw [List.length_take] at h
          omega
        by_cases hlj : j < css.length
        · obtain ⟨⟨⟨cr, sk⟩, n⟩, hx⟩ : ∃ x, L[j]? = some x := ⟨_, List.getElem?_eq_getElem (by rw [← HCL.out]; exact hlj)⟩
          have hxm := List.mem_of_getElem? hx
          obtain ⟨-, hsk, hn⟩ := CTab_at hlt (x := ((cr, sk), n)) (by rw [← HLE.out]; exact hxm)
          have hcr := (tp_at (p := i + 1) (by omega) (by omega) (x := ((cr, sk), n)) (by show _ ∈ CTab.getD i []; rw [← HLE.out]; exact hxm)).1
          have hn : n ≤ 100 := hn
          have hcr : 0 < sk → ∀ p ∈ cr, p < i + 1 := hcr
          have hsk : sk < 38 := hsk
          obtain ⟨go, As, cs, rfl, hs1, hq0, hq1, hq2⟩ := part_at (HO2.out.below hb) (HM2.out.below hb) hx
          have hs1 : OwnInts wc Bp tN (.slice As cr.length cs) (up cr) := hs1
          have hq0 : wc.cell? ⟨go, j * 3, none⟩ = some (.int .i64 n) := hq0
          have hq1 : wc.cell? ⟨go, j * 3 + 1, none⟩ = some (.slice As cr.length cs) := hq1
          have hq2 : wc.cell? ⟨go, j * 3 + 2, none⟩ = some (.int .i64 sk) := hq2
          have HTJ := Lib.hid (show sumF (tpI b a) (L.take (j + 1)) = sumF (tpI b a) (L.take j) + (bif Nat.blt 0 sk then (n : Int) * (valZ b cr * a.getD sk 0 % 10007) % 10007 else 0) from by rw [sumF_take _ hx]; rfl)
          generalize sumF (tpI b a) (L.take j) = sm at *
          have hjj : (j : Int) < (css.length : Int) := by omega
          have hskk : (sk : Int) < 38 := by omega
          by_cases hpos : 0 < sk
          · have HTJ := Lib.hid (show sumF (tpI b a) (L.take (j + 1)) = sm + (n : Int) * (valZ b cr * a.getD sk 0 % 10007) % 10007 from by rw [HTJ.out, show Nat.blt 0 sk = true from Nat.ble_eq_true_of_le hpos]; rfl)
            have HCR := Lib.hid (hcr hpos)
            have hpp : (0 : Int) < (sk : Int) := by omega
            obtain ⟨_, he, hcx, hx0, hx1⟩ := map_cell ((HA1.out.below HBQ.out).below hb) HNA.out (k := sk) hsk
            simp only [Option.some.injEq] at he
            subst he
            have hvb := valZ_bd b cr
            obtain ⟨V, hV⟩ : ∃ V, V = valZ b cr := ⟨_, rfl⟩
            rw [← hV] at hvb HTJ
            have HVE := Lib.hid hV
            generalize a.getD sk 0 = y at *
            obtain ⟨p1, p2⟩ := mul_bd 10006 10006 hvb.1 hvb.2 hx0 hx1
            have hmd : 0 ≤ V * y % 10007 ∧ V * y % 10007 ≤ 10006 := by omega
            obtain ⟨q1, q2⟩ := mul_bd 100 10006 (show (0 : Int) ≤ (n : Int) by omega) (show (n : Int) ≤ 100 by omega) hmd.1 hmd.2
            clear hxm hcr hx hV hb
            go_upto_region 10 with fail
            obtain ⟨W, hW⟩ : ∃ W, W = wc.alloc (.cells #[.int .i64 n, .slice As cr.length cs, .int .i64 sk] tMc) := ⟨_, rfl⟩
            have hbw : Below wc.heap.size wc W := by rw [hW]; exact below1 wc _
            have HBW := Lib.hid hbw
            have HKP := Lib.hid (show Blk W wc.heap.size tMc #[.int .i64 n, .slice As cr.length cs, .int .i64 sk] from by rw [hW]; exact Blk.new _ _ _)
            have HSW := Lib.hid (hs1.below hbw).ints
            have HBB := Lib.hid ((HOI.out.below (HBC.out.trans (hbw.mono HBC.out.size))).ints)
            rw [← hW]
            clear hW hs1 hbw
            obtain ⟨S, hS1, hS2⟩ : ∃ S : World → Prop, (∀ Wx, S Wx → Below W.heap.size W Wx) ∧ (∀ Wx, Below W.heap.size W Wx → S Wx) := ⟨fun Wx => Below W.heap.size W Wx, fun _ h => h, fun _ h => h⟩
            have HSE := Lib.hid (show ∀ x : GW S, Below W.heap.size W x.w from fun x => hS1 _ x.h)
            have HSI := Lib.hid (show S W.drew from hS2 _ (Below.refl W.heap.size W).drew)
            have hx0' : ∀ x : GW S, x.w.cell? ⟨wc.heap.size, 0, none⟩ = some (.int .i64 n) := fun x => keepCell (HSE.out x) (HKP.out.cell 0)
            have hx1' : ∀ x : GW S, x.w.cell? ⟨wc.heap.size, 1, none⟩ = some (.slice As cr.length cs) := fun x => keepCell (HSE.out x) (HKP.out.cell 1)
            have hx2' : ∀ x : GW S, x.w.cell? ⟨wc.heap.size, 2, none⟩ = some (.int .i64 sk) := fun x => keepCell (HSE.out x) (HKP.out.cell 2)
            have hx3' : ∀ x : GW S, x.w.cell? (ada.add sk) = some (.int .i64 y) := fun x => keepCell ((HBW.out.trans ((HSE.out x).mono HBW.out.size))) hcx
            have HVL := Lib.hid (show ∀ x : GW S, Calls Tryz.prog 142 #[.slice Ao (i + 1) co, .slice As cr.length cs] x.w (fun e w' => e = .returned (.int .i64 V) ∧ S w') from fun x => (i_valueOfG x.w _ _ b cr (HBB.out.below (HSE.out x)) (by rw [HEL.out]; omega) HNB.out (HSW.out.below (HSE.out x)) (by rw [HEL.out]; exact HCR.out)).mono (by rintro e w7 ⟨rfl, rfl⟩; exact ⟨by rw [HVE.out], hS2 _ (HSE.out x)⟩))
            have HN1 := Lib.hid (show ∀ x : GW S, Calls Tryz.prog 60 #[.int .i64 (V * y)] x.w (fun e w' => e = .returned (.int .i64 (V * y % 10007)) ∧ S w') from fun x => (i_num (V * y) x.w (by omega) (by omega)).mono (by rintro e w7 ⟨rfl, rfl⟩; exact ⟨rfl, hS2 _ (HSE.out x)⟩))
            have hws1 : IntKind.i64.wrap (V * y) = V * y := IntWalk.i64_in _ (by omega)
            generalize V * y % 10007 = q at *
            have HN2 := Lib.hid (show ∀ x : GW S, Calls Tryz.prog 60 #[.int .i64 ((n : Int) * q)] x.w (fun e w' => e = .returned (.int .i64 ((n : Int) * q % 10007)) ∧ S w') from fun x => (i_num ((n : Int) * q) x.w (by omega) (by omega)).mono (by rintro e w7 ⟨rfl, rfl⟩; exact ⟨rfl, hS2 _ (HSE.out x)⟩))
            have hws2 : IntKind.i64.wrap ((n : Int) * q) = (n : Int) * q := IntWalk.i64_in _ (by omega)
            have hq3 : 0 ≤ (n : Int) * q % 10007 ∧ (n : Int) * q % 10007 ≤ 10006 := by omega
            clear hS1 hS2 hq0 hq1 hq2 hcx
            refine wp_region_grow S (by kernel_rfl) (by kernel_rfl) HSI.out (fun hne => ?_)
            repeat (go_big_quiet_step ((first
              | (go_at_call 142; exact grow_call (HVL.out _))
              | (go_at_call_of 60 V; exact grow_call (HN1.out _))
              | (go_at_call 60; exact grow_call (HN2.out _)))))
            refine wpQuiet_nil ?_
            rintro _ ⟨xq, rfl⟩
            clear hx0' hx1' hx2' hx3'
            go_wp2_with fail
            go_roundw
            case rel => exact ⟨j + 1, by omega, by go_num, by rw [HTJ.out], HBC.out.trans ((HBW.out.trans ((HSE.out xq).mono HBW.out.size)).mono HBC.out.size)⟩
            case measure => simp [intOf]; omega
          · have hz : sk = 0 := by omega
            subst hz
            have HTJ := Lib.hid (show sumF (tpI b a) (L.take (j + 1)) = sm from by rw [HTJ.out]; show sm + 0 = sm; omega)
            clear hxm hcr hx hb hpos
            go_wp2_with fail
            go_roundw
            case rel => exact ⟨j + 1, by omega, by go_num, by rw [HTJ.out], HBC.out.trans ((below1 wc _).mono HBC.out.size)⟩
            case measure => simp [intOf]; omega
        · have hjl : L.take j = L := List.take_of_length_le (by rw [← HCL.out]; omega)
          rw [hjl] at hsb ⊢
          have HOX := Lib.hid (HO.out.below HBC.out)
          clear hjl hb
          generalize sumF (tpI b a) L = sm at *
          go_wp2_with (first
            | (go_at_call 60; refine (i_num (-sm) _ (by omega) (by omega)).mono ?_; rintro e w' ⟨rfl, rfl⟩)
            | (at_builtin; go_loud (refine wpList_app1 T_int HOX.out (by rw [ints_len, HEL.out]; omega) (Nat.le_trans HBQ.out.size HBC.out.size) (by rfl) rfl (by rfl) (by rfl) (by rfl) ?_; intro v1 w6 hown1 hgr1; have HN := Lib.hid hown1; have HGR := Lib.hid hgr1; clear hown1 hgr1)))
          go_roundw
          case rel =>
            refine ⟨i + 1, by omega, by go_num, ?_, HGR.out.below (HBQ.out.trans (HBC.out.mono HBQ.out.size)) (Nat.le_trans HBQ.out.size HBC.out.size) HO.out.ge⟩
            rw [HTS.out]; exact HN.out
          case measure => simp [intOf]; omega
    · have hil : i = 37 := by omega
      subst hil
      go_wp2_with fail
      go_ret
      exact ⟨_, rfl, ⟨HO.out.mono HBX.out.size, fun z hz => in64_num (invL_nums a 37 z hz)⟩, HBX.out.trans (HBQ.out.mono HBX.out.size)⟩
end Go.Proofs.YtdjhfeaimmpmhaaGreat

