/- Walk: valueOf of the program at lists of any length. | Walk: inverseMap of the program. | Walk: l07Unit and l07Inverse of the reference. | Walk: scaleMap of the program. -/
import Derived.Test.YtngdpoeondnchaaGreatQ26
import Derived.Test.YtngdpoeondnchaaGreatQ25
import Derived.Test.YtngdpoeondnchaaGreatQ24
import Derived.Test.YtngdpoeondnchaaGreatQ9
import Derived.Test.YtngdpoeondnchaaGreatQ27
import Derived.Test.YtngdpoeondnchaaGreatQ5
import Derived.Test.YtngdpoeondnchaaGreatQ14
import Derived.Test.YtngdpoeondnchaaGreatQ8
import Derived.Test.YtngdpoeondnchaaGreatQ21
import Derived.Deep.CutRange
import Derived.Deep.CutBlock
import Derived.Deep.DeepCutAuto
set_option maxRecDepth 100000
set_option linter.unusedVariables false
set_option linter.unusedSimpArgs false
namespace Go.Proofs.YtngdpoeondnchaaGreat
open Go.RowKit

theorem map_cellG {w : World} {A : Option Addr} {n c : Nat} {a : List Int} (h : Ints w (.slice A n c) a) (hm : ∀ z ∈ a, 0 ≤ z ∧ z ≤ 10006) {k : Nat} (hk : k < a.length) :
    ∃ ad, A = some ad ∧ w.cell? (ad.add k) = some (.int .i64 (a.getD k 0)) ∧ 0 ≤ a.getD k 0 ∧ a.getD k 0 ≤ 10006 := by
  obtain ⟨A', c', he, -, -, h3⟩ := h.open_
  simp only [Value.slice.injEq] at he
  obtain ⟨rfl, hl, rfl⟩ := he
  obtain ⟨ad, z, rfl, hz, -, hc⟩ := h3 k (by omega)
  rw [ints_getD hz]
  exact ⟨ad, rfl, hc, hm z (List.mem_of_getElem? hz)⟩
set_option maxHeartbeats 2000000 in
theorem i_valueOfG (w : World) (va vp : Value) (a : List Int) (ps : List Nat) (h1 : Ints w va a) (l1 : a.length ≤ 38) (hN : Nums a) (h2 : Ints w vp (up ps)) (hp : ∀ p ∈ ps, p < a.length) :
    Calls Tryz.prog 110 #[va, vp] w fun e w' => e = .returned (.int .i64 (valZ a ps)) ∧ w = w' := by
  obtain ⟨A, c, rfl, -, -, -⟩ := h1.open_
  have HA := Lib.hid h1
  have HN := Lib.hid hN
  have HP := Lib.hid hp
  have HL := Lib.hid l1
  obtain ⟨A2, c2, rfl, hc2, hc3, g2⟩ := h2.open_
  rw [up_len] at g2 hc2 ⊢
  have G2 := Lib.hid g2
  clear h1 h2 l1 hN hp g2
  go_enter Tryz.func110, Tryz.ntmps110
  go_wp2_with fail
  go_loop [5, 10] (fun x y => ∃ k : Nat, k ≤ ps.length ∧ x = .int .i64 (valZ a (ps.take k)) ∧ y = .int .i64 k) (fun _ y => ps.length - (intOf y).toNat)
  case atStart => exact ⟨0, Nat.zero_le _, rfl, rfl⟩
  case round =>
    obtain ⟨k, hk, rfl, rfl⟩ := hrel
    have hv := valZ_bd a (ps.take k)
    by_cases hlt : k < ps.length
    · obtain ⟨p, hpk⟩ : ∃ p, ps[k]? = some p := ⟨_, List.getElem?_eq_getElem hlt⟩
      have hp38 := HP.out p (List.mem_of_getElem? hpk)
      obtain ⟨a2, z, rfl, hz, -, hcz⟩ := G2.out k hlt
      have hze : z = (p : Int) := by
        unfold up at hz
        rw [List.getElem?_map, hpk] at hz
        injection hz with hz
        exact hz.symm
      subst hze
      obtain ⟨ad, rfl, hcx, hx0, hx1⟩ := map_cellG HA.out HN.out hp38
      have hpL : (p : Int) < (a.length : Int) := by omega
      have HV := Lib.hid (show valZ a (ps.take (k + 1)) = valZ a (ps.take k) * a.getD p 0 % 10007 from by rw [List.take_add_one, hpk]; exact valZ_snoc a _ p)
      generalize a.getD p 0 = y at *
      generalize valZ a (ps.take k) = s at *
      obtain ⟨p1, p2⟩ := mul_bd 10006 10006 hv.1 hv.2 hx0 hx1
      have hkk : (k : Int) < (ps.length : Int) := by omega
      have hpp : (p : Int) < 38 := by have := HL.out; omega
      clear hz hpk
      go_wp2_with (go_at_call 103; refine (i_num _ _ (by omega) (by omega)).mono ?_; rintro e w' ⟨rfl, rfl⟩)
      go_roundw
      case rel => exact ⟨k + 1, by omega, by rw [HV.out], by go_num⟩
      case measure => simp [intOf]; omega
    · have hkl : ps.take k = ps := List.take_of_length_le (by omega)
      rw [hkl]
      clear hkl
      go_wp2_with fail
      go_ret
      exact ⟨rfl, rfl⟩
end Go.Proofs.YtngdpoeondnchaaGreat

set_option maxRecDepth 100000
set_option linter.unusedVariables false
set_option linter.unusedSimpArgs false
namespace Go.Proofs.YtngdpoeondnchaaGreat
open Go.RowKit

set_option maxHeartbeats 16000000 in
theorem i_inverseMap (w : World) (vp va : Value) (Af : Option Addr) (cf Bp : Nat) (a : List Int) (hP : FrC w Bp vp) (h2 : Ints w va a) (l2 : a.length = 38) (hN2 : Nums a) :
    Calls Tryz.prog 66 #[.agg #[.slice Af 37 cf, vp], va] w fun e w' => ∃ x, e = .returned x ∧ OwnInts w' w.heap.size tI x (invL a 37) ∧ Below w.heap.size w w' := by
  obtain ⟨AP, cP, rfl, -⟩ := hP.at_
  obtain ⟨Aa, ca, rfl, -, -, -⟩ := h2.open_
  rw [l2] at h2 ⊢
  obtain ⟨ada, rfl, -, -, -⟩ := map_cell h2 hN2 (k := 0) (by omega)
  obtain ⟨wb, hwb⟩ : ∃ wb, wb = w.alloc (.cells #[.slice Af 37 cf, .slice AP 37 cP] tFo) := ⟨_, rfl⟩
  have hbb : Below w.heap.size w wb := by rw [hwb]; exact below1 w _
  have HBX := Lib.hid hbb
  have HF := Lib.hid (show Blk wb w.heap.size tFo #[.slice Af 37 cf, .slice AP 37 cP] from by rw [hwb]; exact Blk.new _ _ _)
  have HP := Lib.hid (hP.below hbb)
  have HA1 := Lib.hid (h2.below hbb)
  have HNA := Lib.hid hN2
  have HSZ := Lib.hid (invL_len a)
  have OL := Lib.hid (show Own (wb.alloc (.cells #[.int .i64 1] tI)) wb.heap.size tI (.slice (some ⟨wb.heap.size, 0, none⟩) 1 1) (ints (invL a 0)) from own_lit wb tI [.int .i64 1] (by simp [maxLen]))
  have hf0 : wb.cell? ⟨w.heap.size, 0, none⟩ = some (.slice Af 37 cf) := HF.out.cell 0
  have hf1 : wb.cell? ⟨w.heap.size, 1, none⟩ = some (.slice AP 37 cP) := HF.out.cell 1
  have hf1a : ∀ o, (wb.alloc o).cell? ⟨w.heap.size, 1, none⟩ = some (.slice AP 37 cP) := fun o => (HF.out.alloc o).cell 1
  clear hP h2 l2 hN2 hbb
  go_enter Tryz.func66, Tryz.ntmps66
  go_upto_region 1 with fail
  rw [← hwb]
  clear hwb
  go_wp2_with fail
  clear hf0 hf1 hf1a
  go_loopw [5, 15] (fun o x wr => ∃ i : Nat, i ≤ 37 ∧ x = .int .i64 i ∧ Own wr wb.heap.size tI o (ints (invL a i)) ∧ Below wb.heap.size wb wr) (fun _ x _ => 37 - (intOf x).toNat)
  case atStart => exact ⟨0, Nat.zero_le _, rfl, OL.out, below1 wb _⟩
  case round =>
    obtain ⟨i, hi, rfl, ho, hb⟩ := hrel
    rename World => wq
    clear OL
    have hel : (invL a i).length = i + 1 := HSZ.out i
    have hol := ho.cells.open_
    rw [ints_len, hel] at hol
    obtain ⟨Ao, co, rfl, -, -⟩ := hol
    have HEL := Lib.hid hel
    have HO := Lib.hid ho
    have HBQ := Lib.hid hb
    obtain ⟨AP', cP', he, hat⟩ := (HP.out.below hb).at_
    simp only [Value.slice.injEq, true_and] at he
    obtain ⟨rfl, rfl⟩ := he
    clear ho hel
    by_cases hlt : i < 37
    · obtain ⟨adp, css, A2, c2, rfl, ho2, hm2, hcp⟩ := hat i hlt
      have hpl := CTab_ln hlt
      obtain ⟨L, hL⟩ : ∃ L, L = CTab.getD i [] := ⟨_, rfl⟩
      rw [← hL] at hm2 hpl
      have HLE := Lib.hid hL
      have HPL := Lib.hid hpl
      have hcl := hm2.1
      have HCL := Lib.hid hcl
      have hc5 : css.length ≤ 100 := by rw [hcl]; exact hpl
      have HO2 := Lib.hid ho2
      have HM2 := Lib.hid hm2
      obtain ⟨b, hbE⟩ : ∃ b, b = invL a i := ⟨_, rfl⟩
      have HTS := Lib.hid (show ints (invL a (i + 1)) = ints b ++ [.int .i64 ((-(sumF (tpI b a) L)) % 10007)] from by
        rw [invL, ← hL, ← hbE, ints, ints, List.map_append]; rfl)
      have HNB := Lib.hid (show Nums b from by rw [hbE]; exact invL_nums a i)
      rw [← hbE] at HEL HO
      have HOI := Lib.hid (show OwnInts wq wb.heap.size tI (.slice Ao (i + 1) co) b from ⟨HO.out, fun z hz => in64_num (HNB.out z hz)⟩)
      have hii : (i : Int) < 37 := by omega
      clear hat hb hpl hL hcl ho2 hm2 hbE
      go_wp2_with fail
      go_loopw [8, 21] (fun s x wr => ∃ j : Nat, j ≤ css.length ∧ x = .int .i64 j ∧ s = .int .i64 (sumF (tpI b a) (L.take j)) ∧ Below wq.heap.size wq wr) (fun _ x _ => css.length - (intOf x).toNat)
      case atStart => exact ⟨0, Nat.zero_le _, rfl, rfl, Below.refl _ _⟩
      case round =>
        obtain ⟨j, hj, rfl, rfl, hb⟩ := hrel
        rename World => wc
        have HBC := Lib.hid hb
        have hsb : 0 ≤ sumF (tpI b a) (L.take j) ∧ sumF (tpI b a) (L.take j) ≤ 100 * 10006 := by
          have h := sumF_bd (tpI b a) 10006 (L.take j) fun x _ => tpI_bd b a x
          have h2 : (L.take j).length ≤ 100 := Nat.le_trans (List.length_take_le _ _) (by omega)
          have h3 := HPL.out
          rw [List.length_take] at h
          omega
        by_cases hlj : j < css.length
        · obtain ⟨⟨⟨cr, sk⟩, n⟩, hx⟩ : ∃ x, L[j]? = some x := ⟨_, List.getElem?_eq_getElem (by rw [← HCL.out]; exact hlj)⟩
          have hxm := List.mem_of_getElem? hx
          obtain ⟨-, hsk, hn⟩ := CTab_at hlt (x := ((cr, sk), n)) (by rw [← HLE.out]; exact hxm)
          have hcr := (tp_at (p := i + 1) (by omega) (by omega) (x := ((cr, sk), n)) (by show _ ∈ CTab.getD i []; rw [← HLE.out]; exact hxm)).1
          have hn : n ≤ 100 := hn
          have hcr : 0 < sk → ∀ p ∈ cr, p < i + 1 := hcr
          have hsk : sk < 38 := hsk
          obtain ⟨go, As, cs, rfl, hs1, hq0, hq1, hq2⟩ := part_at (HO2.out.below hb) (HM2.out.below hb) hx
          have hs1 : OwnInts wc Bp tN (.slice As cr.length cs) (up cr) := hs1
          have hq0 : wc.cell? ⟨go, j * 3, none⟩ = some (.int .i64 n) := hq0
          have hq1 : wc.cell? ⟨go, j * 3 + 1, none⟩ = some (.slice As cr.length cs) := hq1
          have hq2 : wc.cell? ⟨go, j * 3 + 2, none⟩ = some (.int .i64 sk) := hq2
          have HTJ := Lib.hid (show sumF (tpI b a) (L.take (j + 1)) = sumF (tpI b a) (L.take j) + (bif Nat.blt 0 sk then (n : Int) * (valZ b cr * a.getD sk 0 % 10007) % 10007 else 0) from by rw [sumF_take _ hx]; rfl)
          generalize sumF (tpI b a) (L.take j) = sm at *
          have hjj : (j : Int) < (css.length : Int) := by omega
          have hskk : (sk : Int) < 38 := by omega
          by_cases hpos : 0 < sk
          · have HTJ := Lib.hid (show sumF (tpI b a) (L.take (j + 1)) = sm + (n : Int) * (valZ b cr * a.getD sk 0 % 10007) % 10007 from by rw [HTJ.out, show Nat.blt 0 sk = true from Nat.ble_eq_true_of_le hpos]; rfl)
            have HCR := Lib.hid (hcr hpos)
            have hpp : (0 : Int) < (sk : Int) := by omega
            obtain ⟨_, he, hcx, hx0, hx1⟩ := map_cell ((HA1.out.below HBQ.out).below hb) HNA.out (k := sk) hsk
            simp only [Option.some.injEq] at he
            subst he
            have hvb := valZ_bd b cr
            obtain ⟨V, hV⟩ : ∃ V, V = valZ b cr := ⟨_, rfl⟩
            rw [← hV] at hvb HTJ
            have HVE := Lib.hid hV
            generalize a.getD sk 0 = y at *
            obtain ⟨p1, p2⟩ := mul_bd 10006 10006 hvb.1 hvb.2 hx0 hx1
            have hmd : 0 ≤ V * y % 10007 ∧ V * y % 10007 ≤ 10006 := by omega
            obtain ⟨q1, q2⟩ := mul_bd 100 10006 (show (0 : Int) ≤ (n : Int) by omega) (show (n : Int) ≤ 100 by omega) hmd.1 hmd.2
            clear hxm hcr hx hV hb
            go_upto_region 10 with fail
            obtain ⟨W, hW⟩ : ∃ W, W = wc.alloc (.cells #[.int .i64 n, .slice As cr.length cs, .int .i64 sk] tMc) := ⟨_, rfl⟩
            have hbw : Below wc.heap.size wc W := by rw [hW]; exact below1 wc _
            have HBW := Lib.hid hbw
            have HKP := Lib.hid (show Blk W wc.heap.size tMc #[.int .i64 n, .slice As cr.length cs, .int .i64 sk] from by rw [hW]; exact Blk.new _ _ _)
            have HSW := Lib.hid (hs1.below hbw).ints
            have HBB := Lib.hid ((HOI.out.below (HBC.out.trans (hbw.mono HBC.out.size))).ints)
            rw [← hW]
            clear hW hs1 hbw
            obtain ⟨S, hS1, hS2⟩ : ∃ S : World → Prop, (∀ Wx, S Wx → Below W.heap.size W Wx) ∧ (∀ Wx, Below W.heap.size W Wx → S Wx) := ⟨fun Wx => Below W.heap.size W Wx, fun _ h => h, fun _ h => h⟩
            have HSE := Lib.hid (show ∀ x : GW S, Below W.heap.size W x.w from fun x => hS1 _ x.h)
            have HSI := Lib.hid (show S W.drew from hS2 _ (Below.refl W.heap.size W).drew)
            have hx0' : ∀ x : GW S, x.w.cell? ⟨wc.heap.size, 0, none⟩ = some (.int .i64 n) := fun x => keepCell (HSE.out x) (HKP.out.cell 0)
            have hx1' : ∀ x : GW S, x.w.cell? ⟨wc.heap.size, 1, none⟩ = some (.slice As cr.length cs) := fun x => keepCell (HSE.out x) (HKP.out.cell 1)
            have hx2' : ∀ x : GW S, x.w.cell? ⟨wc.heap.size, 2, none⟩ = some (.int .i64 sk) := fun x => keepCell (HSE.out x) (HKP.out.cell 2)
            have hx3' : ∀ x : GW S, x.w.cell? (ada.add sk) = some (.int .i64 y) := fun x => keepCell ((HBW.out.trans ((HSE.out x).mono HBW.out.size))) hcx
            have HVL := Lib.hid (show ∀ x : GW S, Calls Tryz.prog 110 #[.slice Ao (i + 1) co, .slice As cr.length cs] x.w (fun e w' => e = .returned (.int .i64 V) ∧ S w') from fun x => (i_valueOfG x.w _ _ b cr (HBB.out.below (HSE.out x)) (by rw [HEL.out]; omega) HNB.out (HSW.out.below (HSE.out x)) (by rw [HEL.out]; exact HCR.out)).mono (by rintro e w7 ⟨rfl, rfl⟩; exact ⟨by rw [HVE.out], hS2 _ (HSE.out x)⟩))
            have HN1 := Lib.hid (show ∀ x : GW S, Calls Tryz.prog 103 #[.int .i64 (V * y)] x.w (fun e w' => e = .returned (.int .i64 (V * y % 10007)) ∧ S w') from fun x => (i_num (V * y) x.w (by omega) (by omega)).mono (by rintro e w7 ⟨rfl, rfl⟩; exact ⟨rfl, hS2 _ (HSE.out x)⟩))
            have hws1 : IntKind.i64.wrap (V * y) = V * y := IntWalk.i64_in _ (by omega)
            generalize V * y % 10007 = q at *
            have HN2 := Lib.hid (show ∀ x : GW S, Calls Tryz.prog 103 #[.int .i64 ((n : Int) * q)] x.w (fun e w' => e = .returned (.int .i64 ((n : Int) * q % 10007)) ∧ S w') from fun x => (i_num ((n : Int) * q) x.w (by omega) (by omega)).mono (by rintro e w7 ⟨rfl, rfl⟩; exact ⟨rfl, hS2 _ (HSE.out x)⟩))
            have hws2 : IntKind.i64.wrap ((n : Int) * q) = (n : Int) * q := IntWalk.i64_in _ (by omega)
            have hq3 : 0 ≤ (n : Int) * q % 10007 ∧ (n : Int) * q % 10007 ≤ 10006 := by omega
            clear hS1 hS2 hq0 hq1 hq2 hcx
            refine wp_region_grow S (by kernel_rfl) (by kernel_rfl) HSI.out (fun hne => ?_)
            repeat (go_big_quiet_step ((first
              | (go_at_call 110; exact grow_call (HVL.out _))
              | (go_at_call_of 103 V; exact grow_call (HN1.out _))
              | (go_at_call 103; exact grow_call (HN2.out _)))))
            refine wpQuiet_nil ?_
            rintro _ ⟨xq, rfl⟩
            clear hx0' hx1' hx2' hx3'
            go_wp2_with fail
            go_roundw
            case rel => exact ⟨j + 1, by omega, by go_num, by rw [HTJ.out], HBC.out.trans ((HBW.out.trans ((HSE.out xq).mono HBW.out.size)).mono HBC.out.size)⟩
            case measure => simp [intOf]; omega
          · have hz : sk = 0 := by omega
            subst hz
            have HTJ := Lib.hid (show sumF (tpI b a) (L.take (j + 1)) = sm from by rw [HTJ.out]; show sm + 0 = sm; omega)
            clear hxm hcr hx hb hpos
            go_wp2_with fail
            go_roundw
            case rel => exact ⟨j + 1, by omega, by go_num, by rw [HTJ.out], HBC.out.trans ((below1 wc _).mono HBC.out.size)⟩
            case measure => simp [intOf]; omega
        · have hjl : L.take j = L := List.take_of_length_le (by rw [← HCL.out]; omega)
          rw [hjl] at hsb ⊢
          have HOX := Lib.hid (HO.out.below HBC.out)
          clear hjl hb
          generalize sumF (tpI b a) L = sm at *
          go_wp2_with (first
            | (go_at_call 103; refine (i_num (-sm) _ (by omega) (by omega)).mono ?_; rintro e w' ⟨rfl, rfl⟩)
            | (at_builtin; go_loud (refine wpList_app1 T_int HOX.out (by rw [ints_len, HEL.out]; omega) (Nat.le_trans HBQ.out.size HBC.out.size) (by rfl) rfl (by rfl) (by rfl) (by rfl) ?_; intro v1 w6 hown1 hgr1; have HN := Lib.hid hown1; have HGR := Lib.hid hgr1; clear hown1 hgr1)))
          go_roundw
          case rel =>
            refine ⟨i + 1, by omega, by go_num, ?_, HGR.out.below (HBQ.out.trans (HBC.out.mono HBQ.out.size)) (Nat.le_trans HBQ.out.size HBC.out.size) HO.out.ge⟩
            rw [HTS.out]; exact HN.out
          case measure => simp [intOf]; omega
    · have hil : i = 37 := by omega
      subst hil
      go_wp2_with fail
      go_ret
      exact ⟨_, rfl, ⟨HO.out.mono HBX.out.size, fun z hz => in64_num (invL_nums a 37 z hz)⟩, HBX.out.trans (HBQ.out.mono HBX.out.size)⟩
end Go.Proofs.YtngdpoeondnchaaGreat

set_option maxRecDepth 100000
set_option linter.unusedVariables false
set_option linter.unusedSimpArgs false
namespace Go.Proofs.YtngdpoeondnchaaGreat
open Go.RowKit

set_option maxHeartbeats 400000 in
theorem s_l07Unit (w : World) : Calls Tryz.prog 121 #[] w fun e w' => ∃ x, e = .returned x ∧ OwnInts w' w.heap.size tI x unM ∧ Below w.heap.size w w' := by
  have hset : (List.replicate 38 (Value.int .i64 0)).set 0 (.int .i64 1) = ints (filT EX 1) := rfl
  go_enter Tryz.func121, Tryz.ntmps121
  go_wp2_with (at_make; refine wpList_mk rfl _ _ _ rfl _ _ _ T_int 38 _ rfl rfl rfl (by omega) _ ?_; intro w1 hown hb hs; obtain ⟨u0, hu0, hcg, hfg, hg2, hg1, hown', hgr⟩ := hown.storeAt (k := 0) (by simp) (.int .i64 1); rw [hset] at hown'; have HO := Lib.hid hown'; have HB := Lib.hid hb; clear hown hown' hgr hu0 hg1 hb)
  go_ret
  exact ⟨_, rfl, ⟨HO.out, filT_in (fun z hz => in64_num (EX_nums z hz)) 1⟩, HB.out.setCell (Nat.le_refl _) _⟩
theorem size7 (W : World) : (sizeOf (Tryz.prog.elem 60)).run Tryz.prog W = .ok 1 W := by kernel_rfl
theorem sl7 (W : World) (ad : Addr) (n c k : Nat) (K : Int) (hK : K = k) (h : k ≤ c) :
    (Instr.slice 60 (.slice (some ad) n c) none (some (.int .i64 K)) none).run Tryz.prog W = .ok (.slice (some ad) k c) W := by
  rw [sl_to Tryz.underlying60 size7 W (some ad) n c k K hK h]
  have : sliced (some ad) 0 k c 1 = .slice (some ad) k c := by
    unfold sliced
    have e : ad.add (0 * 1) = ad := by cases ad; simp [Addr.add]
    rw [Option.map_some, e]
    split <;> simp
  rw [this]
set_option maxHeartbeats 16000000 in
theorem s_l07Inverse (w : World) (v va : Value) (Bp : Nat) (a : List Int) (hC : C7 w Bp v) (h1 : Ints w va a) (l1 : a.length = 38) (hN1 : Nums a) (ha0 : a.getD 0 0 = 1) :
    Calls Tryz.prog 65 #[v, va] w fun e w' => ∃ x, e = .returned x ∧ OwnInts w' w.heap.size tI x (refL a 37) ∧ Below w.heap.size w w' := by
  obtain ⟨A, c, rfl, hat⟩ := hC.at_
  obtain ⟨adp, -, -, -, rfl, -⟩ := hat 0 (by omega)
  have HR := Lib.hid (show R7 w Bp (some adp) 38 from fun i hi => hat i (by omega))
  have hc38 : 38 ≤ c := by
    obtain ⟨us, h2, h3⟩ := hC
    have h4 := h3.1
    obtain ⟨A', c', e, h5, -⟩ := h2.cells.open_
    simp only [Value.slice.injEq] at e
    have h6 : us.length = 38 := by rw [h4]; rfl
    omega
  obtain ⟨Aa, ca, rfl, -, -, -⟩ := h1.open_
  rw [l1] at h1 ⊢
  have HA := Lib.hid h1
  have HLA := Lib.hid l1
  have HNA := Lib.hid hN1
  have HA0 := Lib.hid ha0
  have HC38 := Lib.hid hc38
  clear hC h1 l1 hN1 ha0 hat hc38
  go_enter Tryz.func65, Tryz.ntmps65
  go_wp2_with (go_at_call 121; go_loud (refine (s_l07Unit _).mono ?_; rintro e w1 ⟨x1, rfl, ho1, hb1⟩; rcases ho1.1.cases with ⟨-, he⟩ | ⟨g, cap, cur, he, hg1, hg2, -⟩; (· exact absurd (congrArg List.length he) (by decide)); have he : x1 = .slice (some ⟨g, 0, none⟩) 38 cap := he; subst he; have HO1 := Lib.hid ho1; have HB1 := Lib.hid hb1; clear ho1 hb1 hg1 hg2))
  go_loopw [6] (fun x wr => ∃ i n : Nat, n ≤ 38 ∧ x = .int .i64 n ∧ Hid (n = i + 1) ∧ OwnInts wr w.heap.size tI (.slice (some ⟨g, 0, none⟩) 38 cap) (refL a i) ∧ Below w.heap.size w wr) (fun x _ => 38 - (intOf x).toNat)
  case atStart => exact ⟨0, 1, by omega, rfl, rfl, HO1.out, HB1.out⟩
  case round =>
    obtain ⟨i, n, hn, rfl, HNI, ho, hb⟩ := hrel
    rename World => wq
    have HO := Lib.hid ho
    have HB := Lib.hid hb
    clear ho hb
    by_cases hlt : n < 38
    · have hsl := fun (W : World) => sl7 W adp 38 c (n + 1) ((n : Int) + 1) (by omega) (by have := HC38.out; omega)
      have hni := HNI.out
      have HCV := Lib.hid (s_l07Conv wq (some adp) _ _ c (n + 1) Bp a (refL a i) (fun k hk => (HR.out.below HB.out) k (by omega)) (by omega) (by omega) (HA.out.below HB.out) HLA.out HNA.out HA0.out HO.out.ints (refL_len a i) (refL_nums a i))
      have hzn : (cvZ a (refL a i))[n]? = some ((cvZ a (refL a i)).getD n 0) := by
        rw [List.getD_eq_getElem?_getD]
        rw [List.getElem?_eq_getElem (by rw [cvZ_len]; exact hlt)]
        rfl
      obtain ⟨z, hz⟩ : ∃ z, z = (cvZ a (refL a i)).getD n 0 := ⟨_, rfl⟩
      rw [← hz] at hzn
      have hzb : 0 ≤ z ∧ z ≤ 10006 := cvZ_nums (refL_nums a i) z (List.mem_of_getElem? hzn)
      have HLT := Lib.hid (show ((cvZ a (refL a i)).take (n + 1)).length = n + 1 from by rw [List.length_take, cvZ_len]; omega)
      have HZN := Lib.hid (show ((cvZ a (refL a i)).take (n + 1))[n]? = some z from by rw [List.getElem?_take_of_lt (by omega)]; exact hzn)
      have HSE := Lib.hid (show refL a (i + 1) = (refL a i).set n ((0 - z) % 10007) from by rw [refL, hz, hni])
      have hii : (n : Int) < 38 := by omega
      have hni1 : (n : Int) < (n : Int) + 1 := by omega
      clear hz hzn hni
      generalize (cvZ a (refL a i)).take (n + 1) = cz at *
      go_wp2_with (first
        | (go_at_call 61; go_loud (refine HCV.out.mono ?_; rintro e w5 ⟨r5, rfl, ho5, hb5⟩; obtain ⟨A5, c5, he5, -, -, g5⟩ := ho5.ints.open_; rw [HLT.out] at he5; subst he5; obtain ⟨ad5, z5, rfl, hz5, -, hc5⟩ := g5 n (by rw [HLT.out]; omega); rw [HZN.out] at hz5; injection hz5 with hz5; subst hz5; have HB5 := Lib.hid hb5; have HOX := Lib.hid (HO.out.below hb5); obtain ⟨u0, -, hcg, hfg, -, -, -, -⟩ := HOX.out.1.storeAt (k := n) (by rw [ints_len, refL_len]; exact hlt) (.int .i64 ((0 - z) % 10007)); clear ho5 hb5 g5))
        | (go_at_call 97; go_loud (refine (s_l01Sub 0 z _ (by omega) (by omega) (by omega) (by omega)).mono ?_; rintro e w6 ⟨rfl, rfl⟩)))
      go_roundw
      case rel =>
        have hst := HOX.out.1.storeAt (k := n) (by rw [ints_len, refL_len]; exact hlt) (.int .i64 ((-z) % 10007))
        obtain ⟨u0, -, -, -, hg5, hg6, hown', hgr⟩ := hst
        refine ⟨i + 1, n + 1, by omega, by go_num, by have := HNI.out; show n + 1 = i + 1 + 1; omega, ⟨?_, fun z hz => in64_num (refL_nums a (i + 1) z hz)⟩, ?_⟩
        · rw [HSE.out, ← ints_set, show (0 - z : Int) = -z from by omega]; exact hown'
        · exact (HB.out.trans (HB5.out.mono HB.out.size)).setCell hg6 _
      case measure => simp [intOf]; omega
    · have hnm : n = 38 := by omega
      subst hnm
      have hi37 : i = 37 := by have := HNI.out; omega
      subst hi37
      go_wp2_with fail
      go_ret
      exact ⟨_, rfl, HO.out, HB.out⟩
end Go.Proofs.YtngdpoeondnchaaGreat

set_option maxRecDepth 100000
set_option linter.unusedVariables false
set_option linter.unusedSimpArgs false
namespace Go.Proofs.YtngdpoeondnchaaGreat
open Go.RowKit

theorem scZ_step (a : List Int) (k : Int) {i : Nat} (h : i < 38) : ints ((scZ a k).take (i + 1)) = ints ((scZ a k).take i) ++ [.int .i64 (a.getD i 0 * pw k (szN i) % 10007)] := by
  rw [List.take_add_one, scZ_get a k h, ints, ints, List.map_append]; rfl
set_option maxHeartbeats 8000000 in
theorem i_scaleMap (w : World) (v va : Value) (B : Option Addr) (m d : Nat) (a : List Int) (k : Int) (ha : Rows w v (T6n.map up)) (h1 : Ints w va a) (l1 : a.length = 38) (hN1 : Nums a) (hk0 : 0 ≤ k) (hk1 : k ≤ 10006) :
    Calls Tryz.prog 82 #[.agg #[v, .slice B m d], va, .int .i64 k] w fun e w' => ∃ x, e = .returned x ∧ OwnInts w' w.heap.size tI x (scZ a k) ∧ Below w.heap.size w w' := by
  obtain ⟨A, c, he, -, -, -⟩ := ha.open_
  rw [List.length_map, T6n_len] at he
  subst he
  obtain ⟨Aa, ca, rfl, -, -, -⟩ := h1.open_
  rw [l1] at h1 ⊢
  obtain ⟨ada, rfl, -, -, -⟩ := map_cell h1 hN1 (k := 0) (by omega)
  obtain ⟨wb, hwb⟩ : ∃ wb, wb = w.alloc (.cells #[.slice A 37 c, .slice B m d] 57) := ⟨_, rfl⟩
  have hbb : Below w.heap.size w wb := by rw [hwb]; exact below1 w _
  have HBX := Lib.hid hbb
  have HF := Lib.hid (show Blk wb w.heap.size 57 #[.slice A 37 c, .slice B m d] from by rw [hwb]; exact Blk.new _ _ _)
  have HR := Lib.hid (ha.below hbb)
  have HA := Lib.hid (h1.below hbb)
  have HNA := Lib.hid hN1
  have HSZ := Lib.hid (scZ_len a k)
  have OL := Lib.hid (show Own (wb.alloc (.cells #[] tI)) wb.heap.size tI (.slice (some ⟨wb.heap.size, 0, none⟩) 0 0) (ints ((scZ a k).take 0)) from own_lit wb tI [] (by simp [maxLen]))
  clear ha h1 l1 hN1 hbb
  go_enter Tryz.func82, Tryz.ntmps82
  go_upto_region 1 with fail
  rw [← hwb]
  clear hwb
  go_wp2_with fail
  go_loopw [7, 13] (fun o x wr => ∃ i : Nat, i ≤ 38 ∧ x = .int .i64 i ∧ Own wr wb.heap.size tI o (ints ((scZ a k).take i)) ∧ Below wb.heap.size wb wr) (fun _ x _ => 38 - (intOf x).toNat)
  case atStart => exact ⟨0, Nat.zero_le _, rfl, OL.out, below1 wb _⟩
  case round =>
    obtain ⟨i, hi, rfl, ho, hb⟩ := hrel
    rename World => wq
    clear OL
    have hel : ((scZ a k).take i).length = i := by rw [List.length_take, HSZ.out]; omega
    have hol := ho.cells.open_
    rw [ints_len, hel] at hol
    obtain ⟨Ao, co, rfl, -, -⟩ := hol
    have HEL := Lib.hid hel
    have HO := Lib.hid ho
    have HBQ := Lib.hid hb
    have hq0 : wq.cell? ⟨w.heap.size, 0, none⟩ = some (.slice A 37 c) := (HF.out.below hb HF.out.lt).cell 0
    have hq1 : wq.cell? ⟨w.heap.size, 1, none⟩ = some (.slice B m d) := (HF.out.below hb HF.out.lt).cell 1
    clear ho hel
    by_cases hlt : i < 38
    · obtain ⟨_, he, hcx, hx0, hx1⟩ := map_cell (HA.out.below hb) HNA.out (k := i) hlt
      simp only [Option.some.injEq] at he
      subst he
      have HTS := Lib.hid (scZ_step a k hlt)
      have HIN := Lib.hid (im_nodes wq (.slice A 37 c) B m d i (HR.out.below hb) (by omega))
      have hsz := szN_le i
      have hpb := pw_bd k (szN i)
      have HPW := Lib.hid (fun W => show Calls Tryz.prog 100 #[.int .i64 k, .int .i64 (szN i : Nat)] W fun e w' => e = .returned (.int .i64 (pw k (szN i))) ∧ W = w' from by
        have h := i_pow k (szN i : Nat) W hk0 (by omega) (by omega) (by omega)
        rwa [Int.toNat_natCast] at h)
      obtain ⟨P, hP⟩ : ∃ P, P = pw k (szN i) := ⟨_, rfl⟩
      rw [← hP] at hpb HPW HTS
      generalize a.getD i 0 = y at *
      generalize szN i = s at *
      obtain ⟨p1, p2⟩ := mul_bd 10006 10006 hx0 hx1 hpb.1 hpb.2
      have hii : (i : Int) < 38 := by omega
      clear hb hP
      go_wp2_with (first
        | (go_at_call 120; go_loud (refine HIN.out.mono ?_; rintro e w2 ⟨rfl, hw2⟩; have HB2 := Lib.hid (show Below wb.heap.size wb w2 from by rw [hw2]; exact HBQ.out.trans ((below1 _ _).mono HBQ.out.size)); have HOX := Lib.hid (show Own w2 wb.heap.size tI (.slice Ao i co) (ints ((scZ a k).take i)) from HO.out.below (by rw [hw2]; exact below1 _ _)); clear hw2))
        | (go_at_call 100; refine (HPW.out _).mono ?_; rintro e w3 ⟨rfl, rfl⟩)
        | (go_at_call 103; refine (i_num (y * P) _ (by omega) (by omega)).mono ?_; rintro e w3 ⟨rfl, rfl⟩)
        | (at_builtin; go_loud (refine wpList_app1 T_int HOX.out (by rw [ints_len, HEL.out]; omega) HB2.out.size (by rfl) rfl (by rfl) (by rfl) (by rfl) ?_; intro v1 w6 hown1 hgr1; have HN := Lib.hid hown1; have HGR := Lib.hid hgr1; clear hown1 hgr1)))
      go_roundw
      case rel =>
        refine ⟨i + 1, by omega, by go_num, ?_, HGR.out.below HB2.out HB2.out.size HO.out.ge⟩
        rw [HTS.out]; exact HN.out
      case measure => simp [intOf]; omega
    · have hil : (scZ a k).take i = scZ a k := List.take_of_length_le (by rw [HSZ.out]; omega)
      have HFF := Lib.hid hil
      clear hil
      go_wp2_with fail
      go_ret
      refine ⟨_, rfl, ⟨?_, fun z hz => in64_num (scZ_nums a k z hz)⟩, HBX.out.trans (HBQ.out.mono HBX.out.size)⟩
      have h := HO.out
      rw [HFF.out] at h
      exact h.mono HBX.out.size
end Go.Proofs.YtngdpoeondnchaaGreat

