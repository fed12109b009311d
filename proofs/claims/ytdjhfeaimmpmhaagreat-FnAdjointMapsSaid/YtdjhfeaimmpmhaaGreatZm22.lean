/- Walks: factorial and actOn of the program. | DROP Walks: agreement of maps, of the program and of the reference; maps cut down. | Walks: plus of the program, l02Add of the reference. | Walk: scaleMap of the program. -/
import Derived.Test.YtdjhfeaimmpmhaaGreatZm19
import Derived.Test.YtdjhfeaimmpmhaaGreatZm11
import Derived.Test.YtdjhfeaimmpmhaaGreatZm21
import Derived.Test.YtdjhfeaimmpmhaaGreatZm3
import Derived.Test.YtdjhfeaimmpmhaaGreatZm6
import Derived.Test.YtdjhfeaimmpmhaaGreatZm17
import Derived.Deep.CutRange
import Derived.Deep.CutBlock
import Derived.Deep.DeepCutAuto
set_option maxRecDepth 100000
set_option linter.unusedVariables false
set_option linter.unusedSimpArgs false
namespace Go.Proofs.YtdjhfeaimmpmhaaGreat
open Go.RowKit

def facA : Nat → Nat
  | 0 => 1
  | 1 => 1
  | 2 => 2
  | 3 => 6
  | 4 => 24
  | 5 => 120
  | _ => 720
theorem fac_step {n : Nat} (h2 : 2 ≤ n) (h6 : n ≤ 6) : (facA (n - 1) : Int) * (n : Int) = (facA n : Nat) := by
  obtain rfl | rfl | rfl | rfl | rfl : n = 2 ∨ n = 3 ∨ n = 4 ∨ n = 5 ∨ n = 6 := by omega
  all_goals decide
theorem facN_le (n : Nat) : facA n ≤ 720 := by
  unfold facA
  split <;> omega
set_option maxHeartbeats 1000000 in
theorem i_factorial (w : World) (k : Nat) (h1 : 1 ≤ k) (h6 : k ≤ 6) : Calls Tryz.prog 190 #[.int .i64 (k : Nat)] w fun e w' => e = .returned (.int .i64 (facA k : Nat)) ∧ w = w' := by
  go_enter Tryz.func190, Tryz.ntmps190
  go_wp2_with fail
  go_loopw [3, 4] (fun x y wr => ∃ n f : Nat, y = .int .i64 (n : Nat) ∧ 2 ≤ n ∧ n ≤ k + 1 ∧ x = .int .i64 (f : Nat) ∧ Hid (f = facA (n - 1)) ∧ wr = w) (fun _ y _ => k + 1 - (intOf y).toNat)
  case atStart => exact ⟨2, 1, rfl, by omega, by omega, rfl, rfl, rfl⟩
  case round =>
    obtain ⟨n, f, rfl, h2, h7, rfl, HF, rfl⟩ := hrel
    have hf : f ≤ 720 := by rw [HF.out]; exact facN_le _
    by_cases hle : n ≤ k
    · have hll : (n : Int) ≤ (k : Int) := by omega
      have hs := fac_step h2 (by omega)
      rw [← HF.out] at hs
      have hg := facN_le n
      obtain ⟨g, hgg⟩ : ∃ g, g = facA n := ⟨_, rfl⟩
      rw [← hgg] at hs hg
      have hw : wrap64 ((f : Int) * (n : Int)) = (g : Int) := by rw [hs]; exact w64_in' _ (by omega)
      have hw2 : IntKind.i64.wrap ((f : Int) * (n : Int)) = (g : Int) := by rw [hs]; exact IntWalk.i64_in _ (by omega)
      have HG := Lib.hid hgg
      clear hs hgg
      go_wp2_with fail
      go_roundw
      case rel => exact ⟨n + 1, g, by go_num, by omega, by omega, rfl, by show g = facA (n + 1 - 1); rw [Nat.add_sub_cancel]; exact HG.out, by first | rfl | trivial⟩
      case measure => simp [intOf]; omega
    · have hnk : n = k + 1 := by omega
      subst hnk
      have hll : ¬ (((k + 1 : Nat) : Int) ≤ (k : Int)) := by omega
      have hll2 : ¬ ((k : Int) + 1 ≤ (k : Int)) := by omega
      go_wp2_with fail
      go_ret
      exact ⟨by rw [HF.out]; rfl, rfl⟩
/-- one cut's part in the action -/
def acJ (b x : List Int) (c : MC) : Int := match c.1.1 with
  | [k] => (c.2 : Int) * (b.getD k 0 * x.getD c.1.2 0 % 10007) % 10007
  | _ => 0
def acY (b x : List Int) : List Int := 0 :: (List.range 37).map fun n => sumF (acJ b x) (CTab.getD n []) % 10007
theorem acY_len (b x : List Int) : (acY b x).length = 38 := by simp [acY]
theorem acY_nums (b x : List Int) : Nums (acY b x) := by
  intro z hz
  rcases List.mem_cons.1 hz with rfl | hz
  · omega
  · obtain ⟨n, -, rfl⟩ := List.mem_map.1 hz
    omega
theorem acJ_bd (b x : List Int) (c : MC) : 0 ≤ acJ b x c ∧ acJ b x c ≤ 10006 := by
  unfold acJ
  split
  · omega
  · omega
theorem acY_get (b x : List Int) {i : Nat} (h : i < 37) : (acY b x)[i + 1]? = some (sumF (acJ b x) (CTab.getD i []) % 10007) := by
  unfold acY
  rw [List.getElem?_cons_succ, List.getElem?_map, List.getElem?_range h]
  rfl
set_option maxHeartbeats 16000000 in
theorem i_actOn (w : World) (vp va vb : Value) (Af : Option Addr) (cf Bp : Nat) (b x : List Int) (hP : FrC w Bp vp) (h1 : Ints w va b) (l1 : b.length = 38) (hN1 : Nums b) (h2 : Ints w vb x) (l2 : x.length = 38) (hN2 : Nums x) :
    Calls Tryz.prog 189 #[.agg #[.slice Af 37 cf, vp], va, vb] w fun e w' => ∃ r, e = .returned r ∧ OwnInts w' w.heap.size tI r (acY b x) ∧ Below w.heap.size w w' := by
  obtain ⟨AP, cP, rfl, -⟩ := hP.at_
  obtain ⟨Ab, cb, rfl, -, -, -⟩ := h1.open_
  obtain ⟨Ax, cx, rfl, -, -, -⟩ := h2.open_
  rw [l1] at h1 ⊢
  rw [l2] at h2 ⊢
  obtain ⟨adb, rfl, -, -, -⟩ := map_cell h1 hN1 (k := 0) (by omega)
  obtain ⟨adx, rfl, -, -, -⟩ := map_cell h2 hN2 (k := 0) (by omega)
  obtain ⟨wb, hwb⟩ : ∃ wb, wb = w.alloc (.cells #[.slice Af 37 cf, .slice AP 37 cP] tFo) := ⟨_, rfl⟩
  have hbb : Below w.heap.size w wb := by rw [hwb]; exact below1 w _
  have HBX := Lib.hid hbb
  have HF := Lib.hid (show Blk wb w.heap.size tFo #[.slice Af 37 cf, .slice AP 37 cP] from by rw [hwb]; exact Blk.new _ _ _)
  have HP := Lib.hid (hP.below hbb)
  have HB1 := Lib.hid (h1.below hbb)
  have HX1 := Lib.hid (h2.below hbb)
  have HNB := Lib.hid hN1
  have HNX := Lib.hid hN2
  have HSZ := Lib.hid (acY_len b x)
  have OL := Lib.hid (show Own (wb.alloc (.cells #[.int .i64 0] tI)) wb.heap.size tI (.slice (some ⟨wb.heap.size, 0, none⟩) 1 1) (ints ((acY b x).take 1)) from by rw [show ints ((acY b x).take 1) = [.int .i64 0] from rfl]; exact own_lit wb tI [.int .i64 0] (by simp [maxLen]))
  have hf1a : ∀ o, (wb.alloc o).cell? ⟨w.heap.size, 1, none⟩ = some (.slice AP 37 cP) := fun o => (HF.out.alloc o).cell 1
  clear hP h1 h2 l1 l2 hN1 hN2 hbb
  go_enter Tryz.func189, Tryz.ntmps189
  go_upto_region 1 with fail
  rw [← hwb]
  clear hwb
  go_wp2_with fail
  clear hf1a
  go_loopw [7, 17] (fun o y wr => ∃ i : Nat, i ≤ 37 ∧ y = .int .i64 i ∧ Own wr wb.heap.size tI o (ints ((acY b x).take (i + 1))) ∧ Below wb.heap.size wb wr) (fun _ y _ => 37 - (intOf y).toNat)
  case atStart => exact ⟨0, Nat.zero_le _, rfl, OL.out, below1 wb _⟩
  case round =>
    obtain ⟨i, hi, rfl, ho, hb⟩ := hrel
    rename World => wq
    clear OL
    have hel : ((acY b x).take (i + 1)).length = i + 1 := by rw [List.length_take, HSZ.out]; omega
    have hol := ho.cells.open_
    rw [ints_len, hel] at hol
    obtain ⟨Ao, co, rfl, -, -⟩ := hol
    have HEL := Lib.hid hel
    have HO := Lib.hid ho
    have HBQ := Lib.hid hb
    obtain ⟨AP', cP', he, hat⟩ := (HP.out.below hb).at_
    simp only [Value.slice.injEq, true_and] at he
    obtain ⟨rfl, rfl⟩ := he
    clear ho hel
    by_cases hlt : i < 37
    · obtain ⟨adp, css, A2, c2, rfl, ho2, hm2, hcp⟩ := hat i hlt
      have hpl := CTab_ln hlt
      obtain ⟨L, hL⟩ : ∃ L, L = CTab.getD i [] := ⟨_, rfl⟩
      rw [← hL] at hm2 hpl
      have HLE := Lib.hid hL
      have HPL := Lib.hid hpl
      have hcl := hm2.1
      have HCL := Lib.hid hcl
      have hc5 : css.length ≤ 100 := by rw [hcl]; exact hpl
      have HO2 := Lib.hid ho2
      have HM2 := Lib.hid hm2
      have HTS := Lib.hid (show ints ((acY b x).take (i + 1 + 1)) = ints ((acY b x).take (i + 1)) ++ [.int .i64 (sumF (acJ b x) L % 10007)] from by
        have h1 : (acY b x)[i + 1]? = some (sumF (acJ b x) L % 10007) := by rw [hL]; exact acY_get b x hlt
        rw [List.take_add_one, h1, ints, ints, List.map_append]; rfl)
      have hii : (i : Int) < 37 := by omega
      clear hat hb hpl hL hcl ho2 hm2
      go_wp2_with fail
      go_loopw [10, 23] (fun s y wr => ∃ j : Nat, j ≤ css.length ∧ y = .int .i64 j ∧ s = .int .i64 (sumF (acJ b x) (L.take j)) ∧ Below wq.heap.size wq wr) (fun _ y _ => css.length - (intOf y).toNat)
      case atStart => exact ⟨0, Nat.zero_le _, rfl, rfl, Below.refl _ _⟩
      case round =>
        obtain ⟨j, hj, rfl, rfl, hb⟩ := hrel
        rename World => wc
        have HBC := Lib.hid hb
        have hsb : 0 ≤ sumF (acJ b x) (L.take j) ∧ sumF (acJ b x) (L.take j) ≤ 100 * 10006 := by
          have h := sumF_bd (acJ b x) 10006 (L.take j) fun c _ => acJ_bd b x c
          have h2 : (L.take j).length ≤ 100 := Nat.le_trans (List.length_take_le _ _) (by omega)
          have h3 := HPL.out
          rw [List.length_take] at h
          omega
        by_cases hlj : j < css.length
        · obtain ⟨⟨⟨cr, sk⟩, n⟩, hx⟩ : ∃ c, L[j]? = some c := ⟨_, List.getElem?_eq_getElem (by rw [← HCL.out]; exact hlj)⟩
          have hxm := List.mem_of_getElem? hx
          obtain ⟨hcr, hsk, hn⟩ := CTab_at hlt (x := ((cr, sk), n)) (by rw [← HLE.out]; exact hxm)
          have hn : n ≤ 100 := hn
          have hcr : ∀ p ∈ cr, p < 38 := hcr
          have hsk : sk < 38 := hsk
          obtain ⟨go, As, cs, rfl, hs1, hq0, hq1, hq2⟩ := part_at (HO2.out.below hb) (HM2.out.below hb) hx
          have hs1 : OwnInts wc Bp tN (.slice As cr.length cs) (up cr) := hs1
          have hq0 : wc.cell? ⟨go, j * 3, none⟩ = some (.int .i64 n) := hq0
          have hq1 : wc.cell? ⟨go, j * 3 + 1, none⟩ = some (.slice As cr.length cs) := hq1
          have hq2 : wc.cell? ⟨go, j * 3 + 2, none⟩ = some (.int .i64 sk) := hq2
          have HTJ := Lib.hid (show sumF (acJ b x) (L.take (j + 1)) = sumF (acJ b x) (L.take j) + acJ b x ((cr, sk), n) from by rw [sumF_take _ hx])
          have HCR := Lib.hid hcr
          generalize sumF (acJ b x) (L.take j) = sm at *
          have hjj : (j : Int) < (css.length : Int) := by omega
          clear hxm hcr hx hb
          go_upto_region 9 with fail
          obtain ⟨W, hW⟩ : ∃ W, W = wc.alloc (.cells #[.int .i64 n, .slice As cr.length cs, .int .i64 sk] tMc) := ⟨_, rfl⟩
          have hbw : Below wc.heap.size wc W := by rw [hW]; exact below1 wc _
          have HBW := Lib.hid hbw
          have HKP := Lib.hid (show Blk W wc.heap.size tMc #[.int .i64 n, .slice As cr.length cs, .int .i64 sk] from by rw [hW]; exact Blk.new _ _ _)
          have HSW := Lib.hid (hs1.below hbw).ints
          have HBB := Lib.hid ((HB1.out.below HBQ.out).below (HBC.out.trans (hbw.mono HBC.out.size)))
          have HXB := Lib.hid ((HX1.out.below HBQ.out).below (HBC.out.trans (hbw.mono HBC.out.size)))
          rw [← hW]
          clear hW hs1 hbw hq0 hq1 hq2
          have kp1 : W.cell? ⟨wc.heap.size, 1, none⟩ = some (.slice As cr.length cs) := HKP.out.cell 1
          by_cases hc1 : cr.length = 1
          · have hd : ((cr.length : Int) == 1) = true := by simp [hc1]
            obtain ⟨p, rfl⟩ := List.length_eq_one_iff.1 hc1
            have hp38 : p < 38 := HCR.out p (by simp)
            obtain ⟨As', c', he, -, -, g2⟩ := HSW.out.open_
            obtain ⟨a2, z, hA2, hz, -, hcz⟩ := g2 0 (by simp [up])
            have hze : z = (p : Int) := by
              have h5 : (up [p])[0]? = some (p : Int) := rfl
              rw [h5] at hz
              injection hz with hz
              exact hz.symm
            subst hze
            simp only [Value.slice.injEq] at he
            obtain ⟨rfl, -, rfl⟩ := he
            subst hA2
            have hcz : W.cell? a2 = some (.int .i64 (p : Nat)) := by simpa [Addr.add] using hcz
            obtain ⟨_, he, hcb, hb0, hb1⟩ := map_cell HBB.out HNB.out (k := p) hp38
            simp only [Option.some.injEq] at he
            subst he
            obtain ⟨_, he, hcx, hx0, hx1⟩ := map_cell HXB.out HNX.out (k := sk) hsk
            simp only [Option.some.injEq] at he
            subst he
            have HTJ := Lib.hid (show sumF (acJ b x) (L.take (j + 1)) = sm + (n : Int) * (b.getD p 0 * x.getD sk 0 % 10007) % 10007 from HTJ.out)
            generalize b.getD p 0 = yb at *
            generalize x.getD sk 0 = yx at *
            obtain ⟨S, hS1, hS2⟩ : ∃ S : World → Prop, (∀ Wx, S Wx → Below W.heap.size W Wx) ∧ (∀ Wx, Below W.heap.size W Wx → S Wx) := ⟨fun Wx => Below W.heap.size W Wx, fun _ h => h, fun _ h => h⟩
            have HSE := Lib.hid (show ∀ x : GW S, Below W.heap.size W x.w from fun x => hS1 _ x.h)
            have HSI := Lib.hid (show S W.drew from hS2 _ (Below.refl W.heap.size W).drew)
            have y0 : ∀ x : GW S, x.w.cell? ⟨wc.heap.size, 0, none⟩ = some (.int .i64 n) := fun x => keepCell (HSE.out x) (HKP.out.cell 0)
            have y1 : ∀ x : GW S, x.w.cell? ⟨wc.heap.size, 1, none⟩ = some (.slice (some a2) [p].length cs) := fun x => keepCell (HSE.out x) (HKP.out.cell 1)
            have y2 : ∀ x : GW S, x.w.cell? ⟨wc.heap.size, 2, none⟩ = some (.int .i64 sk) := fun x => keepCell (HSE.out x) (HKP.out.cell 2)
            have y3 : ∀ x : GW S, x.w.cell? a2 = some (.int .i64 (p : Nat)) := fun x => keepCell (HSE.out x) hcz
            have y4 : ∀ x : GW S, x.w.cell? (adb.add p) = some (.int .i64 yb) := fun x => keepCell (HSE.out x) hcb
            have y5 : ∀ x : GW S, x.w.cell? (adx.add sk) = some (.int .i64 yx) := fun x => keepCell (HSE.out x) hcx
            obtain ⟨p1, p2⟩ := mul_bd 10006 10006 hb0 hb1 hx0 hx1
            have HN1 := Lib.hid (show ∀ x : GW S, Calls Tryz.prog 60 #[.int .i64 (yb * yx)] x.w (fun e w' => e = .returned (.int .i64 (yb * yx % 10007)) ∧ S w') from fun x => (i_num (yb * yx) x.w (by omega) (by omega)).mono (by rintro e w7 ⟨rfl, rfl⟩; exact ⟨rfl, hS2 _ (HSE.out x)⟩))
            have hm1 : 0 ≤ yb * yx % 10007 ∧ yb * yx % 10007 ≤ 10006 := by omega
            have hwr1 : IntKind.i64.wrap (yb * yx) = yb * yx := IntWalk.i64_in _ (by omega)
            generalize yb * yx % 10007 = m1 at *
            obtain ⟨q1, q2⟩ := mul_bd 100 10006 (show (0 : Int) ≤ (n : Int) by omega) (show (n : Int) ≤ 100 by omega) hm1.1 hm1.2
            have HN2 := Lib.hid (show ∀ x : GW S, Calls Tryz.prog 60 #[.int .i64 ((n : Int) * m1)] x.w (fun e w' => e = .returned (.int .i64 ((n : Int) * m1 % 10007)) ∧ S w') from fun x => (i_num ((n : Int) * m1) x.w (by omega) (by omega)).mono (by rintro e w7 ⟨rfl, rfl⟩; exact ⟨rfl, hS2 _ (HSE.out x)⟩))
            have hwr2 : IntKind.i64.wrap ((n : Int) * m1) = (n : Int) * m1 := IntWalk.i64_in _ (by omega)
            have hm2 : 0 ≤ (n : Int) * m1 % 10007 ∧ (n : Int) * m1 % 10007 ≤ 10006 := by omega
            generalize hmm2 : (n : Int) * m1 % 10007 = m2 at *
            have HMM := Lib.hid hmm2
            have hpp : (p : Int) < 38 := by omega
            have hss : (sk : Int) < 38 := by omega
            clear hmm2 hS1 hS2 hcz hcb hcx g2 p1 p2 q1 q2 hb0 hb1 hx0 hx1
            go_upto_region 10 with fail
            refine wp_region_grow S (by kernel_rfl) (by kernel_rfl) HSI.out (fun hne => ?_)
            repeat (go_big_quiet_step ((go_at_call 60; first | with_reducible exact grow_call (HN1.out _) | with_reducible exact grow_call (HN2.out _))))
            refine wpQuiet_nil ?_
            rintro _ ⟨xq, rfl⟩
            clear y0 y1 y2 y3 y4 y5
            go_wp2_with fail
            go_roundw
            case rel => exact ⟨j + 1, by omega, by go_num, by rw [HTJ.out], HBC.out.trans ((HBW.out.trans ((HSE.out xq).mono HBW.out.size)).mono HBC.out.size)⟩
            case measure => simp [intOf]; omega
          · have hd : ((cr.length : Int) == 1) = false := by simp; omega
            have HTJ := Lib.hid (show sumF (acJ b x) (L.take (j + 1)) = sm from by
              rw [HTJ.out]
              match cr, hc1 with
              | [], _ => exact Int.add_zero _
              | [_], h => exact absurd rfl h
              | _ :: _ :: _, _ => exact Int.add_zero _)
            clear hc1
            go_wp2_with fail
            go_roundw
            case rel => exact ⟨j + 1, by omega, by go_num, by rw [HTJ.out], HBC.out.trans (HBW.out.mono HBC.out.size)⟩
            case measure => simp [intOf]; omega
        · have hjl : L.take j = L := List.take_of_length_le (by rw [← HCL.out]; omega)
          rw [hjl] at hsb ⊢
          have HOX := Lib.hid (HO.out.below HBC.out)
          clear hjl hb
          generalize sumF (acJ b x) L = sm at *
          go_wp2_with (first
            | (go_at_call 60; refine (i_num sm _ (by omega) (by omega)).mono ?_; rintro e w' ⟨rfl, rfl⟩)
            | (at_builtin; go_loud (refine wpList_app1 T_int HOX.out (by rw [ints_len, HEL.out]; omega) (Nat.le_trans HBQ.out.size HBC.out.size) (by rfl) rfl (by rfl) (by rfl) (by rfl) ?_; intro v1 w6 hown1 hgr1; have HN := Lib.hid hown1; have HGR := Lib.hid hgr1; clear hown1 hgr1)))
          go_roundw
          case rel =>
            refine ⟨i + 1, by omega, by go_num, ?_, HGR.out.below (HBQ.out.trans (HBC.out.mono HBQ.out.size)) (Nat.le_trans HBQ.out.size HBC.out.size) HO.out.ge⟩
            rw [HTS.out]; exact HN.out
          case measure => simp [intOf]; omega
    · have hil : i + 1 = (acY b x).length := by rw [HSZ.out]; omega
      have HFF := Lib.hid (show (acY b x).take (i + 1) = acY b x from by rw [hil]; exact List.take_length)
      clear hil
      go_wp2_with fail
      go_ret
      refine ⟨_, rfl, ⟨?_, fun z hz => in64_num (acY_nums b x z hz)⟩, HBX.out.trans (HBQ.out.mono HBX.out.size)⟩
      have h := HO.out
      rw [HFF.out] at h
      exact h.mono HBX.out.size
end Go.Proofs.YtdjhfeaimmpmhaaGreat

set_option maxRecDepth 100000
set_option linter.unusedVariables false
set_option linter.unusedSimpArgs false
namespace Go.Proofs.YtdjhfeaimmpmhaaGreat
open Go.RowKit

set_option maxHeartbeats 4000000 in
theorem i_keep (w : World) (v va : Value) (B : Option Addr) (m d g : Nat) (c0 : Value) (p : Nat → Bool) (a : List Int) (ha : Rows w v (T6n.map up)) (h1 : Ints w va a) (l1 : a.length = 38)
    (hcf : ∀ (args : Array Value) (w : World), Sem.run Tryz.prog (callFunc g args) w = .ok (.enter g args) w)
    (hp : ∀ (W : World) (n : Nat), Below w.heap.size w W → Calls Tryz.prog g #[.int .i64 n, c0] W fun e w' => e = .returned (.bool (p n)) ∧ W = w') :
    Calls Tryz.prog 96 #[.agg #[v, .slice B m d], va, .func (.func g) #[] #[c0]] w fun e w' => ∃ x, e = .returned x ∧ OwnInts w' w.heap.size tI x (kpZ p a) ∧ Below w.heap.size w w' := by
  obtain ⟨A, c, he, -, -, -⟩ := ha.open_
  rw [List.length_map, T6n_len] at he
  subst he
  have hbel : Below w.heap.size w (w.alloc (.cells #[.slice A 37 c, .slice B m d] 71)) := below1 w _
  have HRA := Lib.hid (ha.below hbel)
  have HIA := Lib.hid (h1.below hbel)
  obtain ⟨A1, c1, rfl, -, -, -⟩ := h1.open_
  rw [l1] at HIA ⊢
  have HLA := Lib.hid l1
  have HP := Lib.hid hp
  have HBX := Lib.hid (Blk.new w #[.slice A 37 c, .slice B m d] 71)
  have HBE := Lib.hid hbel
  clear ha hbel h1 l1 hp
  go_enter Tryz.func96, Tryz.ntmps96
  go_wp2_with (at_make; refine wpList_mk rfl _ _ _ rfl _ _ _ T_int 38 _ rfl rfl rfl (by omega) _ ?_; intro w1 hown hb hs1; rw [size_alloc'] at hown hb; have HOWN := Lib.hid hown; have HB1 := Lib.hid hb; clear hown hb)
  have HO0 := Lib.hid (show OwnInts w1 (w.heap.size + 1) tI (.slice (some ⟨(w.heap.size + 1), 0, none⟩) 38 38) (kpT p a 0) from by
    rw [kpT_zero]
    exact ⟨by simpa [ints] using HOWN.out, fun z hz => by have := List.eq_of_mem_replicate hz; subst this; unfold In64; omega⟩)
  clear HOWN hs1
  go_loopw [15] (fun x wr => ∃ i : Nat, i ≤ 38 ∧ x = .int .i64 i ∧ OwnInts wr (w.heap.size + 1) tI (.slice (some ⟨(w.heap.size + 1), 0, none⟩) 38 38) (kpT p a i) ∧ Below (w.heap.size + 1) (w.alloc (.cells #[.slice A 37 c, .slice B m d] 71)) wr) (fun x _ => 38 - (intOf x).toNat)
  case atStart => exact ⟨0, Nat.zero_le _, rfl, HO0.out, HB1.out⟩
  case round =>
    obtain ⟨i, hi, rfl, ho, hb⟩ := hrel
    have HO := Lib.hid ho
    have HB := Lib.hid hb
    clear ho hb
    by_cases hlt : i < 38
    · have hbq : Below (w.alloc (.cells #[.slice A 37 c, .slice B m d] 71)).heap.size (w.alloc (.cells #[.slice A 37 c, .slice B m d] 71)) wr := by rw [size_alloc']; exact HB.out
      obtain ⟨A1', c1', he, -, -, g1⟩ := (HIA.out.below hbq).open_
      rw [HLA.out] at he g1
      simp only [Value.slice.injEq, true_and] at he
      obtain ⟨rfl, rfl⟩ := he
      obtain ⟨a1, x, rfl, hx, hx64, hcx⟩ := g1 i hlt
      have hgx := ints_getD hx
      have hii : (i : Int) < 38 := by omega
      have HRW := Lib.hid (HRA.out.below hbq)
      have hbk := HBX.out.below HB.out (Nat.lt_succ_self _)
      have hf0 : wr.cell? ⟨w.heap.size, 0, none⟩ = some (.slice A 37 c) := hbk.cell 0
      have hf1 : wr.cell? ⟨w.heap.size, 1, none⟩ = some (.slice B m d) := hbk.cell 1
      have HX := Lib.hid hx64
      have HKS := Lib.hid (fun h : p (szN i) = true => show (kpT p a i).set i x = kpT p a (i + 1) from by rw [← hgx]; exact (kpT_take h).symm)
      have HKN := Lib.hid (fun h : p (szN i) = false => show kpT p a (i + 1) = kpT p a i from kpT_skip h)
      clear g1 hx hgx hx64 hbk hbq
      go_wp2_with (go_at_call 143; go_loud (refine (im_fnodes _ _ B m d i HRW.out (by omega)).mono ?_; rintro e w2 ⟨rfl, hw2⟩; have hb2 : Below wr.heap.size wr w2 := (by rw [hw2]; exact below1 _ _); have HB2 := Lib.hid hb2; clear hw2))
      have HPP := Lib.hid (HP.out w2 (szN i) ((HBE.out.trans (HB.out.mono (Nat.le_succ _))).trans (HB2.out.mono (by have h2 := HB.out.size; rw [size_alloc'] at h2; omega))))
      obtain ⟨u0, -, hcg, hfg, -, -, hown', hgr⟩ := (HO.out.1.below HB2.out).storeAt (k := i) (by rw [ints_len, kpT_len]; exact hlt) (.int .i64 x)
      rw [ints_set] at hown'
      have HST := Lib.hid hown'
      have hge := HO.out.1.ge (w.heap.size + 1) rfl
      clear hown' hgr
      cases hpi : p (szN i) with
      | true =>
        rw [hpi] at HPP
        have HKK := Lib.hid (HKS.out hpi)
        clear hpi
        refine HPP.out.mono ?_
        rintro e w3 ⟨rfl, rfl⟩
        go_wp2_with fail
        go_roundw
        case rel =>
          refine ⟨i + 1, by omega, by go_num, ⟨?_, ?_⟩, (HB.out.trans (HB2.out.mono (by have h2 := HB.out.size; simpa using h2))).setCell hge _⟩
          · rw [← HKK.out]; exact HST.out
          · intro z hz
            rw [← HKK.out] at hz
            rcases List.mem_or_eq_of_mem_set hz with hz | hz
            · exact HO.out.2 z hz
            · rw [hz]; exact HX.out
        case measure => simp [intOf]; omega
      | false =>
        rw [hpi] at HPP
        have HKK := Lib.hid (HKN.out hpi)
        clear hpi
        refine HPP.out.mono ?_
        rintro e w3 ⟨rfl, rfl⟩
        go_wp2_with fail
        go_roundw
        case rel =>
          refine ⟨i + 1, by omega, by go_num, ?_, HB.out.trans (HB2.out.mono (by have h2 := HB.out.size; simpa using h2))⟩
          rw [HKK.out]; exact HO.out.below HB2.out
        case measure => simp [intOf]; omega
    · have hil : i = 38 := by omega
      have HF := Lib.hid (show kpT p a i = kpZ p a from by rw [hil]; exact kpT_full p a)
      clear hil
      go_wp2_with fail
      go_ret
      refine ⟨_, rfl, ?_, HBE.out.trans (HB.out.mono (Nat.le_succ _))⟩
      have h := HO.out
      rw [HF.out] at h
      exact h.mono (Nat.le_succ _)
end Go.Proofs.YtdjhfeaimmpmhaaGreat

set_option linter.unusedVariables false
set_option linter.unusedSimpArgs false
namespace Go.Proofs.YtdjhfeaimmpmhaaGreat
open Go.RowKit

/-- the first j places of a + k b -/
def addTo (k : Int) (a b : List Int) (j : Nat) : List Int := (List.range j).map fun i => (a.getD i 0 + k * b.getD i 0) % 10007
def addk (k : Int) (a b : List Int) : List Int := addTo k a b a.length
theorem addTo_len (k : Int) (a b : List Int) (j : Nat) : (addTo k a b j).length = j := by simp [addTo]
theorem addTo_succ {k : Int} {a b : List Int} {j : Nat} {x y : Int} (hx : a[j]? = some x) (hy : b[j]? = some y) : addTo k a b (j + 1) = addTo k a b j ++ [(x + k * y) % 10007] := by
  simp [addTo, List.range_succ, List.getD, hx, hy]
theorem addTo_nums (k : Int) (a b : List Int) (j : Nat) : Nums (addTo k a b j) := by
  intro z hz
  obtain ⟨i, _, rfl⟩ := List.mem_map.1 hz
  omega
theorem nums_in {zs : List Int} (h : Nums zs) : ∀ z ∈ zs, In64 z := by
  intro z hz
  have := h z hz
  unfold In64
  omega

set_option maxRecDepth 100000 in
set_option maxHeartbeats 1000000 in
theorem i_plus (w : World) (v v' : Value) (a b : List Int) (k : Int) (ha : Ints w v a) (hb : Ints w v' b) (hA : Nums a) (hB : Nums b) (hl : a.length ≤ b.length) (hn : a.length ≤ 4294967296) (h0 : -4000000000000000000 ≤ k) (h1 : k ≤ 4000000000000000000) :
    Calls Tryz.prog 97 #[v, v', .int .i64 k] w fun e w' => ∃ r, e = .returned r ∧ OwnInts w' w.heap.size tI r (addk (k % 10007) a b) ∧ Below w.heap.size w w' := by
  obtain ⟨A, c, rfl, l1, l2, h3⟩ := ha.open_
  obtain ⟨A', c', rfl, l1', l2', h3'⟩ := hb.open_
  have H3 := Lib.hid h3
  have G3 := Lib.hid h3'
  have HN := Lib.hid hA
  have HM := Lib.hid hB
  clear ha hb h3 h3' hA hB
  have OL := Lib.hid (own_lit w tI [] (by simp [maxLen]))
  go_enter Tryz.func97, Tryz.ntmps97
  go_wp2_with fail
  go_loopw [7, 13] (fun o i wr => ∃ j : Nat, j ≤ a.length ∧ i = .int .i64 j ∧ Own wr w.heap.size tI o (ints (addTo (k % 10007) a b j)) ∧ Below w.heap.size w wr) (fun _ i _ => a.length - (intOf i).toNat)
  case atStart => exact ⟨0, Nat.zero_le _, rfl, by simpa [addTo, ints] using OL.out, (Below.refl _ _).alloc (Nat.le_refl _) _⟩
  case round =>
    obtain ⟨j, hj, rfl, hown, hb⟩ := hrel
    clear OL
    have HO := Lib.hid hown
    have HB := Lib.hid hb
    clear hown hb
    by_cases hlt : j < a.length
    · obtain ⟨ad, x, rfl, hx, -, hcx⟩ := H3.out j hlt
      obtain ⟨ad', y, rfl, hy, -, hcy⟩ := G3.out j (by omega)
      have hc : wr.cell? (ad.add j) = some (.int .i64 x) := by
        rw [HB.out.cell (by rw [block_add]; have := World.block_lt_of_cell? w _ hcx; rwa [block_add] at this)]; exact hcx
      have hc' : wr.cell? (ad'.add j) = some (.int .i64 y) := by
        rw [HB.out.cell (by rw [block_add]; have := World.block_lt_of_cell? w _ hcy; rwa [block_add] at this)]; exact hcy
      have hxn := HN.out x (List.mem_of_getElem? hx)
      have hyn := HM.out y (List.mem_of_getElem? hy)
      have HS := Lib.hid (addTo_succ (k := k % 10007) hx hy)
      have hm0 : 0 ≤ k % 10007 ∧ k % 10007 ≤ 10006 := by omega
      obtain ⟨p1, p2⟩ := mul_bd 10006 10006 hm0.1 hm0.2 hyn.1 hyn.2
      have hjb : (j : Int) < (b.length : Int) := by omega
      have hjb' : j < b.length := by omega
      clear hx hy hcx hcy
      go_wp2_with fail
      have wA : IntKind.i64.wrap (k % 10007 * y) = k % 10007 * y := IntWalk.i64_in _ (by omega)
      have wB : IntKind.i64.wrap (x + k % 10007 * y) = x + k % 10007 * y := IntWalk.i64_in _ (by omega)
      go_region_law (first | (refine step_app1 T_int (B := w.heap.size) (W := wr.drew) (by exact HO.out) (by rw [ints_len, addTo_len]; omega) (by exact HB.out.size) (by rfl) rfl (by rfl) (by rfl) (by rfl) ?_; intro v1 w1 hown1 hgr1) | (go_simp; go_at_call 60; refine (i_num _ _ (by omega) (by omega)).mono ?_; rintro e w' ⟨rfl, rfl⟩))
      all_goals
        go_wp2_with fail
        go_roundw
        case rel =>
          refine ⟨j + 1, by omega, by go_num, ?_, hgr1.below HB.out.drew HB.out.size HO.out.ge⟩
          rw [HS.out]
          simpa [ints] using hown1
        case measure => simp [intOf]; omega
    · have : j = a.length := by omega
      subst this
      go_wp2_with fail
      go_ret
      exact ⟨_, rfl, ⟨HO.out, nums_in (addTo_nums _ _ _ _)⟩, HB.out⟩
end Go.Proofs.YtdjhfeaimmpmhaaGreat

set_option maxRecDepth 100000
set_option linter.unusedVariables false
set_option linter.unusedSimpArgs false
namespace Go.Proofs.YtdjhfeaimmpmhaaGreat
open Go.RowKit

theorem scZ_step (a : List Int) (k : Int) {i : Nat} (h : i < 38) : ints ((scZ a k).take (i + 1)) = ints ((scZ a k).take i) ++ [.int .i64 (a.getD i 0 * pw k (szN i) % 10007)] := by
  rw [List.take_add_one, scZ_get a k h, ints, ints, List.map_append]; rfl
set_option maxHeartbeats 8000000 in
theorem i_scaleMap (w : World) (v va : Value) (B : Option Addr) (m d : Nat) (a : List Int) (k : Int) (ha : Rows w v (T6n.map up)) (h1 : Ints w va a) (l1 : a.length = 38) (hN1 : Nums a) (hk0 : 0 ≤ k) (hk1 : k ≤ 10006) :
    Calls Tryz.prog 81 #[.agg #[v, .slice B m d], va, .int .i64 k] w fun e w' => ∃ x, e = .returned x ∧ OwnInts w' w.heap.size tI x (scZ a k) ∧ Below w.heap.size w w' := by
  obtain ⟨A, c, he, -, -, -⟩ := ha.open_
  rw [List.length_map, T6n_len] at he
  subst he
  obtain ⟨Aa, ca, rfl, -, -, -⟩ := h1.open_
  rw [l1] at h1 ⊢
  obtain ⟨ada, rfl, -, -, -⟩ := map_cell h1 hN1 (k := 0) (by omega)
  obtain ⟨wb, hwb⟩ : ∃ wb, wb = w.alloc (.cells #[.slice A 37 c, .slice B m d] 71) := ⟨_, rfl⟩
  have hbb : Below w.heap.size w wb := by rw [hwb]; exact below1 w _
  have HBX := Lib.hid hbb
  have HF := Lib.hid (show Blk wb w.heap.size 71 #[.slice A 37 c, .slice B m d] from by rw [hwb]; exact Blk.new _ _ _)
  have HR := Lib.hid (ha.below hbb)
  have HA := Lib.hid (h1.below hbb)
  have HNA := Lib.hid hN1
  have HSZ := Lib.hid (scZ_len a k)
  have OL := Lib.hid (show Own (wb.alloc (.cells #[] tI)) wb.heap.size tI (.slice (some ⟨wb.heap.size, 0, none⟩) 0 0) (ints ((scZ a k).take 0)) from own_lit wb tI [] (by simp [maxLen]))
  clear ha h1 l1 hN1 hbb
  go_enter Tryz.func81, Tryz.ntmps81
  go_upto_region 1 with fail
  rw [← hwb]
  clear hwb
  go_wp2_with fail
  go_loopw [7, 13] (fun o x wr => ∃ i : Nat, i ≤ 38 ∧ x = .int .i64 i ∧ Own wr wb.heap.size tI o (ints ((scZ a k).take i)) ∧ Below wb.heap.size wb wr) (fun _ x _ => 38 - (intOf x).toNat)
  case atStart => exact ⟨0, Nat.zero_le _, rfl, OL.out, below1 wb _⟩
  case round =>
    obtain ⟨i, hi, rfl, ho, hb⟩ := hrel
    rename World => wq
    clear OL
    have hel : ((scZ a k).take i).length = i := by rw [List.length_take, HSZ.out]; omega
    have hol := ho.cells.open_
    rw [ints_len, hel] at hol
    obtain ⟨Ao, co, rfl, -, -⟩ := hol
    have HEL := Lib.hid hel
    have HO := Lib.hid ho
    have HBQ := Lib.hid hb
    have hq0 : wq.cell? ⟨w.heap.size, 0, none⟩ = some (.slice A 37 c) := (HF.out.below hb HF.out.lt).cell 0
    have hq1 : wq.cell? ⟨w.heap.size, 1, none⟩ = some (.slice B m d) := (HF.out.below hb HF.out.lt).cell 1
    clear ho hel
    by_cases hlt : i < 38
    · obtain ⟨_, he, hcx, hx0, hx1⟩ := map_cell (HA.out.below hb) HNA.out (k := i) hlt
      simp only [Option.some.injEq] at he
      subst he
      have HTS := Lib.hid (scZ_step a k hlt)
      have HIN := Lib.hid (im_fnodes wq (.slice A 37 c) B m d i (HR.out.below hb) (by omega))
      have hsz := szN_le i
      have hpb := pw_bd k (szN i)
      have HPW := Lib.hid (fun W => show Calls Tryz.prog 141 #[.int .i64 k, .int .i64 (szN i : Nat)] W fun e w' => e = .returned (.int .i64 (pw k (szN i))) ∧ W = w' from by
        have h := i_pow k (szN i : Nat) W hk0 (by omega) (by omega) (by omega)
        rwa [Int.toNat_natCast] at h)
      obtain ⟨P, hP⟩ : ∃ P, P = pw k (szN i) := ⟨_, rfl⟩
      rw [← hP] at hpb HPW HTS
      generalize a.getD i 0 = y at *
      generalize szN i = s at *
      obtain ⟨p1, p2⟩ := mul_bd 10006 10006 hx0 hx1 hpb.1 hpb.2
      have hii : (i : Int) < 38 := by omega
      clear hb hP
      go_wp2_with (first
        | (go_at_call 143; go_loud (refine HIN.out.mono ?_; rintro e w2 ⟨rfl, hw2⟩; have HB2 := Lib.hid (show Below wb.heap.size wb w2 from by rw [hw2]; exact HBQ.out.trans ((below1 _ _).mono HBQ.out.size)); have HOX := Lib.hid (show Own w2 wb.heap.size tI (.slice Ao i co) (ints ((scZ a k).take i)) from HO.out.below (by rw [hw2]; exact below1 _ _)); clear hw2))
        | (go_at_call 141; refine (HPW.out _).mono ?_; rintro e w3 ⟨rfl, rfl⟩)
        | (go_at_call 60; refine (i_num (y * P) _ (by omega) (by omega)).mono ?_; rintro e w3 ⟨rfl, rfl⟩)
        | (at_builtin; go_loud (refine wpList_app1 T_int HOX.out (by rw [ints_len, HEL.out]; omega) HB2.out.size (by rfl) rfl (by rfl) (by rfl) (by rfl) ?_; intro v1 w6 hown1 hgr1; have HN := Lib.hid hown1; have HGR := Lib.hid hgr1; clear hown1 hgr1)))
      go_roundw
      case rel =>
        refine ⟨i + 1, by omega, by go_num, ?_, HGR.out.below HB2.out HB2.out.size HO.out.ge⟩
        rw [HTS.out]; exact HN.out
      case measure => simp [intOf]; omega
    · have hil : (scZ a k).take i = scZ a k := List.take_of_length_le (by rw [HSZ.out]; omega)
      have HFF := Lib.hid hil
      clear hil
      go_wp2_with fail
      go_ret
      refine ⟨_, rfl, ⟨?_, fun z hz => in64_num (scZ_nums a k z hz)⟩, HBX.out.trans (HBQ.out.mono HBX.out.size)⟩
      have h := HO.out
      rw [HFF.out] at h
      exact h.mono HBX.out.size
end Go.Proofs.YtdjhfeaimmpmhaaGreat

