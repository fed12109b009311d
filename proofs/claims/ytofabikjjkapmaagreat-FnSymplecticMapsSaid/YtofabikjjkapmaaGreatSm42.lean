import Derived.Test.YtofabikjjkapmaaGreatSm35
import Derived.Test.YtofabikjjkapmaaGreatSm32
import Derived.Test.YtofabikjjkapmaaGreatSm41
import Derived.Test.YtofabikjjkapmaaGreatSm20
import Derived.Test.YtofabikjjkapmaaGreatSm11
import Derived.Test.YtofabikjjkapmaaGreatSm23
import Derived.Test.YtofabikjjkapmaaGreatSm29
set_option maxRecDepth 100000
set_option linter.unusedVariables false
set_option linter.unusedSimpArgs false
namespace Go.Proofs.YtofabikjjkapmaaGreat
open Go.RowKit
theorem mod_num (x : Int) : 0 <= x % 10007 /\ x % 10007 <= 10006 := by omega
set_option maxHeartbeats 1000000 in
theorem s_l03Factorial (w : World) (k : Nat) (h6 : k <= 6) : Calls Tryz.prog 219 #[.int .i64 (k : Nat)] w fun e w' => ∃ z, e = .returned (.int .i64 z) /\ (0 <= z /\ z <= 1000000) /\ w = w' := by
 go_enter Tryz.func219, Tryz.ntmps219
 go_wp2_with fail
 go_loopw [3, 4] (fun x y wr => ∃ (z : Int) (n : Nat), y = .int .i64 (n : Nat) /\ 2 <= n /\ n <= 7 /\ x = .int .i64 z /\ Hid (0 <= z /\ z <= 10 ^ (n - 2)) /\ wr = w) (fun _ y _ => 7 - (intOf y).toNat)
 case atStart => exact ⟨1, 2, rfl, by omega, by omega, rfl, ⟨by omega, by decide⟩, rfl⟩
 case round =>
  obtain ⟨z, n, rfl, h2, h7, rfl, HZ, rfl⟩ := hrel
  have hzb : 0 <= z /\ z <= 100000 := by
   have h := HZ.out
   obtain rfl | rfl | rfl | rfl | rfl | rfl : n = 2 \/ n = 3 \/ n = 4 \/ n = 5 \/ n = 6 \/ n = 7 := by omega
   all_goals (simp at h; omega)
  by_cases hle : n <= k
  · have hll : (n : Int) <= (k : Int) := by omega
    have hmb := mul_bd 100000 7 hzb.1 hzb.2 (show (0 : Int) <= (n : Int) by omega) (show (n : Int) <= 7 by omega)
    obtain ⟨zz, hzz⟩ : ∃ zz, zz = z * (n : Int) := ⟨_, rfl⟩
    have hw : wrap64 (z * (n : Int)) = zz := by rw [hzz]; exact w64_dr _ (by omega)
    have hw2 : IntKind.i64.wrap (z * (n : Int)) = zz := by rw [hzz]; exact wrap_i64 _ (by omega)
    have HM := Lib.hid (show 0 <= z * (n : Int) /\ z * (n : Int) <= 10 ^ (n + 1 - 2) from by
     refine ⟨hmb.1, ?_⟩
     have h := HZ.out
     obtain rfl | rfl | rfl | rfl | rfl : n = 2 \/ n = 3 \/ n = 4 \/ n = 5 \/ n = 6 := by omega
     all_goals (simp at h ⊢; omega))
    rw [<- hzz] at HM
    clear hmb hzb hzz
    go_wp2_with fail
    go_roundw
    case rel => exact ⟨zz, n + 1, by go_num, by omega, by omega, rfl, HM.out, by first | rfl | trivial⟩
    case measure => simp [intOf]; omega
  · have hll : ¬ ((n : Int) <= (k : Int)) := by omega
    go_wp2_with fail
    go_ret
    exact ⟨z, rfl, by omega, rfl⟩
set_option maxHeartbeats 4000000 in
theorem s_l08Add (w : World) (va vb : Value) (a b : List Int) (k : Int) (h1 : Ints w va a) (l1 : a.length = 38) (n1 : Nums a) (h2 : Ints w vb b) (l2 : b.length = 38) (n2 : Nums b) (hk : 0 <= k /\ k <= 10006) :
  Calls Tryz.prog 218 #[va, vb, .int .i64 k] w fun e w' => ∃ r, e = .returned r /\ ∃ us, OwnInts w' w.heap.size tI r us /\ Nl 38 us /\ Below w.heap.size w w' := by
 obtain ⟨Aa, ca, rfl, -, -, -⟩ := h1.open_
 obtain ⟨Ab, cb, rfl, -, -, -⟩ := h2.open_
 rw [l1] at h1 ⊢
 rw [l2] at h2 ⊢
 obtain ⟨ada, rfl, -, -, -⟩ := map_cell h1 n1 (k := 0) (by omega)
 obtain ⟨adb, rfl, -, -, -⟩ := map_cell h2 n2 (k := 0) (by omega)
 have HA := Lib.hid h1
 have HB := Lib.hid h2
 have HNA := Lib.hid n1
 have HNB := Lib.hid n2
 have OL := Lib.hid (show Own (w.alloc (.cells #[] tI)) w.heap.size tI (.slice (some ⟨w.heap.size, 0, none⟩) 0 0) (ints []) from own_lit w tI [] (by simp [maxLen]))
 obtain ⟨k0, k1⟩ := hk
 clear h1 h2 l1 l2 n1 n2
 go_enter Tryz.func218, Tryz.ntmps218
 go_wp2_with fail
 go_loopw [7, 8] (fun o x wr => ∃ (i : Nat) (us : List Int), i <= 38 /\ x = .int .i64 i /\ Own wr w.heap.size tI o (ints us) /\ Hid (Nl i us) /\ Below w.heap.size w wr) (fun _ x _ => 38 - (intOf x).toNat)
 case atStart => exact ⟨0, [], Nat.zero_le _, rfl, OL.out, Nl.nil, below1 w _⟩
 case round =>
  obtain ⟨i, us, hi, rfl, ho, HU, hb⟩ := hrel
  rename World => wq
  clear OL
  have HO := Lib.hid ho
  have HBQ := Lib.hid hb
  obtain ⟨Ao, co, heo, -, -⟩ := ho.cells.open_
  rw [ints_len, HU.out.1] at heo
  subst heo
  clear ho hb
  by_cases hlt : i < 38
  · have hii : (i : Int) < 38 := by omega
    obtain ⟨_, he, hcx, hx0, hx1⟩ := map_cell (HA.out.below HBQ.out) HNA.out (k := i) hlt
    simp only [Option.some.injEq] at he
    subst he
    obtain ⟨_, he, hcy, hy0, hy1⟩ := map_cell (HB.out.below HBQ.out) HNB.out (k := i) hlt
    simp only [Option.some.injEq] at he
    subst he
    generalize a.getD i 0 = x at *
    generalize b.getD i 0 = y at *
    have HM1 := Lib.hid (fun W => s_l01Mul k y W k0 (by omega) hy0 (by omega))
    have hm := mod_num (k * y)
    generalize k * y % 10007 = m at *
    have HM2 := Lib.hid (fun W => s_l01Add x m W (by omega) (by omega) (by omega) (by omega))
    have hz := mod_num (x + m)
    generalize (x + m) % 10007 = z at *
    have HZ := Lib.hid hz
    clear hz hm hx0 hx1 hy0 hy1
    go_wp2_with fail
    go_region_law (first | (refine step_app1 T_int (B := w.heap.size) (W := wq.drew) (by exact HO.out) (by rw [ints_len, HU.out.1]; omega) (by exact HBQ.out.size) (by rfl) rfl (by rfl) (by rfl) (by rfl) ?_; intro v1 w1 hown1 hgr1) | (go_simp; go_at_call 176; refine (HM1.out _).mono ?_; rintro e w' ⟨rfl, rfl⟩) | (go_simp; go_at_call 189; refine (HM2.out _).mono ?_; rintro e w' ⟨rfl, rfl⟩))
    all_goals
     go_wp2_with fail
     go_roundw
     case rel => exact ⟨i + 1, us ++ [z], by omega, by go_num, by simpa [ints] using hown1, HU.out.snoc HZ.out, hgr1.below HBQ.out.drew HBQ.out.size HO.out.ge⟩
     case measure => simp [intOf]; omega
  · have hii : ¬ ((i : Int) < 38) := by omega
    have hin : i = 38 := by omega
    subst hin
    go_wp2_with fail
    go_ret
    exact ⟨_, rfl, us, ownNl HU.out HO.out, HU.out, HBQ.out⟩
set_option maxHeartbeats 16000000 in
theorem s_l08Act (w : World) (v vb vx : Value) (Bp : Nat) (b x : List Int) (hC : C7 w Bp v) (h1 : Ints w vb b) (l1 : b.length = 38) (n1 : Nums b) (h2 : Ints w vx x) (l2 : x.length = 38) (n2 : Nums x) :
  Calls Tryz.prog 217 #[v, vb, vx] w fun e w' => ∃ r, e = .returned r /\ ∃ us, OwnInts w' w.heap.size tI r us /\ Nl 38 us /\ Below w.heap.size w w' := by
 obtain ⟨A, c, rfl, -⟩ := hC.at_
 obtain ⟨Ab, cb, rfl, -, -, -⟩ := h1.open_
 obtain ⟨Ax, cx, rfl, -, -, -⟩ := h2.open_
 rw [l1] at h1 ⊢
 rw [l2] at h2 ⊢
 obtain ⟨adb, rfl, -, -, -⟩ := map_cell h1 n1 (k := 0) (by omega)
 obtain ⟨adx, rfl, -, -, -⟩ := map_cell h2 n2 (k := 0) (by omega)
 have HC := Lib.hid hC
 have HB1 := Lib.hid h1
 have HX1 := Lib.hid h2
 have HNB := Lib.hid n1
 have HNX := Lib.hid n2
 have OL := Lib.hid (show Own (w.alloc (.cells #[.int .i64 0] tI)) w.heap.size tI (.slice (some ⟨w.heap.size, 0, none⟩) 1 1) (ints [0]) from own_lit w tI [.int .i64 0] (by simp [maxLen]))
 clear hC h1 h2 l1 l2 n1 n2
 go_enter Tryz.func217, Tryz.ntmps217
 go_wp2_with fail
 go_loopw [7, 8] (fun o y wr => ∃ (i n : Nat) (us : List Int), n <= 38 /\ y = .int .i64 n /\ Hid (n = i + 1) /\ Own wr w.heap.size tI o (ints us) /\ Hid (Nl n us) /\ Below w.heap.size w wr) (fun _ y _ => 38 - (intOf y).toNat)
 case atStart => exact ⟨0, 1, [0], by omega, rfl, rfl, OL.out, ⟨rfl, fun z hz => by simp at hz; omega⟩, below1 w _⟩
 case round =>
  obtain ⟨i, n, us, hn, rfl, HNI, ho, HU, hb⟩ := hrel
  rename World => wq
  clear OL
  have hni := HNI.out
  obtain ⟨Ao, co, heo, -, -⟩ := ho.cells.open_
  rw [ints_len, HU.out.1] at heo
  subst heo
  have HO := Lib.hid ho
  have HBQ := Lib.hid hb
  obtain ⟨A', c', he, hat⟩ := (HC.out.below hb).at_
  simp only [Value.slice.injEq, true_and] at he
  obtain ⟨rfl, rfl⟩ := he
  clear ho hb
  by_cases hlt : n < 38
  · have hi37 : i < 37 := by omega
    obtain ⟨adp, css, A2, c2, rfl, ho2, hm2, hcp⟩ := hat i hi37
    have hpl := CTab_ln hi37
    obtain ⟨L, hL⟩ : ∃ L, L = CTab.getD i [] := ⟨_, rfl⟩
    rw [<- hL] at hm2 hpl
    have HLE := Lib.hid hL
    have hcl := hm2.1
    have HCL := Lib.hid hcl
    have hc5 : css.length <= 100 := by rw [hcl]; exact hpl
    have HO2 := Lib.hid ho2
    have HM2 := Lib.hid hm2
    rw [<- hni] at hcp
    have HCP := Lib.hid hcp
    have hii : (n : Int) < 38 := by omega
    clear hat hpl hL hcl ho2 hm2 hni
    go_wp2_with fail
    go_loopw [9, 10] (fun s y wr => ∃ (j : Nat) (z : Int), j <= css.length /\ y = .int .i64 j /\ s = .int .i64 z /\ Hid (0 <= z /\ z <= 10006) /\ Below wq.heap.size wq wr) (fun _ y _ => css.length - (intOf y).toNat)
    case atStart => exact ⟨0, 0, Nat.zero_le _, rfl, rfl, ⟨by omega, by omega⟩, Below.refl _ _⟩
    case round =>
     obtain ⟨j, sm, hj, rfl, rfl, HS, hb⟩ := hrel
     rename World => wc
     have HBC := Lib.hid hb
     have hcp := keepCell hb HCP.out
     by_cases hlj : j < css.length
     · obtain ⟨⟨⟨cr, sk⟩, q⟩, hx⟩ : ∃ x, L[j]? = some x := ⟨_, List.getElem?_eq_getElem (by rw [<- HCL.out]; exact hlj)⟩
       have hxm := List.mem_of_getElem? hx
       obtain ⟨hcr, hsk, hq⟩ := CTab_at hi37 (x := ((cr, sk), q)) (by rw [<- HLE.out]; exact hxm)
       have hcr : ∀ p ∈ cr, p < 38 := hcr
       have hsk : sk < 38 := hsk
       have hq : q <= 100 := hq
       obtain ⟨go, As, cs, rfl, hs1, hq0, hq1, hq2⟩ := part7_at (HO2.out.below hb) (HM2.out.below hb) hx
       have hs1 : OwnInts wc Bp tI (.slice As cr.length cs) (up cr) := hs1
       have hq0 : wc.cell? ⟨go, j * 3, none⟩ = some (.int .i64 q) := hq0
       have hq1 : wc.cell? ⟨go, j * 3 + 1, none⟩ = some (.slice As cr.length cs) := hq1
       have hq2 : wc.cell? ⟨go, j * 3 + 2, none⟩ = some (.int .i64 sk) := hq2
       have hjj : (j : Int) < (css.length : Int) := by omega
       have HCR := Lib.hid hcr
       clear hxm hcr hx hb
       go_upto_region 10 with fail
       obtain ⟨W, hW⟩ : ∃ W, W = wc.alloc (.cells #[.int .i64 q, .slice As cr.length cs, .int .i64 sk] t7) := ⟨_, rfl⟩
       have hbw : Below wc.heap.size wc W := by rw [hW]; exact below1 wc _
       have HBW := Lib.hid hbw
       have HKP := Lib.hid (show Blk W wc.heap.size t7 #[.int .i64 q, .slice As cr.length cs, .int .i64 sk] from by rw [hW]; exact Blk.new _ _ _)
       have HSW := Lib.hid (hs1.below hbw).ints
       have HBB := Lib.hid ((HB1.out.below HBQ.out).below (HBC.out.trans (hbw.mono HBC.out.size)))
       have HXB := Lib.hid ((HX1.out.below HBQ.out).below (HBC.out.trans (hbw.mono HBC.out.size)))
       rw [<- hW]
       clear hW hs1 hbw hq0 hq1 hq2 hcp
       have kp1 : W.cell? ⟨wc.heap.size, 1, none⟩ = some (.slice As cr.length cs) := HKP.out.cell 1
       by_cases hc1 : cr.length = 1
       · have hd : ((cr.length : Int) == 1) = true := by simp [hc1]
         obtain ⟨p, rfl⟩ := List.length_eq_one_iff.1 hc1
         have hp38 : p < 38 := HCR.out p (by simp)
         obtain ⟨As', c', he, -, -, g2⟩ := HSW.out.open_
         obtain ⟨a2, z, hA2, hz, -, hcz⟩ := g2 0 (by simp [up])
         have hze : z = (p : Int) := by
          have h5 : (up [p])[0]? = some (p : Int) := rfl
          rw [h5] at hz
          injection hz with hz
          exact hz.symm
         subst hze
         simp only [Value.slice.injEq] at he
         obtain ⟨rfl, -, rfl⟩ := he
         subst hA2
         have hcz : W.cell? a2 = some (.int .i64 (p : Nat)) := by simpa [Addr.add] using hcz
         obtain ⟨_, he, hcb, hb0, hb1⟩ := map_cell HBB.out HNB.out (k := p) hp38
         simp only [Option.some.injEq] at he
         subst he
         obtain ⟨_, he, hcx, hx0, hx1⟩ := map_cell HXB.out HNX.out (k := sk) hsk
         simp only [Option.some.injEq] at he
         subst he
         generalize b.getD p 0 = yb at *
         generalize x.getD sk 0 = yx at *
         obtain ⟨S, hS1, hS2⟩ : ∃ S : World -> Prop, (∀ Wx, S Wx -> Below W.heap.size W Wx) /\ (∀ Wx, Below W.heap.size W Wx -> S Wx) := ⟨fun Wx => Below W.heap.size W Wx, fun _ h => h, fun _ h => h⟩
         have HSE := Lib.hid (show ∀ x : GW S, Below W.heap.size W x.w from fun x => hS1 _ x.h)
         have HSI := Lib.hid (show S W.drew from hS2 _ (Below.refl W.heap.size W).drew)
         have y0 : ∀ x : GW S, x.w.cell? ⟨wc.heap.size, 0, none⟩ = some (.int .i64 q) := fun x => keepCell (HSE.out x) (HKP.out.cell 0)
         have y1 : ∀ x : GW S, x.w.cell? ⟨wc.heap.size, 1, none⟩ = some (.slice (some a2) [p].length cs) := fun x => keepCell (HSE.out x) (HKP.out.cell 1)
         have y2 : ∀ x : GW S, x.w.cell? ⟨wc.heap.size, 2, none⟩ = some (.int .i64 sk) := fun x => keepCell (HSE.out x) (HKP.out.cell 2)
         have y3 : ∀ x : GW S, x.w.cell? a2 = some (.int .i64 (p : Nat)) := fun x => keepCell (HSE.out x) hcz
         have y4 : ∀ x : GW S, x.w.cell? (adb.add p) = some (.int .i64 yb) := fun x => keepCell (HSE.out x) hcb
         have y5 : ∀ x : GW S, x.w.cell? (adx.add sk) = some (.int .i64 yx) := fun x => keepCell (HSE.out x) hcx
         have HN1 := Lib.hid (show ∀ x : GW S, Calls Tryz.prog 176 #[.int .i64 yb, .int .i64 yx] x.w (fun e w' => e = .returned (.int .i64 (yb * yx % 10007)) /\ S w') from fun x => (s_l01Mul yb yx x.w (by omega) (by omega) (by omega) (by omega)).mono (by rintro e w7 ⟨rfl, rfl⟩; exact ⟨rfl, hS2 _ (HSE.out x)⟩))
         have hm1 := mod_num (yb * yx)
         generalize yb * yx % 10007 = m1 at *
         have HN2 := Lib.hid (show ∀ x : GW S, Calls Tryz.prog 176 #[.int .i64 q, .int .i64 m1] x.w (fun e w' => e = .returned (.int .i64 ((q : Int) * m1 % 10007)) /\ S w') from fun x => (s_l01Mul (q : Int) m1 x.w (by omega) (by omega) (by omega) (by omega)).mono (by rintro e w7 ⟨rfl, rfl⟩; exact ⟨rfl, hS2 _ (HSE.out x)⟩))
         have hm2 := mod_num ((q : Int) * m1)
         generalize (q : Int) * m1 % 10007 = m2 at *
         have hsb := HS.out
         have HN3 := Lib.hid (show ∀ x : GW S, Calls Tryz.prog 189 #[.int .i64 sm, .int .i64 m2] x.w (fun e w' => e = .returned (.int .i64 ((sm + m2) % 10007)) /\ S w') from fun x => (s_l01Add sm m2 x.w (by omega) (by omega) (by omega) (by omega)).mono (by rintro e w7 ⟨rfl, rfl⟩; exact ⟨rfl, hS2 _ (HSE.out x)⟩))
         have HM3 := Lib.hid (mod_num (sm + m2))
         generalize (sm + m2) % 10007 = m3 at *
         have hpp : (p : Int) < 38 := by omega
         have hss : (sk : Int) < 38 := by omega
         clear hm1 hm2 hsb hb0 hb1 hx0 hx1 hS1 hS2 hcz hcb hcx g2
         go_upto_region 11 with fail
         refine wp_region_grow S (by kernel_rfl) (by kernel_rfl) HSI.out (fun hne => ?_)
         repeat (go_big_quiet_step ((first
          | (go_at_call 176; first | with_reducible exact grow_call (HN1.out _) | with_reducible exact grow_call (HN2.out _))
          | (go_at_call 189; exact grow_call (HN3.out _)))))
         refine wpQuiet_nil ?_
         rintro _ ⟨xq, rfl⟩
         clear y0 y1 y2 y3 y4 y5
         go_wp2_with fail
         go_roundw
         case rel => exact ⟨j + 1, m3, by omega, by go_num, rfl, HM3.out, HBC.out.trans ((HBW.out.trans ((HSE.out xq).mono HBW.out.size)).mono HBC.out.size)⟩
         case measure => simp [intOf]; omega
       · have hd : ((cr.length : Int) == 1) = false := by simp; omega
         clear hc1
         go_wp2_with fail
         go_roundw
         case rel => exact ⟨j + 1, sm, by omega, by go_num, rfl, HS.out, HBC.out.trans (HBW.out.mono HBC.out.size)⟩
         case measure => simp [intOf]; omega
     · have hjj : ¬ ((j : Int) < (css.length : Int)) := by omega
       have HOX := Lib.hid (HO.out.below HBC.out)
       clear hb
       go_wp2_with (at_builtin; go_loud (refine wpList_app1 T_int HOX.out (by rw [ints_len, HU.out.1]; omega) (Nat.le_trans HBQ.out.size HBC.out.size) (by rfl) rfl (by rfl) (by rfl) (by rfl) ?_; intro v1 w6 hown1 hgr1; have HN := Lib.hid hown1; have HGR := Lib.hid hgr1; clear hown1 hgr1))
       go_roundw
       case rel => exact ⟨i + 1, n + 1, us ++ [sm], by omega, by go_num, by show n + 1 = i + 1 + 1; have := HNI.out; omega, by simpa [ints] using HN.out, HU.out.snoc HS.out, HGR.out.below (HBQ.out.trans (HBC.out.mono HBQ.out.size)) (Nat.le_trans HBQ.out.size HBC.out.size) HO.out.ge⟩
       case measure => simp [intOf]; omega
  · have hii : ¬ ((n : Int) < 38) := by omega
    have hin : n = 38 := by omega
    clear hni HNI hat
    subst hin
    go_wp2_with fail
    go_ret
    exact ⟨_, rfl, us, ownNl HU.out HO.out, HU.out, HBQ.out⟩
set_option maxHeartbeats 4000000 in
theorem s_l08Exp (w : World) (v vb : Value) (Bp : Nat) (b : List Int) (hC : C7 w Bp v) (h1 : Ints w vb b) (l1 : b.length = 38) (n1 : Nums b) :
  Calls Tryz.prog 169 #[v, vb] w fun e w' => ∃ r, e = .returned r /\ ∃ us, OwnInts w' w.heap.size tI r us /\ Nl 38 us /\ Below w.heap.size w w' := by
 obtain ⟨A, c, rfl, -⟩ := hC.at_
 obtain ⟨Ab, cb, rfl, -, -, -⟩ := h1.open_
 have HC := Lib.hid hC
 have HB1 := Lib.hid h1
 have HL := Lib.hid (And.intro l1 n1)
 clear hC h1 l1 n1
 go_enter Tryz.func169, Tryz.ntmps169
 go_wp2_with (first
  | (go_at_call 216; (with_reducible refine (s_l07Unit w).mono ?_); go_loud (rintro e w1 ⟨x1, rfl, ho1, hb1⟩; have HO1 := Lib.hid ho1; have HB2 := Lib.hid hb1; clear ho1 hb1))
  | (go_at_call 216; (with_reducible refine (s_l07Unit w1).mono ?_); go_loud (rintro e w2 ⟨x2, rfl, ho2, hb2⟩; have HO2 := Lib.hid (ho2.mono HB2.out.size); have HO12 := Lib.hid (HO1.out.below hb2); have HB3 := Lib.hid (HB2.out.trans (hb2.mono HB2.out.size)); clear ho2 hb2)))
 go_loopw [5, 6, 7] (fun o x y wr => ∃ (k : Nat) (us zs : List Int), 1 <= k /\ k <= 7 /\ y = .int .i64 k /\ OwnInts wr w.heap.size tI o us /\ Hid (Nl 38 us) /\ OwnInts wr w.heap.size tI x zs /\ Hid (Nl 38 zs) /\ Below w.heap.size w wr) (fun _ _ y _ => 7 - (intOf y).toNat)
 case atStart => exact ⟨1, unM, unM, by omega, by omega, rfl, HO12.out, ⟨unM_len, unM_nums⟩, HO2.out, ⟨unM_len, unM_nums⟩, HB3.out⟩
 case round =>
  obtain ⟨k, us, zs, hk1, hk7, rfl, ho, HU, hx, HZ, hb⟩ := hrel
  rename World => wq
  clear HO1 HO2 HO12 HB2 HB3
  have HO := Lib.hid ho
  have HX := Lib.hid hx
  have HB := Lib.hid hb
  clear ho hx hb
  by_cases hle : k <= 6
  · have hll : (k : Int) <= 6 := by omega
    go_wp2_with (first
     | (go_at_call 217; go_loud (refine (s_l08Act _ _ _ _ Bp b zs (HC.out.below HB.out) (HB1.out.below HB.out) HL.out.1 HL.out.2 HX.out.ints HZ.out.1 HZ.out.2).mono ?_; rintro e w3 ⟨x3, rfl, z3, ho3, hz3, hb3⟩; have HX3 := Lib.hid (ho3.mono HB.out.size); have HZ3 := Lib.hid hz3; have HO3 := Lib.hid (HO.out.below hb3); have HB3 := Lib.hid (HB.out.trans (hb3.mono HB.out.size)); clear ho3 hz3 hb3))
     | (go_at_call 219; go_loud (refine (s_l03Factorial _ k hle).mono ?_; rintro e w4 ⟨z4, rfl, hz4, rfl⟩; obtain ⟨q0, q1⟩ := hz4))
     | (go_at_call 119; go_loud (refine (s_l01FracZ _ _ _ (by omega) (by omega) q0 q1).mono ?_; rintro e w5 ⟨z5, rfl, hz5, rfl⟩; have HZ5 := Lib.hid hz5; clear hz5))
     | (go_at_call 218; go_loud (refine (s_l08Add _ _ _ us z3 z5 HO3.out.ints HU.out.1 HU.out.2 HX3.out.ints HZ3.out.1 HZ3.out.2 HZ5.out).mono ?_; rintro e w6 ⟨x6, rfl, z6, ho6, hz6, hb6⟩; have HO6 := Lib.hid (ho6.mono HB3.out.size); have HZ6 := Lib.hid hz6; have HX6 := Lib.hid (HX3.out.below hb6); have HB6 := Lib.hid (HB3.out.trans (hb6.mono HB3.out.size)); clear ho6 hz6 hb6)))
    go_roundw
    case rel => exact ⟨k + 1, z6, z3, by omega, by omega, by go_num, HO6.out, HZ6.out, HX6.out, HZ3.out, HB6.out⟩
    case measure => simp [intOf]; omega
  · have hll : ¬ ((k : Int) <= 6) := by omega
    go_wp2_with fail
    go_ret
    exact ⟨_, rfl, us, HO.out, HU.out, HB.out⟩
set_option maxHeartbeats 16000000 in
theorem s_l12Make (w : World) (v : Value) (zs : List Int) (ha : Ints w v zs) (h10 : zs.length = 10) (hn : nums zs = true) :
  Calls Tryz.prog 171 #[v] w fun e w' => ∃ x, e = .returned x /\ OwnInts w' w.heap.size tI x (hamZ zs) /\ Below w.heap.size w w' := by
 have HNU := Lib.hid (nums_iff.1 hn)
 obtain ⟨A, c, rfl, l1, l2, h3⟩ := ha.open_
 have H3 := Lib.hid h3
 have H10 := Lib.hid h10
 clear ha h3 hn h10
 go_enter Tryz.func171, Tryz.ntmps171
 go_wp2_with (first
  | (go_at_call 61; go_loud (refine (s_l03All _ 6 (by omega)).mono ?_; rintro e w2 ⟨x2, rfl, hl2, hb2⟩; rw [show allG treesN 6 = T6 from rfl] at hl2; obtain ⟨A3, c3, he3, -, -, -⟩ := hl2.rows.open_; rw [List.length_map, T6_len] at he3; subst he3; have HB2 := Lib.hid hb2; have HQ2 := Lib.hid hl2; clear hl2 hb2))
  | (go_at_call 63; go_loud (refine (s_l12All _).mono ?_; rintro e w3 ⟨x3, rfl, hl3, hb3⟩; rw [C6_eq] at hl3; obtain ⟨A2, c2, he2, -, -, -⟩ := hl3.rows.open_; rw [List.length_map, show C6.length = 10 from rfl] at he2; subst he2; have HB3 := Lib.hid (HB2.out.trans (hb3.mono HB2.out.size)); have HL3 := Lib.hid (hl3.mono HB2.out.size); have HQ3 := Lib.hid (HQ2.out.below hb3); have OL := Lib.hid (show OwnInts (w3.alloc (.cells #[.int .i64 0] tI)) w3.heap.size tI (.slice (some ⟨w3.heap.size, 0, none⟩) 1 1) (0 :: (T6.take 0).map (hamV zs)) from ⟨own_lit w3 tI [.int .i64 0] (by simp [maxLen]), fun z hz => by simp at hz; subst hz; unfold In64; omega⟩); clear hl3 hb3)))
 go_loopw [5, 6] (fun o x wr => ∃ i : Nat, i <= 37 /\ x = .int .i64 i /\ OwnInts wr w3.heap.size tI o (0 :: (T6.take i).map (hamV zs)) /\ Below w3.heap.size w3 wr) (fun _ x _ => 37 - (intOf x).toNat)
 case atStart => exact ⟨0, Nat.zero_le _, rfl, OL.out, below1 _ _⟩
 case round =>
  obtain ⟨i, hi, rfl, ho, hb⟩ := hrel
  obtain ⟨Ao, co, rfl, -, -⟩ := ho.1.cells.open_
  have HOL := Lib.hid (show (ints (0 :: (T6.take i).map (hamV zs))).length <= 1000 from by rw [ints_len, List.length_cons, List.length_map, List.length_take]; omega)
  generalize hnn : (ints (0 :: (T6.take i).map (hamV zs))).length = nn at ho ⊢
  have HNN := Lib.hid hnn
  have HO := Lib.hid ho
  have HX := Lib.hid hb
  have HB := Lib.hid (HB3.out.trans (hb.mono HB3.out.size))
  have HLC := Lib.hid (HL3.out.below hb)
  have HLT := Lib.hid (HQ3.out.below hb)
  clear ho hb hnn OL
  by_cases hlt : i < 37
  · have hq : T6[i]? = some (T6[i]'(by rw [T6_len]; exact hlt)) := List.getElem?_eq_getElem _
    have hmem : T6[i]'(by rw [T6_len]; exact hlt) ∈ T6 := List.getElem_mem _
    obtain ⟨htl, ht8, htm, fr, rs, kk, ys, hf, hrs, hrl, hro, hfn, hix, hsg⟩ := okH_at hmem
    have HV := Lib.hid (show hamV zs (T6[i]'(by rw [T6_len]; exact hlt)) = _ from hamV_is zs hf)
    have HTS := Lib.hid (show 0 :: (T6.take (i + 1)).map (hamV zs) = (0 :: (T6.take i).map (hamV zs)) ++ [hamV zs (T6[i]'(by rw [T6_len]; exact hlt))] from by rw [List.take_add_one, hq, List.map_append]; rfl)
    obtain ⟨A3', c3', he3, -, -, hrow⟩ := HLT.out.rows.open_
    rw [List.length_map, T6_len] at he3 hrow
    simp only [Value.slice.injEq, true_and] at he3
    obtain ⟨rfl, rfl⟩ := he3
    obtain ⟨ad, u, us, rfl, hz, hu, hc⟩ := hrow i hlt
    rw [List.getElem?_map, hq] at hz
    injection hz with hz
    subst hz
    generalize T6[i]'(by rw [T6_len]; exact hlt) = t at *
    obtain ⟨A5, c5, rfl, -, -, -⟩ := hu.open_
    rw [up_len] at hc hu
    have HRO := Lib.hid (fun W (h : Ints W (.slice A5 t.length c5) (up t)) => s_l04Roots W (.slice A5 t.length c5) t _ h (by omega) hro)
    have HSG := Lib.hid (fun hne W (h : Ints W (.slice A5 t.length c5) (up t)) => s_l12Sign W (.slice A5 t.length c5) t fr kk ys _ h ht8 hro (hsg hne))
    have HU := Lib.hid hu
    have hii : (i : Int) < 37 := by omega
    have hixx := fun W y (hy : Rows W (.slice A2 10 c2) (C6.map up)) (h : Ints W y (up fr)) => s_l03Find W (.slice A2 10 c2) y C6 fr hy h (by decide)
    rw [hfn] at hixx
    clear hq hmem htl ht8 htm hf hrs hrl hro hfn hsg hu hrow
    generalize idxN C6 fr = ix at hix HV hixx HSG
    have HIX := Lib.hid hixx
    have HCT := Lib.hid hc
    clear hixx
    cases ix with
    | zero =>
     have HV0 := Lib.hid (show hamV zs t = 0 from HV.out)
     have hneg : (((0 : Nat) : Int) - 1) = -1 := by omega
     go_wp2_with (first
      | (go_at_call 180; go_loud ((with_reducible refine (HRO.out _ HU.out).mono ?_); rintro e w4 ⟨x4, rfl, ho4, hb4⟩; obtain ⟨g, cap, A6, c6, he6, hc6, -, hr6⟩ := ho4.at_ (k := 0) rfl; subst he6; have hc6' : w4.cell? ⟨g, 0, none⟩ = some (.slice A6 fr.length c6) := hc6; have HO4 := Lib.hid hr6; have HB4 := Lib.hid hb4; have hp4 : 0 < ((fr, kk) :: ys).length := (by simp); have HOX := Lib.hid (HO.out.below hb4); have HLC4 := Lib.hid (HLC.out.below hb4); clear ho4 hb4 hc6 hr6))
      | (go_at_call 64; go_loud (refine (HIX.out _ _ HLC4.out.rows HO4.out.ints).mono ?_; rintro e w5 ⟨rfl, n5, rfl⟩))
      | (at_builtin; go_loud (refine wpList_app1 T_int (HOX.out.1.below (below_drewN (Below.refl w4.heap.size w4) n5)) (by have := HOL.out; omega) (Nat.le_trans HX.out.size HB4.out.size) (by rfl) rfl (by rfl) (by rfl) (by rfl) ?_; intro v1 w6 hown1 hgr1; have HN := Lib.hid hown1; have HGR := Lib.hid hgr1; clear hown1 hgr1)))
     go_roundw
     case rel =>
      refine ⟨i + 1, by omega, by go_num, ?_, HGR.out.below (HX.out.trans (below_drewN (HB4.out.mono HX.out.size) n5)) (Nat.le_trans HX.out.size HB4.out.size) HO.out.1.ge⟩
      rw [HTS.out, HV0.out]
      exact own_snoc HO.out.2 (by unfold In64; omega) HN.out
     case measure => simp [intOf]; omega
    | succ i' =>
     have hi' : i' < zs.length := by rw [H10.out]; omega
     obtain ⟨az, z, rfl, hz, hz64, hcz0⟩ := H3.out i' hi'
     have hzn := HNU.out z (List.mem_of_getElem? hz)
     have hgz : zs.getD i' 0 = z := by simp [List.getD, hz]
     have HCZ := Lib.hid hcz0
     have hpos : ((i' + 1 : Nat) : Int) - 1 = (i' : Int) := by omega
     simp only [hpos] at HIX
     have hv := HV.out
     simp only [hgz] at hv
     have hii' : (i' : Int) < (zs.length : Int) := by omega
     have hsg := HSG.out (by omega)
     have HTD := Lib.hid (show 0 <= z /\ z <= 10006 from hzn)
     clear hz hcz0 hgz HV hpos HSG
     go_wp2_with (first
      | (go_at_call 180; go_loud ((with_reducible refine (HRO.out _ HU.out).mono ?_); rintro e w4 ⟨x4, rfl, ho4, hb4⟩; obtain ⟨g, cap, A6, c6, he6, hc6, -, hr6⟩ := ho4.at_ (k := 0) rfl; subst he6; have hc6' : w4.cell? ⟨g, 0, none⟩ = some (.slice A6 fr.length c6) := hc6; have HO4 := Lib.hid hr6; have HB4 := Lib.hid hb4; have hp4 : 0 < ((fr, kk) :: ys).length := (by simp); have HLC4 := Lib.hid (HLC.out.below hb4); clear ho4 hb4 hc6 hr6))
      | (go_at_call 64; go_loud (refine (HIX.out _ _ HLC4.out.rows HO4.out.ints).mono ?_; rintro e w5 ⟨rfl, n5, rfl⟩)))
     clear hc6' hp4 hc
     obtain ⟨wq, hwq⟩ : ∃ wq : World, wq = w4.drewN n5 := ⟨_, rfl⟩
     have HBW := Lib.hid (show Below wr.heap.size wr wq from by rw [hwq]; exact below_drewN HB4.out n5)
     rw [<- hwq]
     clear hwq
     have hc := keepCell HBW.out HCT.out
     have hcz := keepCell (HB.out.trans (HBW.out.mono HB.out.size)) HCZ.out
     have HBC := Lib.hid (show Below wr.heap.size wr wq.drew from HBW.out.drew)
     cases hev : evN t with
     | true =>
      rw [hev] at hsg hv
      have HSG := Lib.hid hsg
      have HV0 := Lib.hid (show hamV zs t = z % 10007 from by rw [hv]; have := HTD.out; simp; omega)
      have hbz : -9223372036854775808 <= z /\ z <= 9223372036854775807 := by omega
      have hw1 := w64_in' _ hbz
      have hw2 := IntWalk.i64_in _ hbz
      clear hv hev hbz hsg
      first | go_region_law (first
       | (go_simp; go_at_call 221; go_loud ((with_reducible refine (HSG.out _ (HU.out.below HBC.out)).mono ?_); rintro e w7 ⟨rfl, hb7⟩; have HBC := Lib.hid (HBC.out.trans (hb7.mono HBC.out.size)); have hcz7 := keepCell (HB.out.trans (HBC.out.mono HB.out.size)) HCZ.out; have HOX := Lib.hid (HO.out.below HBC.out); simp only [sgZ]; clear hb7))
       | (go_simp; go_at_call 177; go_loud (refine (s_l01Mod _ _ (by have := HTD.out; clear hw1 hw2; omega) (by have := HTD.out; clear hw1 hw2; omega)).mono ?_; rintro e w8 ⟨rfl, rfl⟩))
       | (have hgo := HOX; clear hgo; go_loud (refine stp_app1 T_int (B := w3.heap.size) (W := w7.alloc (.cells #[.int .i64 (z % 10007)] tI)) (u := .int .i64 (z % 10007)) (ad := ⟨w7.heap.size, 0, none⟩) (HOX.out.1.below (below1 w7 _)) (by have := HOL.out; clear hw1 hw2; omega) (by have h1 := HX.out.size; have h2 := HBC.out.size; clear hw1 hw2; simp; omega) (by rfl) rfl (by rfl) (by rfl) (by rfl) ((Blk.new w7 _ _).cell 0) ?_; intro v1 w6 hown1 hgr1))) | fail
      all_goals
       have hb8 : Below w3.heap.size w3 (w7.alloc (.cells #[.int .i64 (z % 10007)] tI)) := HX.out.trans ((HBC.out.trans ((below1 w7 _).mono HBC.out.size)).mono HX.out.size)
       have HN := Lib.hid hown1
       have HGR := Lib.hid (hgr1.below hb8 hb8.size HO.out.1.ge)
       clear hown1 hgr1 hw1 hw2
       go_wp2_with fail
       go_roundw
       case rel =>
        refine ⟨i + 1, by omega, by go_num, ?_, HGR.out⟩
        rw [HTS.out, HV0.out]
        exact own_snoc HO.out.2 (by unfold In64; omega) HN.out
       case measure => simp [intOf]; omega
     | false =>
      rw [hev] at hsg hv
      have HSG := Lib.hid hsg
      have HV0 := Lib.hid (show hamV zs t = (-z) % 10007 from by rw [hv]; rfl)
      have hbz : -9223372036854775808 <= -z /\ -z <= 9223372036854775807 := by omega
      have hw1 := w64_in' _ hbz
      have hw2 := IntWalk.i64_in _ hbz
      clear hv hev hbz hsg
      first | go_region_law (first
       | (go_simp; go_at_call 221; go_loud ((with_reducible refine (HSG.out _ (HU.out.below HBC.out)).mono ?_); rintro e w7 ⟨rfl, hb7⟩; have HBC := Lib.hid (HBC.out.trans (hb7.mono HBC.out.size)); have hcz7 := keepCell (HB.out.trans (HBC.out.mono HB.out.size)) HCZ.out; have HOX := Lib.hid (HO.out.below HBC.out); simp only [sgZ]; clear hb7))
       | (go_simp; go_at_call 177; go_loud (refine (s_l01Mod _ _ (by have := HTD.out; clear hw1 hw2; omega) (by have := HTD.out; clear hw1 hw2; omega)).mono ?_; rintro e w8 ⟨rfl, rfl⟩))
       | (have hgo := HOX; clear hgo; go_loud (refine stp_app1 T_int (B := w3.heap.size) (W := w7.alloc (.cells #[.int .i64 ((-z) % 10007)] tI)) (u := .int .i64 ((-z) % 10007)) (ad := ⟨w7.heap.size, 0, none⟩) (HOX.out.1.below (below1 w7 _)) (by have := HOL.out; clear hw1 hw2; omega) (by have h1 := HX.out.size; have h2 := HBC.out.size; clear hw1 hw2; simp; omega) (by rfl) rfl (by rfl) (by rfl) (by rfl) ((Blk.new w7 _ _).cell 0) ?_; intro v1 w6 hown1 hgr1))) | fail
      all_goals
       have hb8 : Below w3.heap.size w3 (w7.alloc (.cells #[.int .i64 ((-z) % 10007)] tI)) := HX.out.trans ((HBC.out.trans ((below1 w7 _).mono HBC.out.size)).mono HX.out.size)
       have HN := Lib.hid hown1
       have HGR := Lib.hid (hgr1.below hb8 hb8.size HO.out.1.ge)
       clear hown1 hgr1 hw1 hw2
       go_wp2_with fail
       go_roundw
       case rel =>
        refine ⟨i + 1, by omega, by go_num, ?_, HGR.out⟩
        rw [HTS.out, HV0.out]
        exact own_snoc HO.out.2 (by unfold In64; omega) HN.out
       case measure => simp [intOf]; omega
  · have hi37 : i = 37 := by omega
    have e : 0 :: (T6.take i).map (hamV zs) = hamZ zs := by rw [hi37, show T6.take 37 = T6 from List.take_of_length_le (by rw [T6_len]; exact Nat.le_refl _)]; rfl
    go_wp2_with fail
    go_ret
    exact ⟨_, rfl, Eq.mp (congrArg (fun l => OwnInts wr w.heap.size tI _ l) e) (HO.out.mono HB3.out.size), HB.out⟩
end Go.Proofs.YtofabikjjkapmaaGreat
