/- Walks: exponentials that are drawn by the reference: l08Act, l08Add, l08Exp, told by an existential; l18Symmetric, l18Draw, DrawAdjointMap. | Walks of helpers of the laws: likeInts, whole9, big. | Walks: the codes of two characters, of the program and of the reference. (printed by codegen2.py) -/
import Derived.Test.YtdjhfeaimmpmhaaGreatZm26
import Derived.Test.YtdjhfeaimmpmhaaGreatZm32
import Derived.Test.YtdjhfeaimmpmhaaGreatZm19
import Derived.Test.YtdjhfeaimmpmhaaGreatZm11
import Derived.Test.YtdjhfeaimmpmhaaGreatZm33
import Derived.Test.YtdjhfeaimmpmhaaGreatZm21
import Derived.Test.YtdjhfeaimmpmhaaGreatZm2
import Derived.Test.YtdjhfeaimmpmhaaGreatZm24
set_option maxRecDepth 100000
set_option linter.unusedVariables false
set_option linter.unusedSimpArgs false
namespace Go.Proofs.YtdjhfeaimmpmhaaGreat
open Go.RowKit

theorem t6_len {t : List Nat} (h : t ∈ T6n) : 1 ≤ t.length ∧ t.length ≤ 6 := by
  have h1 : T6n.all (fun t => Nat.ble 1 t.length && Nat.ble t.length 6) = true := by decide +kernel
  rw [List.all_eq_true] at h1
  have h2 := h1 t h
  rw [Bool.and_eq_true] at h2
  exact ⟨Nat.le_of_ble_eq_true h2.1, Nat.le_of_ble_eq_true h2.2⟩
theorem chg_of {w w' : World} {g : Nat} (h : w.grownBy w' (some g)) : Chg g (g + 1) w w' := ⟨h.os, h.tape, h.output, h.size, fun k hk hd => h.block k hk (by intro e; injection e with e; omega)⟩
theorem mod_num (x : Int) : 0 ≤ x % 10007 ∧ x % 10007 ≤ 10006 := by omega
set_option maxHeartbeats 1000000 in
theorem s_l03Factorial (w : World) (k : Nat) (h6 : k ≤ 6) : Calls Tryz.prog 218 #[.int .i64 (k : Nat)] w fun e w' => ∃ z, e = .returned (.int .i64 z) ∧ (0 ≤ z ∧ z ≤ 1000000) ∧ w = w' := by
  go_enter Tryz.func218, Tryz.ntmps218
  go_wp2_with fail
  go_loopw [3, 4] (fun x y wr => ∃ (z : Int) (n : Nat), y = .int .i64 (n : Nat) ∧ 2 ≤ n ∧ n ≤ 7 ∧ x = .int .i64 z ∧ Hid (0 ≤ z ∧ z ≤ 10 ^ (n - 2)) ∧ wr = w) (fun _ y _ => 7 - (intOf y).toNat)
  case atStart => exact ⟨1, 2, rfl, by omega, by omega, rfl, ⟨by omega, by decide⟩, rfl⟩
  case round =>
    obtain ⟨z, n, rfl, h2, h7, rfl, HZ, rfl⟩ := hrel
    have hzb : 0 ≤ z ∧ z ≤ 100000 := by
      have h := HZ.out
      obtain rfl | rfl | rfl | rfl | rfl | rfl : n = 2 ∨ n = 3 ∨ n = 4 ∨ n = 5 ∨ n = 6 ∨ n = 7 := by omega
      all_goals (simp at h; omega)
    by_cases hle : n ≤ k
    · have hll : (n : Int) ≤ (k : Int) := by omega
      have hmb := mul_bd 100000 7 hzb.1 hzb.2 (show (0 : Int) ≤ (n : Int) by omega) (show (n : Int) ≤ 7 by omega)
      obtain ⟨zz, hzz⟩ : ∃ zz, zz = z * (n : Int) := ⟨_, rfl⟩
      have hw : wrap64 (z * (n : Int)) = zz := by rw [hzz]; exact w64_dr _ (by omega)
      have hw2 : IntKind.i64.wrap (z * (n : Int)) = zz := by rw [hzz]; exact wrap_i64 _ (by omega)
      have HM := Lib.hid (show 0 ≤ z * (n : Int) ∧ z * (n : Int) ≤ 10 ^ (n + 1 - 2) from by
        refine ⟨hmb.1, ?_⟩
        have h := HZ.out
        obtain rfl | rfl | rfl | rfl | rfl : n = 2 ∨ n = 3 ∨ n = 4 ∨ n = 5 ∨ n = 6 := by omega
        all_goals (simp at h ⊢; omega))
      rw [← hzz] at HM
      clear hmb hzb hzz
      go_wp2_with fail
      go_roundw
      case rel => exact ⟨zz, n + 1, by go_num, by omega, by omega, rfl, HM.out, by first | rfl | trivial⟩
      case measure => simp [intOf]; omega
    · have hll : ¬ ((n : Int) ≤ (k : Int)) := by omega
      go_wp2_with fail
      go_ret
      exact ⟨z, rfl, by omega, rfl⟩
set_option maxHeartbeats 4000000 in
theorem s_l08Add (w : World) (va vb : Value) (a b : List Int) (k : Int) (h1 : Ints w va a) (l1 : a.length = 38) (n1 : Nums a) (h2 : Ints w vb b) (l2 : b.length = 38) (n2 : Nums b) (hk : 0 ≤ k ∧ k ≤ 10006) :
    Calls Tryz.prog 217 #[va, vb, .int .i64 k] w fun e w' => ∃ r, e = .returned r ∧ ∃ us, OwnInts w' w.heap.size tI r us ∧ Nl 38 us ∧ Below w.heap.size w w' := by
  obtain ⟨Aa, ca, rfl, -, -, -⟩ := h1.open_
  obtain ⟨Ab, cb, rfl, -, -, -⟩ := h2.open_
  rw [l1] at h1 ⊢
  rw [l2] at h2 ⊢
  obtain ⟨ada, rfl, -, -, -⟩ := map_cell h1 n1 (k := 0) (by omega)
  obtain ⟨adb, rfl, -, -, -⟩ := map_cell h2 n2 (k := 0) (by omega)
  have HA := Lib.hid h1
  have HB := Lib.hid h2
  have HNA := Lib.hid n1
  have HNB := Lib.hid n2
  have OL := Lib.hid (show Own (w.alloc (.cells #[] tI)) w.heap.size tI (.slice (some ⟨w.heap.size, 0, none⟩) 0 0) (ints []) from own_lit w tI [] (by simp [maxLen]))
  obtain ⟨k0, k1⟩ := hk
  clear h1 h2 l1 l2 n1 n2
  go_enter Tryz.func217, Tryz.ntmps217
  go_wp2_with fail
  go_loopw [7, 8] (fun o x wr => ∃ (i : Nat) (us : List Int), i ≤ 38 ∧ x = .int .i64 i ∧ Own wr w.heap.size tI o (ints us) ∧ Hid (Nl i us) ∧ Below w.heap.size w wr) (fun _ x _ => 38 - (intOf x).toNat)
  case atStart => exact ⟨0, [], Nat.zero_le _, rfl, OL.out, Nl.nil, below1 w _⟩
  case round =>
    obtain ⟨i, us, hi, rfl, ho, HU, hb⟩ := hrel
    rename World => wq
    clear OL
    have HO := Lib.hid ho
    have HBQ := Lib.hid hb
    obtain ⟨Ao, co, heo, -, -⟩ := ho.cells.open_
    rw [ints_len, HU.out.1] at heo
    subst heo
    clear ho hb
    by_cases hlt : i < 38
    · have hii : (i : Int) < 38 := by omega
      obtain ⟨_, he, hcx, hx0, hx1⟩ := map_cell (HA.out.below HBQ.out) HNA.out (k := i) hlt
      simp only [Option.some.injEq] at he
      subst he
      obtain ⟨_, he, hcy, hy0, hy1⟩ := map_cell (HB.out.below HBQ.out) HNB.out (k := i) hlt
      simp only [Option.some.injEq] at he
      subst he
      generalize a.getD i 0 = x at *
      generalize b.getD i 0 = y at *
      have HM1 := Lib.hid (fun W => s_l01Mul k y W k0 (by omega) hy0 (by omega))
      have hm := mod_num (k * y)
      generalize k * y % 10007 = m at *
      have HM2 := Lib.hid (fun W => s_l01Add x m W (by omega) (by omega) (by omega) (by omega))
      have hz := mod_num (x + m)
      generalize (x + m) % 10007 = z at *
      have HZ := Lib.hid hz
      clear hz hm hx0 hx1 hy0 hy1
      go_wp2_with fail
      go_region_law (first | (refine step_app1 T_int (B := w.heap.size) (W := wq.drew) (by exact HO.out) (by rw [ints_len, HU.out.1]; omega) (by exact HBQ.out.size) (by rfl) rfl (by rfl) (by rfl) (by rfl) ?_; intro v1 w1 hown1 hgr1) | (go_simp; go_at_call 131; refine (HM1.out _).mono ?_; rintro e w' ⟨rfl, rfl⟩) | (go_simp; go_at_call 132; refine (HM2.out _).mono ?_; rintro e w' ⟨rfl, rfl⟩))
      all_goals
        go_wp2_with fail
        go_roundw
        case rel => exact ⟨i + 1, us ++ [z], by omega, by go_num, by simpa [ints] using hown1, HU.out.snoc HZ.out, hgr1.below HBQ.out.drew HBQ.out.size HO.out.ge⟩
        case measure => simp [intOf]; omega
    · have hii : ¬ ((i : Int) < 38) := by omega
      have hin : i = 38 := by omega
      subst hin
      go_wp2_with fail
      go_ret
      exact ⟨_, rfl, us, ownNl HU.out HO.out, HU.out, HBQ.out⟩
set_option maxHeartbeats 16000000 in
theorem s_l08Act (w : World) (v vb vx : Value) (Bp : Nat) (b x : List Int) (hC : C7 w Bp v) (h1 : Ints w vb b) (l1 : b.length = 38) (n1 : Nums b) (h2 : Ints w vx x) (l2 : x.length = 38) (n2 : Nums x) :
    Calls Tryz.prog 216 #[v, vb, vx] w fun e w' => ∃ r, e = .returned r ∧ ∃ us, OwnInts w' w.heap.size tI r us ∧ Nl 38 us ∧ Below w.heap.size w w' := by
  obtain ⟨A, c, rfl, -⟩ := hC.at_
  obtain ⟨Ab, cb, rfl, -, -, -⟩ := h1.open_
  obtain ⟨Ax, cx, rfl, -, -, -⟩ := h2.open_
  rw [l1] at h1 ⊢
  rw [l2] at h2 ⊢
  obtain ⟨adb, rfl, -, -, -⟩ := map_cell h1 n1 (k := 0) (by omega)
  obtain ⟨adx, rfl, -, -, -⟩ := map_cell h2 n2 (k := 0) (by omega)
  have HC := Lib.hid hC
  have HB1 := Lib.hid h1
  have HX1 := Lib.hid h2
  have HNB := Lib.hid n1
  have HNX := Lib.hid n2
  have OL := Lib.hid (show Own (w.alloc (.cells #[.int .i64 0] tI)) w.heap.size tI (.slice (some ⟨w.heap.size, 0, none⟩) 1 1) (ints [0]) from own_lit w tI [.int .i64 0] (by simp [maxLen]))
  clear hC h1 h2 l1 l2 n1 n2
  go_enter Tryz.func216, Tryz.ntmps216
  go_wp2_with fail
  go_loopw [7, 8] (fun o y wr => ∃ (i n : Nat) (us : List Int), n ≤ 38 ∧ y = .int .i64 n ∧ Hid (n = i + 1) ∧ Own wr w.heap.size tI o (ints us) ∧ Hid (Nl n us) ∧ Below w.heap.size w wr) (fun _ y _ => 38 - (intOf y).toNat)
  case atStart => exact ⟨0, 1, [0], by omega, rfl, rfl, OL.out, ⟨rfl, fun z hz => by simp at hz; omega⟩, below1 w _⟩
  case round =>
    obtain ⟨i, n, us, hn, rfl, HNI, ho, HU, hb⟩ := hrel
    rename World => wq
    clear OL
    have hni := HNI.out
    obtain ⟨Ao, co, heo, -, -⟩ := ho.cells.open_
    rw [ints_len, HU.out.1] at heo
    subst heo
    have HO := Lib.hid ho
    have HBQ := Lib.hid hb
    obtain ⟨A', c', he, hat⟩ := (HC.out.below hb).at_
    simp only [Value.slice.injEq, true_and] at he
    obtain ⟨rfl, rfl⟩ := he
    clear ho hb
    by_cases hlt : n < 38
    · have hi37 : i < 37 := by omega
      obtain ⟨adp, css, A2, c2, rfl, ho2, hm2, hcp⟩ := hat i hi37
      have hpl := CTab_ln hi37
      obtain ⟨L, hL⟩ : ∃ L, L = CTab.getD i [] := ⟨_, rfl⟩
      rw [← hL] at hm2 hpl
      have HLE := Lib.hid hL
      have hcl := hm2.1
      have HCL := Lib.hid hcl
      have hc5 : css.length ≤ 100 := by rw [hcl]; exact hpl
      have HO2 := Lib.hid ho2
      have HM2 := Lib.hid hm2
      rw [← hni] at hcp
      have HCP := Lib.hid hcp
      have hii : (n : Int) < 38 := by omega
      clear hat hpl hL hcl ho2 hm2 hni
      go_wp2_with fail
      go_loopw [9, 10] (fun s y wr => ∃ (j : Nat) (z : Int), j ≤ css.length ∧ y = .int .i64 j ∧ s = .int .i64 z ∧ Hid (0 ≤ z ∧ z ≤ 10006) ∧ Below wq.heap.size wq wr) (fun _ y _ => css.length - (intOf y).toNat)
      case atStart => exact ⟨0, 0, Nat.zero_le _, rfl, rfl, ⟨by omega, by omega⟩, Below.refl _ _⟩
      case round =>
        obtain ⟨j, sm, hj, rfl, rfl, HS, hb⟩ := hrel
        rename World => wc
        have HBC := Lib.hid hb
        have hcp := keepCell hb HCP.out
        by_cases hlj : j < css.length
        · obtain ⟨⟨⟨cr, sk⟩, q⟩, hx⟩ : ∃ x, L[j]? = some x := ⟨_, List.getElem?_eq_getElem (by rw [← HCL.out]; exact hlj)⟩
          have hxm := List.mem_of_getElem? hx
          obtain ⟨hcr, hsk, hq⟩ := CTab_at hi37 (x := ((cr, sk), q)) (by rw [← HLE.out]; exact hxm)
          have hcr : ∀ p ∈ cr, p < 38 := hcr
          have hsk : sk < 38 := hsk
          have hq : q ≤ 100 := hq
          obtain ⟨go, As, cs, rfl, hs1, hq0, hq1, hq2⟩ := part7_at (HO2.out.below hb) (HM2.out.below hb) hx
          have hs1 : OwnInts wc Bp tI (.slice As cr.length cs) (up cr) := hs1
          have hq0 : wc.cell? ⟨go, j * 3, none⟩ = some (.int .i64 q) := hq0
          have hq1 : wc.cell? ⟨go, j * 3 + 1, none⟩ = some (.slice As cr.length cs) := hq1
          have hq2 : wc.cell? ⟨go, j * 3 + 2, none⟩ = some (.int .i64 sk) := hq2
          have hjj : (j : Int) < (css.length : Int) := by omega
          have HCR := Lib.hid hcr
          clear hxm hcr hx hb
          go_upto_region 10 with fail
          obtain ⟨W, hW⟩ : ∃ W, W = wc.alloc (.cells #[.int .i64 q, .slice As cr.length cs, .int .i64 sk] t7) := ⟨_, rfl⟩
          have hbw : Below wc.heap.size wc W := by rw [hW]; exact below1 wc _
          have HBW := Lib.hid hbw
          have HKP := Lib.hid (show Blk W wc.heap.size t7 #[.int .i64 q, .slice As cr.length cs, .int .i64 sk] from by rw [hW]; exact Blk.new _ _ _)
          have HSW := Lib.hid (hs1.below hbw).ints
          have HBB := Lib.hid ((HB1.out.below HBQ.out).below (HBC.out.trans (hbw.mono HBC.out.size)))
          have HXB := Lib.hid ((HX1.out.below HBQ.out).below (HBC.out.trans (hbw.mono HBC.out.size)))
          rw [← hW]
          clear hW hs1 hbw hq0 hq1 hq2 hcp
          have kp1 : W.cell? ⟨wc.heap.size, 1, none⟩ = some (.slice As cr.length cs) := HKP.out.cell 1
          by_cases hc1 : cr.length = 1
          · have hd : ((cr.length : Int) == 1) = true := by simp [hc1]
            obtain ⟨p, rfl⟩ := List.length_eq_one_iff.1 hc1
            have hp38 : p < 38 := HCR.out p (by simp)
            obtain ⟨As', c', he, -, -, g2⟩ := HSW.out.open_
            obtain ⟨a2, z, hA2, hz, -, hcz⟩ := g2 0 (by simp [up])
            have hze : z = (p : Int) := by
              have h5 : (up [p])[0]? = some (p : Int) := rfl
              rw [h5] at hz
              injection hz with hz
              exact hz.symm
            subst hze
            simp only [Value.slice.injEq] at he
            obtain ⟨rfl, -, rfl⟩ := he
            subst hA2
            have hcz : W.cell? a2 = some (.int .i64 (p : Nat)) := by simpa [Addr.add] using hcz
            obtain ⟨_, he, hcb, hb0, hb1⟩ := map_cell HBB.out HNB.out (k := p) hp38
            simp only [Option.some.injEq] at he
            subst he
            obtain ⟨_, he, hcx, hx0, hx1⟩ := map_cell HXB.out HNX.out (k := sk) hsk
            simp only [Option.some.injEq] at he
            subst he
            generalize b.getD p 0 = yb at *
            generalize x.getD sk 0 = yx at *
            obtain ⟨S, hS1, hS2⟩ : ∃ S : World → Prop, (∀ Wx, S Wx → Below W.heap.size W Wx) ∧ (∀ Wx, Below W.heap.size W Wx → S Wx) := ⟨fun Wx => Below W.heap.size W Wx, fun _ h => h, fun _ h => h⟩
            have HSE := Lib.hid (show ∀ x : GW S, Below W.heap.size W x.w from fun x => hS1 _ x.h)
            have HSI := Lib.hid (show S W.drew from hS2 _ (Below.refl W.heap.size W).drew)
            have y0 : ∀ x : GW S, x.w.cell? ⟨wc.heap.size, 0, none⟩ = some (.int .i64 q) := fun x => keepCell (HSE.out x) (HKP.out.cell 0)
            have y1 : ∀ x : GW S, x.w.cell? ⟨wc.heap.size, 1, none⟩ = some (.slice (some a2) [p].length cs) := fun x => keepCell (HSE.out x) (HKP.out.cell 1)
            have y2 : ∀ x : GW S, x.w.cell? ⟨wc.heap.size, 2, none⟩ = some (.int .i64 sk) := fun x => keepCell (HSE.out x) (HKP.out.cell 2)
            have y3 : ∀ x : GW S, x.w.cell? a2 = some (.int .i64 (p : Nat)) := fun x => keepCell (HSE.out x) hcz
            have y4 : ∀ x : GW S, x.w.cell? (adb.add p) = some (.int .i64 yb) := fun x => keepCell (HSE.out x) hcb
            have y5 : ∀ x : GW S, x.w.cell? (adx.add sk) = some (.int .i64 yx) := fun x => keepCell (HSE.out x) hcx
            have HN1 := Lib.hid (show ∀ x : GW S, Calls Tryz.prog 131 #[.int .i64 yb, .int .i64 yx] x.w (fun e w' => e = .returned (.int .i64 (yb * yx % 10007)) ∧ S w') from fun x => (s_l01Mul yb yx x.w (by omega) (by omega) (by omega) (by omega)).mono (by rintro e w7 ⟨rfl, rfl⟩; exact ⟨rfl, hS2 _ (HSE.out x)⟩))
            have hm1 := mod_num (yb * yx)
            generalize yb * yx % 10007 = m1 at *
            have HN2 := Lib.hid (show ∀ x : GW S, Calls Tryz.prog 131 #[.int .i64 q, .int .i64 m1] x.w (fun e w' => e = .returned (.int .i64 ((q : Int) * m1 % 10007)) ∧ S w') from fun x => (s_l01Mul (q : Int) m1 x.w (by omega) (by omega) (by omega) (by omega)).mono (by rintro e w7 ⟨rfl, rfl⟩; exact ⟨rfl, hS2 _ (HSE.out x)⟩))
            have hm2 := mod_num ((q : Int) * m1)
            generalize (q : Int) * m1 % 10007 = m2 at *
            have hsb := HS.out
            have HN3 := Lib.hid (show ∀ x : GW S, Calls Tryz.prog 132 #[.int .i64 sm, .int .i64 m2] x.w (fun e w' => e = .returned (.int .i64 ((sm + m2) % 10007)) ∧ S w') from fun x => (s_l01Add sm m2 x.w (by omega) (by omega) (by omega) (by omega)).mono (by rintro e w7 ⟨rfl, rfl⟩; exact ⟨rfl, hS2 _ (HSE.out x)⟩))
            have HM3 := Lib.hid (mod_num (sm + m2))
            generalize (sm + m2) % 10007 = m3 at *
            have hpp : (p : Int) < 38 := by omega
            have hss : (sk : Int) < 38 := by omega
            clear hm1 hm2 hsb hb0 hb1 hx0 hx1 hS1 hS2 hcz hcb hcx g2
            go_upto_region 11 with fail
            refine wp_region_grow S (by kernel_rfl) (by kernel_rfl) HSI.out (fun hne => ?_)
            repeat (go_big_quiet_step ((first
              | (go_at_call 131; first | with_reducible exact grow_call (HN1.out _) | with_reducible exact grow_call (HN2.out _))
              | (go_at_call 132; exact grow_call (HN3.out _)))))
            refine wpQuiet_nil ?_
            rintro _ ⟨xq, rfl⟩
            clear y0 y1 y2 y3 y4 y5
            go_wp2_with fail
            go_roundw
            case rel => exact ⟨j + 1, m3, by omega, by go_num, rfl, HM3.out, HBC.out.trans ((HBW.out.trans ((HSE.out xq).mono HBW.out.size)).mono HBC.out.size)⟩
            case measure => simp [intOf]; omega
          · have hd : ((cr.length : Int) == 1) = false := by simp; omega
            clear hc1
            go_wp2_with fail
            go_roundw
            case rel => exact ⟨j + 1, sm, by omega, by go_num, rfl, HS.out, HBC.out.trans (HBW.out.mono HBC.out.size)⟩
            case measure => simp [intOf]; omega
        · have hjj : ¬ ((j : Int) < (css.length : Int)) := by omega
          have HOX := Lib.hid (HO.out.below HBC.out)
          clear hb
          go_wp2_with (at_builtin; go_loud (refine wpList_app1 T_int HOX.out (by rw [ints_len, HU.out.1]; omega) (Nat.le_trans HBQ.out.size HBC.out.size) (by rfl) rfl (by rfl) (by rfl) (by rfl) ?_; intro v1 w6 hown1 hgr1; have HN := Lib.hid hown1; have HGR := Lib.hid hgr1; clear hown1 hgr1))
          go_roundw
          case rel => exact ⟨i + 1, n + 1, us ++ [sm], by omega, by go_num, by show n + 1 = i + 1 + 1; have := HNI.out; omega, by simpa [ints] using HN.out, HU.out.snoc HS.out, HGR.out.below (HBQ.out.trans (HBC.out.mono HBQ.out.size)) (Nat.le_trans HBQ.out.size HBC.out.size) HO.out.ge⟩
          case measure => simp [intOf]; omega
    · have hii : ¬ ((n : Int) < 38) := by omega
      have hin : n = 38 := by omega
      clear hni HNI hat
      subst hin
      go_wp2_with fail
      go_ret
      exact ⟨_, rfl, us, ownNl HU.out HO.out, HU.out, HBQ.out⟩
set_option maxHeartbeats 4000000 in
theorem s_l08Exp (w : World) (v vb : Value) (Bp : Nat) (b : List Int) (hC : C7 w Bp v) (h1 : Ints w vb b) (l1 : b.length = 38) (n1 : Nums b) :
    Calls Tryz.prog 183 #[v, vb] w fun e w' => ∃ r, e = .returned r ∧ ∃ us, OwnInts w' w.heap.size tI r us ∧ Nl 38 us ∧ Below w.heap.size w w' := by
  obtain ⟨A, c, rfl, -⟩ := hC.at_
  obtain ⟨Ab, cb, rfl, -, -, -⟩ := h1.open_
  have HC := Lib.hid hC
  have HB1 := Lib.hid h1
  have HL := Lib.hid (And.intro l1 n1)
  clear hC h1 l1 n1
  go_enter Tryz.func183, Tryz.ntmps183
  go_wp2_with (first
    | (go_at_call 184; (with_reducible refine (s_l07Unit w).mono ?_); go_loud (rintro e w1 ⟨x1, rfl, ho1, hb1⟩; have HO1 := Lib.hid ho1; have HB2 := Lib.hid hb1; clear ho1 hb1))
    | (go_at_call 184; (with_reducible refine (s_l07Unit w1).mono ?_); go_loud (rintro e w2 ⟨x2, rfl, ho2, hb2⟩; have HO2 := Lib.hid (ho2.mono HB2.out.size); have HO12 := Lib.hid (HO1.out.below hb2); have HB3 := Lib.hid (HB2.out.trans (hb2.mono HB2.out.size)); clear ho2 hb2)))
  go_loopw [5, 6, 7] (fun o x y wr => ∃ (k : Nat) (us zs : List Int), 1 ≤ k ∧ k ≤ 7 ∧ y = .int .i64 k ∧ OwnInts wr w.heap.size tI o us ∧ Hid (Nl 38 us) ∧ OwnInts wr w.heap.size tI x zs ∧ Hid (Nl 38 zs) ∧ Below w.heap.size w wr) (fun _ _ y _ => 7 - (intOf y).toNat)
  case atStart => exact ⟨1, unM, unM, by omega, by omega, rfl, HO12.out, ⟨unM_len, unM_nums⟩, HO2.out, ⟨unM_len, unM_nums⟩, HB3.out⟩
  case round =>
    obtain ⟨k, us, zs, hk1, hk7, rfl, ho, HU, hx, HZ, hb⟩ := hrel
    rename World => wq
    clear HO1 HO2 HO12 HB2 HB3
    have HO := Lib.hid ho
    have HX := Lib.hid hx
    have HB := Lib.hid hb
    clear ho hx hb
    by_cases hle : k ≤ 6
    · have hll : (k : Int) ≤ 6 := by omega
      go_wp2_with (first
        | (go_at_call 216; go_loud (refine (s_l08Act _ _ _ _ Bp b zs (HC.out.below HB.out) (HB1.out.below HB.out) HL.out.1 HL.out.2 HX.out.ints HZ.out.1 HZ.out.2).mono ?_; rintro e w3 ⟨x3, rfl, z3, ho3, hz3, hb3⟩; have HX3 := Lib.hid (ho3.mono HB.out.size); have HZ3 := Lib.hid hz3; have HO3 := Lib.hid (HO.out.below hb3); have HB3 := Lib.hid (HB.out.trans (hb3.mono HB.out.size)); clear ho3 hz3 hb3))
        | (go_at_call 218; go_loud (refine (s_l03Factorial _ k hle).mono ?_; rintro e w4 ⟨z4, rfl, hz4, rfl⟩; obtain ⟨q0, q1⟩ := hz4))
        | (go_at_call 149; go_loud (refine (s_l01FracZ _ _ _ (by omega) (by omega) q0 q1).mono ?_; rintro e w5 ⟨z5, rfl, hz5, rfl⟩; have HZ5 := Lib.hid hz5; clear hz5))
        | (go_at_call 217; go_loud (refine (s_l08Add _ _ _ us z3 z5 HO3.out.ints HU.out.1 HU.out.2 HX3.out.ints HZ3.out.1 HZ3.out.2 HZ5.out).mono ?_; rintro e w6 ⟨x6, rfl, z6, ho6, hz6, hb6⟩; have HO6 := Lib.hid (ho6.mono HB3.out.size); have HZ6 := Lib.hid hz6; have HX6 := Lib.hid (HX3.out.below hb6); have HB6 := Lib.hid (HB3.out.trans (hb6.mono HB3.out.size)); clear ho6 hz6 hb6)))
      go_roundw
      case rel => exact ⟨k + 1, z6, z3, by omega, by omega, by go_num, HO6.out, HZ6.out, HX6.out, HZ3.out, HB6.out⟩
      case measure => simp [intOf]; omega
    · have hll : ¬ ((k : Int) ≤ 6) := by omega
      go_wp2_with fail
      go_ret
      exact ⟨_, rfl, us, HO.out, HU.out, HB.out⟩
set_option maxHeartbeats 8000000 in
theorem s_l18Symmetric (w : World) (B p : Nat) (h : Src w B tSc p) :
    Calls Tryz.prog 136 #[at0 p] w fun e w' => ∃ g cap, e = .returned (.slice (some ⟨g, 0, none⟩) 38 cap) ∧ M38 w' w.heap.size g cap ∧ w.grownBy w' (some p) ∧ Src w' B tSc p := by
  have hpl := h.lt
  have HBp := Lib.hid h.ge
  have HS := Lib.hid h
  clear h
  go_enter Tryz.func136, Tryz.ntmps136
  go_wp2_with (first
    | (go_at_call 70; go_loud (refine (s_l03All _ 6 (by omega)).mono ?_; rintro e w1 ⟨x1, rfl, hx1, hb1⟩; rw [show allG treesN 6 = T6n from rfl] at hx1; obtain ⟨A1, c1, he1, -, -, -⟩ := hx1.rows.open_; rw [List.length_map, T6n_len] at he1; subst he1; have HX1 := Lib.hid hx1.or; have HG1 := Lib.hid (show w.grownBy w1 (some p) from gof hb1); have HS1 := Lib.hid (HS.out.below hb1); clear hx1 hb1))
    | (go_at_call 182; go_loud (refine (s_l07Draw _ B p 0 HS1.out (by omega)).mono ?_; rintro e w2 ⟨g, cap, rfl, hm, hg, hs⟩; have HM2 := Lib.hid hm; have HG2 := Lib.hid (gtrans HG1.out hg); have HS2 := Lib.hid hs; have hgw : w1.heap.size ≤ g := hm.ge; have hw1 : w.heap.size ≤ w1.heap.size := HG1.out.size; have HX2 := Lib.hid ((HX1.out.kept (chg_of hg) (.inr (by omega))).mono (Nat.le_refl _) hgw); clear hm hg hs))
    | (go_at_call 50; go_loud (refine (s_l01Next _ B p 4 HS2.out (by omega) (by omega)).mono ?_; rintro e w3 ⟨kd, rfl, x0, x1, hg, hs⟩; have HG3 := Lib.hid (gtrans HG2.out hg); have HS3 := Lib.hid hs; have HM3 := Lib.hid ((HM2.out.src (Nat.lt_of_lt_of_le hpl hw1) hg).mono hw1); have HX3 := Lib.hid (HX2.out.kept (chg_of hg) (.inr (by omega))); clear hg hs x0 x1)))
  have hgp : g ≠ p := by omega
  have hwg : w.heap.size ≤ g := by omega
  have hgB : B ≤ g := by have := HBp.out; omega
  clear HX1 HG1 HS1 HM2 HG2 HS2 HX2
  go_upto_region 3 with fail
  go_wp2_with fail
  go_loopw [6] (fun y wr => ∃ i : Nat, i ≤ 37 ∧ y = .int .i64 i ∧ M38 wr w.heap.size g cap ∧ OR wr w.heap.size g tL tI (.slice A1 37 c1) (T6n.map up) ∧ w.grownBy wr (some p) ∧ Src wr B tSc p) (fun y _ => 37 - (intOf y).toNat)
  case atStart => exact ⟨0, Nat.zero_le _, rfl, HM3.out, HX3.out, HG3.out, HS3.out⟩
  case round =>
    obtain ⟨i, hi, rfl, hm, hx, hg, hs⟩ := hrel
    rename World => wq
    clear HM3 HX3 HG3 HS3
    have HM := Lib.hid hm
    have HX := Lib.hid hx
    have HG := Lib.hid hg
    have HS := Lib.hid hs
    clear hm hx hg hs
    by_cases hlt : i < 37
    · have hii : (i : Int) < 37 := by omega
      obtain ⟨ad, At, ct, t, rfl, ht, hti, hcr⟩ := HX.out.rows.tree hlt
      have htm := List.mem_of_getElem? ht
      have hl6 := t6_len htm
      generalize t.length = l at hl6 hcr
      obtain ⟨⟨u0, hu0⟩, hfr, ho5, hg5⟩ := HM.out.set_ (k := i + 1) (by omega) (z := 0) (by omega)
      have HM5 := Lib.hid ho5
      have HG5 := Lib.hid (gthen HG.out hg5 (by rintro b ⟨⟩; exact hwg))
      have HS5 := Lib.hid (HS.out.kept hg5 (by intro e; injection e with e; exact hgp e) (by rintro b ⟨⟩; exact hgB))
      have HX5 := Lib.hid (HX.out.kept (chg_of hg5) (.inl (Nat.le_refl _)))
      have hi38 : (i : Int) + 1 < 38 := by omega
      clear ht hti htm ho5 hg5
      by_cases hk : kd = 1
      · have hkd : (kd == 1) = true := by simp [hk]
        clear hk
        obtain rfl | rfl | rfl | rfl | rfl | rfl : l = 1 ∨ l = 2 ∨ l = 3 ∨ l = 4 ∨ l = 5 ∨ l = 6 := by omega
        all_goals
          go_wp2_with fail
          go_roundw
          case rel => first | exact ⟨i + 1, by omega, by go_num, HM5.out, HX5.out, HG5.out, HS5.out⟩ | exact ⟨i + 1, by omega, by go_num, HM.out, HX.out, HG.out, HS.out⟩
          case measure => simp [intOf]; omega
      · have hkd : (kd == 1) = false := by simp [hk]
        clear hk
        obtain rfl | rfl | rfl | rfl | rfl | rfl : l = 1 ∨ l = 2 ∨ l = 3 ∨ l = 4 ∨ l = 5 ∨ l = 6 := by omega
        all_goals
          go_wp2_with fail
          go_roundw
          case rel => first | exact ⟨i + 1, by omega, by go_num, HM5.out, HX5.out, HG5.out, HS5.out⟩ | exact ⟨i + 1, by omega, by go_num, HM.out, HX.out, HG.out, HS.out⟩
          case measure => simp [intOf]; omega
    · have hii : ¬ ((i : Int) < 37) := by omega
      clear hi
      have HL7 := Lib.hid (fun W => s_l07Cuts W)
      by_cases hk : 0 < kd
      · have hkd : decide (0 < kd) = true := decide_eq_true hk
        obtain ⟨⟨u0, hu0⟩, hfr, ho5, hg5⟩ := HM.out.set_ (k := 1) (by omega) (z := 1) (by omega)
        have HM5 := Lib.hid ho5
        have HG5 := Lib.hid (gthen HG.out hg5 (by rintro b ⟨⟩; exact hwg))
        have HS5 := Lib.hid (HS.out.kept hg5 (by intro e; injection e with e; exact hgp e) (by rintro b ⟨⟩; exact hgB))
        clear ho5 hg5
        go_wp2_with (first
          | (go_at_call 78; go_loud (refine (HL7.out _).mono ?_; rintro e w6 ⟨x6, rfl, hc6, hb6⟩; have HC6 := Lib.hid hc6; obtain ⟨us, hus, hul, hun⟩ := HM5.out.below hb6; have HUS := Lib.hid hus.ints; have HUL := Lib.hid (And.intro hul hun); have HG6 := Lib.hid (gtrans HG5.out (gof hb6)); have HS6 := Lib.hid (HS5.out.below hb6); clear hc6 hb6 hus hul hun))
          | (go_at_call 183; go_loud (refine (s_l08Exp _ _ _ _ us HC6.out HUS.out HUL.out.1 HUL.out.2).mono ?_; rintro e w7 ⟨x7, rfl, zs, ho7, hz7, hb7⟩; obtain ⟨g7, cap7, rfl, hm7⟩ := M38.of ho7 hz7.1 hz7.2; have HM7 := Lib.hid (hm7.mono HG6.out.size); have HG7 := Lib.hid (gtrans HG6.out (gof hb7)); have HS7 := Lib.hid (HS6.out.below hb7); clear ho7 hz7 hb7 hm7)))
        go_ret
        exact ⟨_, _, rfl, HM7.out, HG7.out, HS7.out⟩
      · have hkd : decide (0 < kd) = false := decide_eq_false hk
        go_wp2_with (first
          | (go_at_call 78; go_loud (refine (HL7.out _).mono ?_; rintro e w6 ⟨x6, rfl, hc6, hb6⟩; have HC6 := Lib.hid hc6; obtain ⟨us, hus, hul, hun⟩ := HM.out.below hb6; have HUS := Lib.hid hus.ints; have HUL := Lib.hid (And.intro hul hun); have HG6 := Lib.hid (gtrans HG.out (gof hb6)); have HS6 := Lib.hid (HS.out.below hb6); clear hc6 hb6 hus hul hun))
          | (go_at_call 183; go_loud (refine (s_l08Exp _ _ _ _ us HC6.out HUS.out HUL.out.1 HUL.out.2).mono ?_; rintro e w7 ⟨x7, rfl, zs, ho7, hz7, hb7⟩; obtain ⟨g7, cap7, rfl, hm7⟩ := M38.of ho7 hz7.1 hz7.2; have HM7 := Lib.hid (hm7.mono HG6.out.size); have HG7 := Lib.hid (gtrans HG6.out (gof hb7)); have HS7 := Lib.hid (HS6.out.below hb7); clear ho7 hz7 hb7 hm7)))
        go_ret
        exact ⟨_, _, rfl, HM7.out, HG7.out, HS7.out⟩
set_option maxHeartbeats 4000000 in
theorem s_l18Draw (w : World) (B p : Nat) (h : Src w B tSc p) :
    Calls Tryz.prog 73 #[at0 p] w fun e w' => ∃ g d n m, e = .returned (.slice (some ⟨g, d, none⟩) n m) ∧ DrM w' w.heap.size g d n m ∧ w.grownBy w' (some p) ∧ Src w' B tSc p := by
  have HN := Lib.hid (s_l01Next w B p 2 h (by omega) (by omega))
  clear h
  go_enter Tryz.func73, Tryz.ntmps73
  go_wp2_with (first
    | (go_at_call 50; go_loud (refine HN.out.mono ?_; rintro e w1 ⟨x, rfl, x0, x1, hg, hs⟩; have HG1 := Lib.hid hg; have HS1 := Lib.hid hs; clear hg hs x0 x1))
    | (go_at_call 136; go_loud (refine (s_l18Symmetric _ B p HS1.out).mono ?_; rintro e w2 ⟨g, cap, rfl, hm, hg, hs⟩; have HD2 := Lib.hid (hm.dr.mono HG1.out.size); have HG2 := Lib.hid (gtrans HG1.out hg); have HS2 := Lib.hid hs; clear hm hg hs))
    | (go_at_call 137; go_loud (refine (s_l07DrawAny _ B p HS1.out).mono ?_; rintro e w2 ⟨g, d, n, m, rfl, hm, hg, hs⟩; have HD2 := Lib.hid (hm.mono HG1.out.size); have HG2 := Lib.hid (gtrans HG1.out hg); have HS2 := Lib.hid hs; clear hm hg hs)))
  · go_ret
    exact ⟨_, _, _, _, rfl, HD2.out, HG2.out, HS2.out⟩
  · go_ret
    exact ⟨_, _, _, _, rfl, HD2.out, HG2.out, HS2.out⟩
set_option maxHeartbeats 1000000 in
theorem s_DrawAdjointMap (w : World) (A : Option Addr) (N c : Nat) (hb : ByB w w.heap.size A N) (hN : N ≤ 4096) :
    Calls Tryz.prog 18 #[.slice A N c] w fun e w' => ∃ x, e = .returned x ∧ ∃ zs, Ints w' x zs ∧ Below w.heap.size w w' := by
  have HFR := Lib.hid (s_l01From w A N c hb hN)
  clear hb
  go_enter Tryz.func18, Tryz.ntmps18
  go_wp2_with (first
    | (go_at_call 49; go_loud (refine HFR.out.mono ?_; rintro e w1 ⟨p, rfl, hs1, hb1⟩; have HS1 := Lib.hid hs1; have HB1 := Lib.hid hb1; have hpg := hs1.ge; clear hs1 hb1))
    | (go_at_call 73; go_loud (refine (s_l18Draw _ _ p HS1.out).mono ?_; rintro e w2 ⟨g, d, n, m, rfl, hm, hg, hs⟩; have HD2 := Lib.hid hm; have HG2 := Lib.hid hg; clear hm hg hs)))
  go_ret
  obtain ⟨zs, hz⟩ := HD2.out.readable
  exact ⟨_, rfl, zs, hz, HB1.out.grown HG2.out HB1.out.size (fun k e => by injection e with e; omega)⟩
end Go.Proofs.YtdjhfeaimmpmhaaGreat

set_option maxRecDepth 100000
set_option linter.unusedVariables false
set_option linter.unusedSimpArgs false
namespace Go.Proofs.YtdjhfeaimmpmhaaGreat
open Go.RowKit

set_option maxHeartbeats 400000 in
theorem l_likeInts (w : World) (a b : Value) (xs ys : List Int) (ha : Ints w a xs) (hb : Ints w b ys) :
    Calls Tryz.prog 15 #[a, b] w fun e w' => e = .returned (.bool (decide (xs = ys))) ∧ ∃ n, w' = w.drewN n := by
  obtain ⟨A, c, rfl, h1, h2, h3⟩ := ha.open_
  obtain ⟨B, d, rfl, g1, g2, g3⟩ := hb.open_
  clear ha hb
  have H3 := Lib.hid h3
  have G3 := Lib.hid g3
  clear h3 g3
  by_cases hl : xs.length = ys.length
  · have hl' : (((xs.length : Nat) : Int) != ((ys.length : Nat) : Int)) = false := by simp [hl]
    have HL := Lib.hid hl
    clear hl
    have g4 : ys.length ≤ xs.length := by rw [HL.out]; omega
    have g5 : xs.length ≤ ys.length := by rw [HL.out]; omega
    go_enter Tryz.func15, Tryz.ntmps15
    go_wp2
    go_loopw [5] (fun i wr => ∃ k n : Nat, k ≤ xs.length ∧ i = .int .i64 k ∧ xs.take k = ys.take k ∧ wr = w.drewN n) (fun i _ => xs.length - (intOf i).toNat)
    case atStart => exact ⟨0, 0, Nat.zero_le _, rfl, rfl, rfl⟩
    case round =>
      obtain ⟨k, n, hk, rfl, ht, rfl⟩ := hrel
      have HT := Lib.hid ht
      clear ht
      by_cases hlt : k < xs.length
      · obtain ⟨ad, z, rfl, hz, hz2, hc⟩ := H3.out k hlt
        obtain ⟨ad', y, rfl, hy, hy2, hc'⟩ := G3.out k (by omega)
        have HZ := Lib.hid hz
        have HY := Lib.hid hy
        clear hz hy hz2 hy2
        go_wp2
        go_quiet (fail)
        go_wp2
        · have hne : (z != y) = true := by assumption
          go_ret
          refine ⟨ret_bool ?_, _, World.drewN_drewN _ _ _⟩
          symm
          simp only [decide_eq_false_iff_not]
          rintro rfl
          have := HZ.out.symm.trans HY.out
          simp at this hne
          exact hne this
        · have hne : (z != y) = false := by assumption
          go_roundw
          case rel => exact ⟨k + 1, _, by omega, by go_num, take_eq_succ HT.out HZ.out HY.out (by simpa using hne), rfl⟩
          case measure => simp [intOf]; omega
      · have : k = xs.length := by omega
        subst this
        go_wp2
        go_ret
        refine ⟨ret_bool ?_, _, rfl⟩
        have e := HT.out
        rw [List.take_length, List.take_of_length_le (by omega)] at e
        simp [e]
  · have hl' : (((xs.length : Nat) : Int) != ((ys.length : Nat) : Int)) = true := by simp; omega
    have HL := Lib.hid hl
    clear hl
    go_enter Tryz.func15, Tryz.ntmps15
    go_wp2
    go_ret
    refine ⟨ret_bool ?_, 0, rfl⟩
    have := HL.out
    symm
    simp only [decide_eq_false_iff_not]
    rintro rfl
    exact this rfl

set_option maxHeartbeats 400000 in
theorem l_big (w : World) (A : Option Addr) (n c : Nat) :
    Calls Tryz.prog 9 #[.slice A n c] w fun e w' => e = .returned (.bool (decide (4096 < n))) ∧ w = w' := by
  by_cases h : 4096 < n
  · have hd : (4096 : Int) < (n : Int) := by omega
    have HD := Lib.hid (show decide (4096 < n) = true by simp [h])
    clear h
    go_enter Tryz.func9, Tryz.ntmps9
    go_wp2_with fail
    go_ret
    exact ⟨ret_bool HD.out.symm, rfl⟩
  · have hd : ¬ ((4096 : Int) < (n : Int)) := by omega
    have HD := Lib.hid (show decide (4096 < n) = false by simp [h])
    clear h
    go_enter Tryz.func9, Tryz.ntmps9
    go_wp2_with fail
    go_ret
    exact ⟨ret_bool HD.out.symm, rfl⟩
end Go.Proofs.YtdjhfeaimmpmhaaGreat

set_option maxRecDepth 100000
set_option linter.unusedVariables false
set_option linter.unusedSimpArgs false
namespace Go.Proofs.YtdjhfeaimmpmhaaGreat
open Go.RowKit

end Go.Proofs.YtdjhfeaimmpmhaaGreat

