/- The law FnExactStepSums, walked: it returns true. -/
import Derived.Test.YtaielpgijggjgaaRows
import Derived.Test.YtaielpgijggjgaaMem
import Derived.Test.YtaielpgijggjgaaMem2
import Derived.Test.YtaielpgijggjgaaL
import Derived.Test.YtaielpgijggjgaaSteps
import Derived.WalkLawsBesides
set_option linter.unusedVariables false
set_option linter.unusedSimpArgs false
namespace Go.Proofs.Ytaielpgijggjgaa
open Go.RowKit

theorem stepSumsF_len' (zs : List Int) : (stepSumsF zs).length ≤ 4294967296 := by have := stepSumsF_len zs; omega

set_option maxRecDepth 100000 in
set_option maxHeartbeats 4000000 in
theorem law_FnExactStepSums (w : World) (v0 : Value) (zs0 : List Int) (ha0 : Ints w v0 zs0) :
    Calls Try.prog 4 #[v0] w fun e w' => e = .returned (.bool true) ∧ Below w.heap.size w w' := by
  have HA0 := Lib.hid ha0
  have ho0 := ha0.open_
  obtain ⟨A0, c0, rfl, l0, m0, _⟩ := ho0
  clear ha0
  by_cases hbig : (1048576 : Int) < (zs0.length : Int)
  · go_enter Try.func4, Try.ntmps4
    go_wp2_with fail
    go_ret
    exact ⟨rfl, Below.refl _ _⟩
  · have hsm : zs0.length ≤ 4294967296 := by omega
    have hFl := Lib.hid (stepSumsF_len' zs0)
    have B := Lib.hid (Below.refl w.heap.size w)
    go_enter Try.func4, Try.ntmps4
    go_wp2_with fail
    refine (l_toInt64S _ _ _ (HA0.out.below B.out) hsm).mono ?_
    rintro e w1 ⟨y1, rfl, h1, b1⟩
    have LT0 := Lib.hid B.out.size
    have NB := Lib.hid (B.out.trans (b1.mono B.out.size))
    clear B
    have B := NB
    clear NB
    have T0 := Lib.hid (OI.of h1)
    have ET0 := Lib.hid (Nat.le_refl w1.heap.size)
    clear h1 b1
    go_wp2_with fail
    refine (s_StepSums _ _ _ T0.out.ints).mono ?_
    rintro e w2 ⟨y2, rfl, h2, b2⟩
    have Q_T0_W := ET0
    have LW := Lib.hid B.out.size
    have NT0 := Lib.hid (T0.out.below b2)
    have NET0 := Lib.hid (Nat.le_trans ET0.out b2.size)
    clear T0 ET0
    have T0 := NT0
    have ET0 := NET0
    clear NT0 NET0
    have NB := Lib.hid (B.out.trans (b2.mono B.out.size))
    clear B
    have B := NB
    clear NB
    have W := Lib.hid (OI.of h2)
    have EW := Lib.hid (Nat.le_refl w2.heap.size)
    clear h2 b2
    go_wp2_with fail
    refine (l_toInt64S _ _ _ (HA0.out.below B.out) hsm).mono ?_
    rintro e w3 ⟨y3, rfl, h3, b3⟩
    have Q_T0_X0 := ET0
    have Q_W_X0 := EW
    have LX0 := Lib.hid B.out.size
    have NT0 := Lib.hid (T0.out.below b3)
    have NET0 := Lib.hid (Nat.le_trans ET0.out b3.size)
    clear T0 ET0
    have T0 := NT0
    have ET0 := NET0
    clear NT0 NET0
    have NW := Lib.hid (W.out.below b3)
    have NEW := Lib.hid (Nat.le_trans EW.out b3.size)
    clear W EW
    have W := NW
    have EW := NEW
    clear NW NEW
    have NB := Lib.hid (B.out.trans (b3.mono B.out.size))
    clear B
    have B := NB
    clear NB
    have X0 := Lib.hid (OI.of h3)
    have EX0 := Lib.hid (Nat.le_refl w3.heap.size)
    clear h3 b3
    go_wp2_with fail
    refine (i_StepSums _ _ _ X0.out.ints).mono ?_
    rintro e w4 ⟨y4, rfl, h4, b4⟩
    have Q_T0_G := ET0
    have Q_W_G := EW
    have Q_X0_G := EX0
    have LG := Lib.hid B.out.size
    have NT0 := Lib.hid (T0.out.below b4)
    have NET0 := Lib.hid (Nat.le_trans ET0.out b4.size)
    clear T0 ET0
    have T0 := NT0
    have ET0 := NET0
    clear NT0 NET0
    have NW := Lib.hid (W.out.below b4)
    have NEW := Lib.hid (Nat.le_trans EW.out b4.size)
    clear W EW
    have W := NW
    have EW := NEW
    clear NW NEW
    have NX0 := Lib.hid (X0.out.below b4)
    have NEX0 := Lib.hid (Nat.le_trans EX0.out b4.size)
    clear X0 EX0
    have X0 := NX0
    have EX0 := NEX0
    clear NX0 NEX0
    have NB := Lib.hid (B.out.trans (b4.mono B.out.size))
    clear B
    have B := NB
    clear NB
    have G := Lib.hid (OI.of h4)
    have EG := Lib.hid (Nat.le_refl w4.heap.size)
    clear h4 b4
    go_wp2_with fail
    refine (l_eqInt64S _ _ _ _ _ (G.out.ints) (W.out.ints)).mono ?_
    rintro e w5 ⟨rfl, n5_, rfl⟩
    have NT0 := Lib.hid (T0.out.drewN n5_)
    clear T0
    have T0 := NT0
    clear NT0
    have NET0 := Lib.hid (show _ ≤ (World.drewN _ n5_).heap.size from ET0.out)
    clear ET0
    have ET0 := NET0
    clear NET0
    have NW := Lib.hid (W.out.drewN n5_)
    clear W
    have W := NW
    clear NW
    have NEW := Lib.hid (show _ ≤ (World.drewN _ n5_).heap.size from EW.out)
    clear EW
    have EW := NEW
    clear NEW
    have NX0 := Lib.hid (X0.out.drewN n5_)
    clear X0
    have X0 := NX0
    clear NX0
    have NEX0 := Lib.hid (show _ ≤ (World.drewN _ n5_).heap.size from EX0.out)
    clear EX0
    have EX0 := NEX0
    clear NEX0
    have NG := Lib.hid (G.out.drewN n5_)
    clear G
    have G := NG
    clear NG
    have NEG := Lib.hid (show _ ≤ (World.drewN _ n5_).heap.size from EG.out)
    clear EG
    have EG := NEG
    clear NEG
    have NB := Lib.hid (below_drewN B.out n5_)
    clear B
    have B := NB
    clear NB
    go_wp2_with fail
    refine (l_toInt64S _ _ _ (HA0.out.below B.out) hsm).mono ?_
    rintro e w6 ⟨y6, rfl, h6, b6⟩
    have Q_T0_Y0 := ET0
    have Q_W_Y0 := EW
    have Q_X0_Y0 := EX0
    have Q_G_Y0 := EG
    have LY0 := Lib.hid B.out.size
    have NT0 := Lib.hid (T0.out.below b6)
    have NET0 := Lib.hid (Nat.le_trans ET0.out b6.size)
    clear T0 ET0
    have T0 := NT0
    have ET0 := NET0
    clear NT0 NET0
    have NW := Lib.hid (W.out.below b6)
    have NEW := Lib.hid (Nat.le_trans EW.out b6.size)
    clear W EW
    have W := NW
    have EW := NEW
    clear NW NEW
    have NX0 := Lib.hid (X0.out.below b6)
    have NEX0 := Lib.hid (Nat.le_trans EX0.out b6.size)
    clear X0 EX0
    have X0 := NX0
    have EX0 := NEX0
    clear NX0 NEX0
    have NG := Lib.hid (G.out.below b6)
    have NEG := Lib.hid (Nat.le_trans EG.out b6.size)
    clear G EG
    have G := NG
    have EG := NEG
    clear NG NEG
    have NB := Lib.hid (B.out.trans (b6.mono B.out.size))
    clear B
    have B := NB
    clear NB
    have Y0 := Lib.hid (OI.of h6)
    have EY0 := Lib.hid (Nat.le_refl w6.heap.size)
    clear h6 b6
    go_wp2_with fail
    refine (l_eqInt64S _ _ _ _ _ (X0.out.ints) (Y0.out.ints)).mono ?_
    rintro e w7 ⟨rfl, n7_, rfl⟩
    have NT0 := Lib.hid (T0.out.drewN n7_)
    clear T0
    have T0 := NT0
    clear NT0
    have NET0 := Lib.hid (show _ ≤ (World.drewN _ n7_).heap.size from ET0.out)
    clear ET0
    have ET0 := NET0
    clear NET0
    have NW := Lib.hid (W.out.drewN n7_)
    clear W
    have W := NW
    clear NW
    have NEW := Lib.hid (show _ ≤ (World.drewN _ n7_).heap.size from EW.out)
    clear EW
    have EW := NEW
    clear NEW
    have NX0 := Lib.hid (X0.out.drewN n7_)
    clear X0
    have X0 := NX0
    clear NX0
    have NEX0 := Lib.hid (show _ ≤ (World.drewN _ n7_).heap.size from EX0.out)
    clear EX0
    have EX0 := NEX0
    clear NEX0
    have NG := Lib.hid (G.out.drewN n7_)
    clear G
    have G := NG
    clear NG
    have NEG := Lib.hid (show _ ≤ (World.drewN _ n7_).heap.size from EG.out)
    clear EG
    have EG := NEG
    clear NEG
    have NY0 := Lib.hid (Y0.out.drewN n7_)
    clear Y0
    have Y0 := NY0
    clear NY0
    have NEY0 := Lib.hid (show _ ≤ (World.drewN _ n7_).heap.size from EY0.out)
    clear EY0
    have EY0 := NEY0
    clear NEY0
    have NB := Lib.hid (below_drewN B.out n7_)
    clear B
    have B := NB
    clear NB
    go_wp2_with fail
    refine (l_markInt64S _ _ _ _ 1 X0.out.1 (hsm) (by omega) (by omega)).mono ?_
    rintro e w8 ⟨rfl, h8, g8, s8⟩
    have hc8 := Chg.of_grown g8 (fun b hb => ⟨X0.out.1.1.ge b hb, X0.out.2 b hb⟩)
    have NT0 := Lib.hid (T0.out.kept hc8 (.inl Q_T0_X0.out))
    have NET0 := Lib.hid (Nat.le_trans ET0.out hc8.size)
    clear T0 ET0
    have T0 := NT0
    have ET0 := NET0
    clear NT0 NET0
    have NW := Lib.hid (W.out.kept hc8 (.inl Q_W_X0.out))
    have NEW := Lib.hid (Nat.le_trans EW.out hc8.size)
    clear W EW
    have W := NW
    have EW := NEW
    clear NW NEW
    have NG := Lib.hid (G.out.kept hc8 (.inr Q_X0_G.out))
    have NEG := Lib.hid (Nat.le_trans EG.out hc8.size)
    clear G EG
    have G := NG
    have EG := NEG
    clear NG NEG
    have NY0 := Lib.hid (Y0.out.kept hc8 (.inr Q_X0_Y0.out))
    have NEY0 := Lib.hid (Nat.le_trans EY0.out hc8.size)
    clear Y0 EY0
    have Y0 := NY0
    have EY0 := NEY0
    clear NY0 NEY0
    have NX0 := Lib.hid (show OI w8 _ _ _ _ _ from ⟨h8, X0.out.2⟩)
    have NEX0 := Lib.hid (Nat.le_trans EX0.out hc8.size)
    clear X0 EX0
    have X0 := NX0
    have EX0 := NEX0
    clear NX0 NEX0
    have NB := Lib.hid (hc8.below B.out LX0.out B.out.size)
    clear B
    have B := NB
    clear NB
    clear h8 g8 s8 hc8
    have hk0 : (0 : Int) ≤ 1 + (zs0.length : Int) := by omega
    go_wp2_with fail
    refine (l_eqInt64S _ _ _ _ _ (G.out.ints) (W.out.ints)).mono ?_
    rintro e w9 ⟨rfl, n9_, rfl⟩
    have NT0 := Lib.hid (T0.out.drewN n9_)
    clear T0
    have T0 := NT0
    clear NT0
    have NET0 := Lib.hid (show _ ≤ (World.drewN _ n9_).heap.size from ET0.out)
    clear ET0
    have ET0 := NET0
    clear NET0
    have NW := Lib.hid (W.out.drewN n9_)
    clear W
    have W := NW
    clear NW
    have NEW := Lib.hid (show _ ≤ (World.drewN _ n9_).heap.size from EW.out)
    clear EW
    have EW := NEW
    clear NEW
    have NX0 := Lib.hid (X0.out.drewN n9_)
    clear X0
    have X0 := NX0
    clear NX0
    have NEX0 := Lib.hid (show _ ≤ (World.drewN _ n9_).heap.size from EX0.out)
    clear EX0
    have EX0 := NEX0
    clear NEX0
    have NG := Lib.hid (G.out.drewN n9_)
    clear G
    have G := NG
    clear NG
    have NEG := Lib.hid (show _ ≤ (World.drewN _ n9_).heap.size from EG.out)
    clear EG
    have EG := NEG
    clear NEG
    have NY0 := Lib.hid (Y0.out.drewN n9_)
    clear Y0
    have Y0 := NY0
    clear NY0
    have NEY0 := Lib.hid (show _ ≤ (World.drewN _ n9_).heap.size from EY0.out)
    clear EY0
    have EY0 := NEY0
    clear NEY0
    have NB := Lib.hid (below_drewN B.out n9_)
    clear B
    have B := NB
    clear NB
    go_wp2_with fail
    refine (l_markInt64S _ _ _ _ 1 G.out.1 (hFl.out) (by omega) (by omega)).mono ?_
    rintro e w10 ⟨rfl, h10, g10, s10⟩
    have hc10 := Chg.of_grown g10 (fun b hb => ⟨G.out.1.1.ge b hb, G.out.2 b hb⟩)
    have NT0 := Lib.hid (T0.out.kept hc10 (.inl Q_T0_G.out))
    have NET0 := Lib.hid (Nat.le_trans ET0.out hc10.size)
    clear T0 ET0
    have T0 := NT0
    have ET0 := NET0
    clear NT0 NET0
    have NW := Lib.hid (W.out.kept hc10 (.inl Q_W_G.out))
    have NEW := Lib.hid (Nat.le_trans EW.out hc10.size)
    clear W EW
    have W := NW
    have EW := NEW
    clear NW NEW
    have NX0 := Lib.hid (X0.out.kept hc10 (.inl Q_X0_G.out))
    have NEX0 := Lib.hid (Nat.le_trans EX0.out hc10.size)
    clear X0 EX0
    have X0 := NX0
    have EX0 := NEX0
    clear NX0 NEX0
    have NY0 := Lib.hid (Y0.out.kept hc10 (.inr Q_G_Y0.out))
    have NEY0 := Lib.hid (Nat.le_trans EY0.out hc10.size)
    clear Y0 EY0
    have Y0 := NY0
    have EY0 := NEY0
    clear NY0 NEY0
    have NG := Lib.hid (show OI w10 _ _ _ _ _ from ⟨h10, G.out.2⟩)
    have NEG := Lib.hid (Nat.le_trans EG.out hc10.size)
    clear G EG
    have G := NG
    have EG := NEG
    clear NG NEG
    have NB := Lib.hid (hc10.below B.out LG.out B.out.size)
    clear B
    have B := NB
    clear NB
    clear h10 g10 s10 hc10
    go_wp2_with fail
    refine (l_heldInt64S _ _ _ 1 G.out.ints (hFl.out) (by omega) (by omega)).mono ?_
    rintro e w11 ⟨rfl, rfl⟩
    go_wp2_with fail
    refine (l_toInt64S _ _ _ (HA0.out.below B.out) hsm).mono ?_
    rintro e w12 ⟨y12, rfl, h12, b12⟩
    have Q_T0_Z0 := ET0
    have Q_W_Z0 := EW
    have Q_X0_Z0 := EX0
    have Q_G_Z0 := EG
    have Q_Y0_Z0 := EY0
    have LZ0 := Lib.hid B.out.size
    have NT0 := Lib.hid (T0.out.below b12)
    have NET0 := Lib.hid (Nat.le_trans ET0.out b12.size)
    clear T0 ET0
    have T0 := NT0
    have ET0 := NET0
    clear NT0 NET0
    have NW := Lib.hid (W.out.below b12)
    have NEW := Lib.hid (Nat.le_trans EW.out b12.size)
    clear W EW
    have W := NW
    have EW := NEW
    clear NW NEW
    have NX0 := Lib.hid (X0.out.below b12)
    have NEX0 := Lib.hid (Nat.le_trans EX0.out b12.size)
    clear X0 EX0
    have X0 := NX0
    have EX0 := NEX0
    clear NX0 NEX0
    have NG := Lib.hid (G.out.below b12)
    have NEG := Lib.hid (Nat.le_trans EG.out b12.size)
    clear G EG
    have G := NG
    have EG := NEG
    clear NG NEG
    have NY0 := Lib.hid (Y0.out.below b12)
    have NEY0 := Lib.hid (Nat.le_trans EY0.out b12.size)
    clear Y0 EY0
    have Y0 := NY0
    have EY0 := NEY0
    clear NY0 NEY0
    have NB := Lib.hid (B.out.trans (b12.mono B.out.size))
    clear B
    have B := NB
    clear NB
    have Z0 := Lib.hid (OI.of h12)
    have EZ0 := Lib.hid (Nat.le_refl w12.heap.size)
    clear h12 b12
    go_wp2_with fail
    refine (i_StepSums _ _ _ Z0.out.ints).mono ?_
    rintro e w13 ⟨y13, rfl, h13, b13⟩
    have Q_T0_H := ET0
    have Q_W_H := EW
    have Q_X0_H := EX0
    have Q_G_H := EG
    have Q_Y0_H := EY0
    have Q_Z0_H := EZ0
    have LH := Lib.hid B.out.size
    have NT0 := Lib.hid (T0.out.below b13)
    have NET0 := Lib.hid (Nat.le_trans ET0.out b13.size)
    clear T0 ET0
    have T0 := NT0
    have ET0 := NET0
    clear NT0 NET0
    have NW := Lib.hid (W.out.below b13)
    have NEW := Lib.hid (Nat.le_trans EW.out b13.size)
    clear W EW
    have W := NW
    have EW := NEW
    clear NW NEW
    have NX0 := Lib.hid (X0.out.below b13)
    have NEX0 := Lib.hid (Nat.le_trans EX0.out b13.size)
    clear X0 EX0
    have X0 := NX0
    have EX0 := NEX0
    clear NX0 NEX0
    have NG := Lib.hid (G.out.below b13)
    have NEG := Lib.hid (Nat.le_trans EG.out b13.size)
    clear G EG
    have G := NG
    have EG := NEG
    clear NG NEG
    have NY0 := Lib.hid (Y0.out.below b13)
    have NEY0 := Lib.hid (Nat.le_trans EY0.out b13.size)
    clear Y0 EY0
    have Y0 := NY0
    have EY0 := NEY0
    clear NY0 NEY0
    have NZ0 := Lib.hid (Z0.out.below b13)
    have NEZ0 := Lib.hid (Nat.le_trans EZ0.out b13.size)
    clear Z0 EZ0
    have Z0 := NZ0
    have EZ0 := NEZ0
    clear NZ0 NEZ0
    have NB := Lib.hid (B.out.trans (b13.mono B.out.size))
    clear B
    have B := NB
    clear NB
    have H := Lib.hid (OI.of h13)
    have EH := Lib.hid (Nat.le_refl w13.heap.size)
    clear h13 b13
    go_wp2_with fail
    refine (l_eqInt64S _ _ _ _ _ (H.out.ints) (W.out.ints)).mono ?_
    rintro e w14 ⟨rfl, n14_, rfl⟩
    have NT0 := Lib.hid (T0.out.drewN n14_)
    clear T0
    have T0 := NT0
    clear NT0
    have NET0 := Lib.hid (show _ ≤ (World.drewN _ n14_).heap.size from ET0.out)
    clear ET0
    have ET0 := NET0
    clear NET0
    have NW := Lib.hid (W.out.drewN n14_)
    clear W
    have W := NW
    clear NW
    have NEW := Lib.hid (show _ ≤ (World.drewN _ n14_).heap.size from EW.out)
    clear EW
    have EW := NEW
    clear NEW
    have NX0 := Lib.hid (X0.out.drewN n14_)
    clear X0
    have X0 := NX0
    clear NX0
    have NEX0 := Lib.hid (show _ ≤ (World.drewN _ n14_).heap.size from EX0.out)
    clear EX0
    have EX0 := NEX0
    clear NEX0
    have NG := Lib.hid (G.out.drewN n14_)
    clear G
    have G := NG
    clear NG
    have NEG := Lib.hid (show _ ≤ (World.drewN _ n14_).heap.size from EG.out)
    clear EG
    have EG := NEG
    clear NEG
    have NY0 := Lib.hid (Y0.out.drewN n14_)
    clear Y0
    have Y0 := NY0
    clear NY0
    have NEY0 := Lib.hid (show _ ≤ (World.drewN _ n14_).heap.size from EY0.out)
    clear EY0
    have EY0 := NEY0
    clear NEY0
    have NZ0 := Lib.hid (Z0.out.drewN n14_)
    clear Z0
    have Z0 := NZ0
    clear NZ0
    have NEZ0 := Lib.hid (show _ ≤ (World.drewN _ n14_).heap.size from EZ0.out)
    clear EZ0
    have EZ0 := NEZ0
    clear NEZ0
    have NH := Lib.hid (H.out.drewN n14_)
    clear H
    have H := NH
    clear NH
    have NEH := Lib.hid (show _ ≤ (World.drewN _ n14_).heap.size from EH.out)
    clear EH
    have EH := NEH
    clear NEH
    have NB := Lib.hid (below_drewN B.out n14_)
    clear B
    have B := NB
    clear NB
    go_wp2_with fail
    refine (l_heldInt64S _ _ _ 1 G.out.ints (hFl.out) (by omega) (by omega)).mono ?_
    rintro e w15 ⟨rfl, rfl⟩
    go_wp2_with fail
    go_ret
    exact ⟨rfl, B.out⟩

end Go.Proofs.Ytaielpgijggjgaa
