/- The law FnExactLongJumpSteps, walked: it returns true. -/
import Derived.Test.YtaielpgijggjgaaRows
import Derived.Test.YtaielpgijggjgaaMem
import Derived.Test.YtaielpgijggjgaaMem2
import Derived.Test.YtaielpgijggjgaaL
import Derived.Test.YtaielpgijggjgaaJump2
import Derived.WalkLawsBesides
set_option linter.unusedVariables false
set_option linter.unusedSimpArgs false
namespace Go.Proofs.Ytaielpgijggjgaa
open Go.RowKit

set_option maxRecDepth 100000 in
set_option maxHeartbeats 4000000 in
theorem law_FnExactLongJumpSteps (w : World) (n0 : Int) (ha0 : In64 n0) :
    Calls Try.prog 8 #[.int .i64 n0] w fun e w' => e = .returned (.bool true) ∧ Below w.heap.size w w' := by
  have hFl := Lib.hid (jumpF2_len n0)
  have B := Lib.hid (Below.refl w.heap.size w)
  go_enter Try.func8, Try.ntmps8
  go_wp2_with fail
  refine (s_LongJumpSteps _ _ ha0).mono ?_
  rintro e w1 ⟨y1, rfl, h1, b1⟩
  have LW := Lib.hid B.out.size
  have NB := Lib.hid (B.out.trans (b1.mono B.out.size))
  clear B
  have B := NB
  clear NB
  have W := Lib.hid (OI.of h1)
  have EW := Lib.hid (Nat.le_refl w1.heap.size)
  clear h1 b1
  go_wp2_with fail
  refine (i_LongJumpSteps _ _ ha0).mono ?_
  rintro e w2 ⟨y2, rfl, h2, b2⟩
  have Q_W_G := EW
  have LG := Lib.hid B.out.size
  have NW := Lib.hid (W.out.below b2)
  have NEW := Lib.hid (Nat.le_trans EW.out b2.size)
  clear W EW
  have W := NW
  have EW := NEW
  clear NW NEW
  have NB := Lib.hid (B.out.trans (b2.mono B.out.size))
  clear B
  have B := NB
  clear NB
  have G := Lib.hid (OI.of h2)
  have EG := Lib.hid (Nat.le_refl w2.heap.size)
  clear h2 b2
  go_wp2_with fail
  refine (l_eqInt64S _ _ _ _ _ (G.out.ints) (W.out.ints)).mono ?_
  rintro e w3 ⟨rfl, n3_, rfl⟩
  have NW := Lib.hid (W.out.drewN n3_)
  clear W
  have W := NW
  clear NW
  have NEW := Lib.hid (show _ ≤ (World.drewN _ n3_).heap.size from EW.out)
  clear EW
  have EW := NEW
  clear NEW
  have NG := Lib.hid (G.out.drewN n3_)
  clear G
  have G := NG
  clear NG
  have NEG := Lib.hid (show _ ≤ (World.drewN _ n3_).heap.size from EG.out)
  clear EG
  have EG := NEG
  clear NEG
  have NB := Lib.hid (below_drewN B.out n3_)
  clear B
  have B := NB
  clear NB
  go_wp2_with fail
  refine (l_markInt64S _ _ _ _ 1 G.out.1 (hFl.out) (by omega) (by omega)).mono ?_
  rintro e w4 ⟨rfl, h4, g4, s4⟩
  have hc4 := Chg.of_grown g4 (fun b hb => ⟨G.out.1.1.ge b hb, G.out.2 b hb⟩)
  have NW := Lib.hid (W.out.kept hc4 (.inl Q_W_G.out))
  have NEW := Lib.hid (Nat.le_trans EW.out hc4.size)
  clear W EW
  have W := NW
  have EW := NEW
  clear NW NEW
  have NG := Lib.hid (show OI w4 _ _ _ _ _ from ⟨h4, G.out.2⟩)
  have NEG := Lib.hid (Nat.le_trans EG.out hc4.size)
  clear G EG
  have G := NG
  have EG := NEG
  clear NG NEG
  have NB := Lib.hid (hc4.below B.out LG.out B.out.size)
  clear B
  have B := NB
  clear NB
  clear h4 g4 s4 hc4
  go_wp2_with fail
  refine (l_heldInt64S _ _ _ 1 G.out.ints (hFl.out) (by omega) (by omega)).mono ?_
  rintro e w5 ⟨rfl, rfl⟩
  go_wp2_with fail
  refine (i_LongJumpSteps _ _ ha0).mono ?_
  rintro e w6 ⟨y6, rfl, h6, b6⟩
  have Q_W_H := EW
  have Q_G_H := EG
  have LH := Lib.hid B.out.size
  have NW := Lib.hid (W.out.below b6)
  have NEW := Lib.hid (Nat.le_trans EW.out b6.size)
  clear W EW
  have W := NW
  have EW := NEW
  clear NW NEW
  have NG := Lib.hid (G.out.below b6)
  have NEG := Lib.hid (Nat.le_trans EG.out b6.size)
  clear G EG
  have G := NG
  have EG := NEG
  clear NG NEG
  have NB := Lib.hid (B.out.trans (b6.mono B.out.size))
  clear B
  have B := NB
  clear NB
  have H := Lib.hid (OI.of h6)
  have EH := Lib.hid (Nat.le_refl w6.heap.size)
  clear h6 b6
  go_wp2_with fail
  refine (l_eqInt64S _ _ _ _ _ (H.out.ints) (W.out.ints)).mono ?_
  rintro e w7 ⟨rfl, n7_, rfl⟩
  have NW := Lib.hid (W.out.drewN n7_)
  clear W
  have W := NW
  clear NW
  have NEW := Lib.hid (show _ ≤ (World.drewN _ n7_).heap.size from EW.out)
  clear EW
  have EW := NEW
  clear NEW
  have NG := Lib.hid (G.out.drewN n7_)
  clear G
  have G := NG
  clear NG
  have NEG := Lib.hid (show _ ≤ (World.drewN _ n7_).heap.size from EG.out)
  clear EG
  have EG := NEG
  clear NEG
  have NH := Lib.hid (H.out.drewN n7_)
  clear H
  have H := NH
  clear NH
  have NEH := Lib.hid (show _ ≤ (World.drewN _ n7_).heap.size from EH.out)
  clear EH
  have EH := NEH
  clear NEH
  have NB := Lib.hid (below_drewN B.out n7_)
  clear B
  have B := NB
  clear NB
  go_wp2_with fail
  refine (l_heldInt64S _ _ _ 1 G.out.ints (hFl.out) (by omega) (by omega)).mono ?_
  rintro e w8 ⟨rfl, rfl⟩
  go_wp2_with fail
  go_ret
  exact ⟨rfl, B.out⟩
end Go.Proofs.Ytaielpgijggjgaa
