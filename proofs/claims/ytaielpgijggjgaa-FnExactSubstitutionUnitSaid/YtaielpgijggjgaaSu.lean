/- FnExactSubstitutionUnit is true: the program's SubstitutionUnit and the reference's return the same list, each in memory of its own. No condition. -/
import Derived.Test.YtaielpgijggjgaaRows
import Derived.Test.YtaielpgijggjgaaMem
import Derived.Test.YtaielpgijggjgaaL
import Derived.WalkLawsBesides
set_option linter.unusedVariables false
set_option linter.unusedSimpArgs false
namespace Go.Proofs.Ytaielpgijggjgaa
open Go.RowKit

def unitL : List Int := 0 :: 1 :: List.replicate 36 0
theorem unitL_in : ∀ z ∈ unitL, In64 z := by
  intro z hz
  simp [unitL] at hz
  unfold In64
  omega
theorem unitL_set : (List.replicate 38 (Value.int .i64 0)).set 1 (.int .i64 1) = ints unitL := rfl

set_option maxHeartbeats 400000 in
theorem i_SubstitutionUnit (w : World) : Calls Try.prog 10 #[] w fun e w' => ∃ v, e = .returned v ∧ OwnInts w' w.heap.size 2 v unitL ∧ Below w.heap.size w w' := by
  go_enter Try.func10, Try.ntmps10
  go_wp2_with (at_make; refine wpList_mk rfl _ _ _ rfl _ _ _ T_int 38 _ rfl rfl rfl (by omega) _ ?_; intro w1 hown hb hs; obtain ⟨u0, hu0, hcg, hfg, hg2, hg1, hown', hgr⟩ := hown.storeAt (k := 1) (by simp) (.int .i64 1); rw [unitL_set] at hown'; have HO := Lib.hid hown'; have HB := Lib.hid hb; clear hown hown' hgr hu0 hg1 hb)
  go_ret
  exact ⟨_, rfl, ⟨HO.out, unitL_in⟩, HB.out.setCell (Nat.le_refl _) _⟩

set_option maxHeartbeats 400000 in
theorem s_SubstitutionUnit (w : World) : Calls Try.prog 9 #[] w fun e w' => ∃ v, e = .returned v ∧ OwnInts w' w.heap.size 2 v unitL ∧ Below w.heap.size w w' := by
  go_enter Try.func9, Try.ntmps9
  go_wp2_with (at_make; refine wpList_mk rfl _ _ _ rfl _ _ _ T_int 38 _ rfl rfl rfl (by omega) _ ?_; intro w1 hown hb hs; obtain ⟨u0, hu0, hcg, hfg, hg2, hg1, hown', hgr⟩ := hown.storeAt (k := 1) (by simp) (.int .i64 1); rw [unitL_set] at hown'; have HO := Lib.hid hown'; have HB := Lib.hid hb; clear hown hown' hgr hu0 hg1 hb)
  go_ret
  exact ⟨_, rfl, ⟨HO.out, unitL_in⟩, HB.out.setCell (Nat.le_refl _) _⟩


set_option maxHeartbeats 1000000 in
theorem law_SubstitutionUnit (w : World) : Calls Try.prog 3 #[] w fun e w' => e = .returned (.bool true) ∧ Below w.heap.size w w' := by
  have t1 : decide (unitL = unitL) = true := by simp
  go_enter Try.func3, Try.ntmps3
  go_wp2_with fail
  refine (s_SubstitutionUnit _).mono ?_
  rintro e w1 ⟨ws, rfl, hws, hb1⟩
  have WS := Lib.hid hws
  have B1 := Lib.hid hb1
  clear hws hb1
  go_wp2_with fail
  refine (i_SubstitutionUnit _).mono ?_
  rintro e w2 ⟨g0, rfl, hg0, hb2⟩
  have WS2 := Lib.hid (WS.out.below hb2)
  have AP := Lib.hid (apart_of_lt WS.out.1.lt hg0.1.ge)
  have G0 := Lib.hid hg0
  have B2 := Lib.hid (B1.out.trans (hb2.mono B1.out.size))
  clear hg0 hb2
  go_wp2_with fail
  refine (l_eqInt64S _ _ _ _ _ G0.out.ints WS2.out.ints).mono ?_
  rintro e w3 ⟨rfl, n3, rfl⟩
  go_wp2_with fail
  refine (l_markInt64S (w2.drewN n3) _ _ _ 1 G0.out (by decide) (by omega) (by omega)).mono ?_
  rintro e w4 ⟨rfl, hg4, hgr4, hsz4⟩
  have G4 := Lib.hid hg4
  have WS4 := Lib.hid (OwnInts.kept (w := w2.drewN n3) WS2.out hgr4 AP.out)
  have B4 := Lib.hid ((below_drewN B2.out n3).grown hgr4 (B2.out.size) (fun b hb => Nat.le_trans B1.out.size (G0.out.1.ge b hb)))
  clear hg4 hgr4 hsz4
  go_wp2_with fail
  refine (l_heldInt64S _ _ _ 1 G4.out.ints (by decide) (by omega) (by omega)).mono ?_
  rintro e w5 ⟨rfl, rfl⟩
  go_wp2_with fail
  refine (i_SubstitutionUnit _).mono ?_
  rintro e w6 ⟨h0, rfl, hh0, hb6⟩
  have G6 := Lib.hid (G4.out.below hb6)
  have WS6 := Lib.hid (WS4.out.below hb6)
  have B6 := Lib.hid (B4.out.trans (hb6.mono B4.out.size))
  have H0 := Lib.hid hh0
  clear hh0 hb6
  go_wp2_with fail
  refine (l_eqInt64S _ _ _ _ _ H0.out.ints WS6.out.ints).mono ?_
  rintro e w7 ⟨rfl, n7, rfl⟩
  go_wp2_with fail
  refine (l_heldInt64S (w6.drewN n7) _ _ 1 G6.out.ints (by decide) (by omega) (by omega)).mono ?_
  rintro e w8 ⟨rfl, rfl⟩
  go_wp2_with fail
  go_ret
  exact ⟨rfl, below_drewN B6.out n7⟩
end Go.Proofs.Ytaielpgijggjgaa
