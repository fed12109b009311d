/- Walks: adjointMap, AdjointMap, IsSymmetricMap, ConjugateMap of the program and of the reference. | Walks: repeated convolutions with scaled maps: composedSteps, l18Compose, refined, l07Power. | Walks: SymmetrizeMap of the program and of the reference. | Walks: Convolve of the program at a character and a map, conv9 of the laws, and the law FnSubstitutedProducts. | The law FnAdjointMaps, walked. -/
import Derived.Test.YtdjhfeaimmpmhaaGreatZm35
import Derived.Test.YtdjhfeaimmpmhaaGreatZm33
import Derived.Test.YtdjhfeaimmpmhaaGreatZm22
import Derived.Test.YtdjhfeaimmpmhaaGreatZm25
import Derived.Test.YtdjhfeaimmpmhaaGreatZm9
import Derived.Test.YtdjhfeaimmpmhaaGreatZm21
import Derived.Test.YtdjhfeaimmpmhaaGreatZm11
import Derived.Test.YtdjhfeaimmpmhaaGreatZm34
import Derived.Test.YtdjhfeaimmpmhaaGreatZm23
set_option maxRecDepth 100000
set_option linter.unusedVariables false
set_option linter.unusedSimpArgs false
namespace Go.Proofs.YtdjhfeaimmpmhaaGreat
open Go.RowKit

def adjZ (a : List Int) : List Int := invL (scZ a 10006) 37
theorem adjZ_len (a : List Int) : (adjZ a).length = 38 := invL_len _ _
theorem adjZ_nums (a : List Int) : Nums (adjZ a) := invL_nums _ _
set_option maxHeartbeats 8000000 in
theorem i_adjointMap (w : World) (vp va : Value) (Af : Option Addr) (cf Bp : Nat) (a : List Int) (hR : Rows w (.slice Af 37 cf) (T6n.map up)) (hP : FrC w Bp vp) (h1 : Ints w va a) (l1 : a.length = 38) (n1 : Nums a) :
    Calls Tryz.prog 75 #[.agg #[.slice Af 37 cf, vp], va] w fun e w' => ∃ x, e = .returned x ∧ OwnInts w' w.heap.size tI x (adjZ a) ∧ Below w.heap.size w w' := by
  obtain ⟨Ay, cy, rfl, -⟩ := hP.at_
  obtain ⟨Aa, ca, rfl, -, -, -⟩ := h1.open_
  rw [l1] at h1 ⊢
  obtain ⟨W, hW⟩ : ∃ W, W = w.alloc (.cells #[.slice Af 37 cf, .slice Ay 37 cy] tFo) := ⟨_, rfl⟩
  have hbw : Below w.heap.size w W := by rw [hW]; exact below1 w _
  have HBW := Lib.hid hbw
  have HKF := Lib.hid (show Blk W w.heap.size tFo #[.slice Af 37 cf, .slice Ay 37 cy] from by rw [hW]; exact Blk.new _ _ _)
  have HRW := Lib.hid (hR.below hbw)
  have HFW := Lib.hid (hP.below hbw)
  have HAW := Lib.hid (h1.below hbw)
  have HC1 := Lib.hid (show ∀ X, Below W.heap.size W X → Calls Tryz.prog 81 #[.agg #[.slice Af 37 cf, .slice Ay 37 cy], .slice Aa 38 ca, .int .i64 10006] X (fun e w' => ∃ x, e = .returned x ∧ OwnInts w' W.heap.size tI x (scZ a 10006) ∧ Below W.heap.size W w') from fun X hX => by
    have h := i_scaleMap X (.slice Af 37 cf) (.slice Aa 38 ca) Ay 37 cy a 10006 (HRW.out.below hX) (HAW.out.below hX) l1 n1 (by omega) (by omega)
    exact h.mono (by rintro e w5 ⟨r5, rfl, ho5, hb5⟩; exact ⟨r5, rfl, ho5.mono hX.size, hX.trans (hb5.mono hX.size)⟩))
  have HC2 := Lib.hid (show ∀ X r, Below W.heap.size W X → Ints X r (scZ a 10006) → Calls Tryz.prog 109 #[.agg #[.slice Af 37 cf, .slice Ay 37 cy], r] X (fun e w' => ∃ x, e = .returned x ∧ OwnInts w' X.heap.size tI x (adjZ a) ∧ Below X.heap.size X w') from fun X r hX hr => i_inverseMap X (.slice Ay 37 cy) r Af cf _ (scZ a 10006) (HFW.out.below hX) hr (scZ_len _ _) (scZ_nums _ _))
  clear hR hP h1 l1 n1 hbw
  go_enter Tryz.func75, Tryz.ntmps75
  go_upto_region 1 with fail
  rw [← hW]
  clear hW
  have k1 : W.cell? ⟨w.heap.size, 0, none⟩ = some (.slice Af 37 cf) := HKF.out.cell 0
  have k2 : W.cell? ⟨w.heap.size, 1, none⟩ = some (.slice Ay 37 cy) := HKF.out.cell 1
  go_region_law (first
    | (go_simp; go_at_call 81; (with_reducible refine ((HC1.out _ ?_).mono ?_)); (first | exact Below.refl _ _ | exact (Below.refl _ _).drew); go_loud (rintro e w5 ⟨r5, rfl, ho5, hb5⟩; have HO5 := Lib.hid ho5; have HB5 := Lib.hid hb5; have m1 : w5.cell? ⟨w.heap.size, 0, none⟩ = some (.slice Af 37 cf) := (HKF.out.below hb5 HKF.out.lt).cell 0; have m2 : w5.cell? ⟨w.heap.size, 1, none⟩ = some (.slice Ay 37 cy) := (HKF.out.below hb5 HKF.out.lt).cell 1; clear ho5 hb5))
    | (go_simp; go_at_call 109; (with_reducible refine ((HC2.out _ _ ?_ ?_).mono ?_)); (first | exact HB5.out | exact HB5.out.drew); (exact HO5.out.ints); go_loud (rintro e w6 ⟨r6, rfl, ho6, hb6'⟩; have HB6 := Lib.hid (show Below w5.heap.size w5 w6 from by exact hb6'); have HO6 := Lib.hid (show OwnInts w6 w5.heap.size tI r6 (adjZ a) from by exact ho6); clear ho6 hb6')))
  all_goals
    go_wp2_with fail
    go_ret
    exact ⟨_, rfl, HO6.out.mono (Nat.le_trans HBW.out.size HB5.out.size), (HBW.out.trans (HB5.out.mono HBW.out.size)).trans (HB6.out.mono (Nat.le_trans HBW.out.size HB5.out.size))⟩
set_option maxHeartbeats 4000000 in
theorem s_l18Adjoint (w : World) (v va : Value) (Bp : Nat) (a : List Int) (hC : C7 w Bp v) (h1 : Ints w va a) (l1 : a.length = 38) (n1 : Nums a) (ha0 : a.getD 0 0 = 1) :
    Calls Tryz.prog 77 #[v, va] w fun e w' => ∃ x, e = .returned x ∧ OwnInts w' w.heap.size tI x (adjZ a) ∧ Below w.heap.size w w' := by
  obtain ⟨A, c, rfl, -⟩ := hC.at_
  obtain ⟨Aa, ca, rfl, -, -, -⟩ := h1.open_
  rw [l1] at h1 ⊢
  have h0 : (scZ a 10006).getD 0 0 = 1 := by rw [scZ_head n1]; exact ha0
  have HR := Lib.hid (show refL (scZ a 10006) 37 = adjZ a from (inv_eq h0).symm)
  have HS := Lib.hid (s_l07Scale w (.slice Aa 38 ca) a 10006 h1 l1 n1 (by omega) (by omega))
  have HI := Lib.hid (fun X r (hX : C7 X Bp (.slice A 38 c)) (hr : Ints X r (scZ a 10006)) => s_l07Inverse X (.slice A 38 c) r Bp (scZ a 10006) hX hr (scZ_len _ _) (scZ_nums _ _) h0)
  have HC := Lib.hid hC
  clear hC h1 l1 n1 ha0 h0
  go_enter Tryz.func77, Tryz.ntmps77
  go_wp2_with (first
    | (go_at_call 139; go_loud (refine HS.out.mono ?_; rintro e w1 ⟨x1, rfl, ho1, hb1⟩; have HO1 := Lib.hid ho1; have HB1 := Lib.hid hb1; clear ho1 hb1))
    | (go_at_call 138; go_loud (refine (HI.out _ _ (HC.out.below HB1.out) HO1.out.ints).mono ?_; rintro e w3 ⟨x3, rfl, ho3, hb3⟩; have HO3 := Lib.hid ho3; have HB3 := Lib.hid hb3; clear ho3 hb3)))
  go_ret
  refine ⟨_, rfl, ?_, HB1.out.trans (HB3.out.mono HB1.out.size)⟩
  have h := HO3.out.mono HB1.out.size
  rw [HR.out] at h
  exact h
/-! ### AdjointMap -/
def adjR (a : List Int) : List Int := if chrC a = 0 then adjZ a else []
set_option maxHeartbeats 4000000 in
theorem i_AdjointMap (w : World) (v : Value) (a : List Int) (h1 : Ints w v a) :
    Calls Tryz.prog 19 #[v] w fun e w' => ∃ x, e = .returned (.tuple #[x, .int .i64 (chrC a)]) ∧ OwnInts w' w.heap.size tI x (adjR a) ∧ Below w.heap.size w w' := by
  have HCH := Lib.hid (i_checkCharacter w v a h1)
  have HA := Lib.hid h1
  obtain ⟨A, c, rfl, -, -, -⟩ := h1.open_
  clear h1
  by_cases hc : chrC a = 0
  · obtain ⟨hm, -⟩ := chr_of hc
    obtain ⟨l1, n1⟩ := mapB_true hm
    have HR := Lib.hid (show adjR a = adjZ a from if_pos hc)
    rw [hc] at HCH ⊢
    have HMM := Lib.hid (fun W Af cf Bp vp (hR : Rows W (.slice Af 37 cf) (T6n.map up)) (hP : FrC W Bp vp) (g : Ints W (.slice A a.length c) a) => i_adjointMap W vp _ Af cf Bp a hR hP g l1 n1)
    clear hc hm l1 n1
    go_enter Tryz.func19, Tryz.ntmps19
    go_wp2_with (first
      | (go_at_call 74; refine HCH.out.mono ?_; rintro e w0 ⟨rfl, rfl⟩)
      | (go_at_call 65; go_loud (refine (i_newForms _).mono ?_; rintro e w1 ⟨f, rfl, hf, hb1⟩; obtain ⟨Af, cf, Ay, cy, rfl, hrf, hfc⟩ := hf.openC; have HRF := Lib.hid hrf; have HFC := Lib.hid hfc; have HB1 := Lib.hid hb1; clear hf hrf hfc hb1))
      | (go_at_call 75; go_loud (refine (HMM.out _ _ _ _ _ HRF.out HFC.out (HA.out.below HB1.out)).mono ?_; rintro e w3 ⟨x3, rfl, ho3, hb3⟩; have HO3 := Lib.hid ho3; have HB3 := Lib.hid hb3; clear ho3 hb3)))
    go_ret2
    rw [HR.out]
    exact ⟨_, rfl, HO3.out.mono HB1.out.size, HB1.out.trans (HB3.out.mono HB1.out.size)⟩
  · have HR := Lib.hid (show adjR a = [] from if_neg hc)
    rw [HR.out]
    have hd : (chrC a != 0) = true := by simp [hc]
    generalize chrC a = cc at *
    clear hc HR
    go_enter Tryz.func19, Tryz.ntmps19
    go_wp2_with (go_at_call 74; refine HCH.out.mono ?_; rintro e w0 ⟨rfl, rfl⟩)
    go_ret2
    exact ⟨_, rfl, OwnInts.nil _ _ _, Below.refl _ _⟩
set_option maxHeartbeats 4000000 in
theorem s_AdjointMap (w : World) (v : Value) (a : List Int) (h1 : Ints w v a) :
    Calls Tryz.prog 20 #[v] w fun e w' => ∃ x, e = .returned (.tuple #[x, .int .i64 (chrC a)]) ∧ OwnInts w' w.heap.size tI x (adjR a) ∧ Below w.heap.size w w' := by
  have HCH := Lib.hid (s_l07Code1 w v a h1)
  have HA := Lib.hid h1
  obtain ⟨A, c, rfl, -, -, -⟩ := h1.open_
  clear h1
  by_cases hc : chrC a = 0
  · obtain ⟨hm, h0⟩ := chr_of hc
    obtain ⟨l1, n1⟩ := mapB_true hm
    have HR := Lib.hid (show adjR a = adjZ a from if_pos hc)
    rw [hc] at HCH ⊢
    have HMM := Lib.hid (fun W Bp v (hC : C7 W Bp v) (g : Ints W (.slice A a.length c) a) => s_l18Adjoint W v _ Bp a hC g l1 n1 h0)
    clear hc hm l1 n1 h0
    go_enter Tryz.func20, Tryz.ntmps20
    go_wp2_with (first
      | (go_at_call 76; refine HCH.out.mono ?_; rintro e w0 ⟨rfl, rfl⟩)
      | (go_at_call 78; go_loud (refine (s_l07Cuts _).mono ?_; rintro e w1 ⟨x1, rfl, hc1, hb1⟩; have HX1 := Lib.hid hc1; have HB1 := Lib.hid hb1; clear hc1 hb1))
      | (go_at_call 77; go_loud (refine (HMM.out _ _ _ HX1.out (HA.out.below HB1.out)).mono ?_; rintro e w3 ⟨x3, rfl, ho3, hb3⟩; have HO3 := Lib.hid ho3; have HB3 := Lib.hid hb3; clear ho3 hb3)))
    go_ret2
    rw [HR.out]
    exact ⟨_, rfl, HO3.out.mono HB1.out.size, HB1.out.trans (HB3.out.mono HB1.out.size)⟩
  · have HR := Lib.hid (show adjR a = [] from if_neg hc)
    rw [HR.out]
    have hd : (chrC a != 0) = true := by simp [hc]
    generalize chrC a = cc at *
    clear hc HR
    go_enter Tryz.func20, Tryz.ntmps20
    go_wp2_with (go_at_call 76; refine HCH.out.mono ?_; rintro e w0 ⟨rfl, rfl⟩)
    go_ret2
    exact ⟨_, rfl, OwnInts.nil _ _ _, Below.refl _ _⟩
/-! ### IsSymmetricMap -/
def ismB (a : List Int) : Bool := if chrC a = 0 then decide (adjZ a = a) else false
set_option maxHeartbeats 4000000 in
theorem i_IsSymmetricMap (w : World) (v : Value) (a : List Int) (h1 : Ints w v a) :
    Calls Tryz.prog 25 #[v] w fun e w' => e = .returned (.tuple #[.bool (ismB a), .int .i64 (chrC a)]) ∧ Below w.heap.size w w' := by
  have HCH := Lib.hid (i_checkCharacter w v a h1)
  have HA := Lib.hid h1
  obtain ⟨A, c, rfl, -, -, -⟩ := h1.open_
  clear h1
  by_cases hc : chrC a = 0
  · obtain ⟨hm, -⟩ := chr_of hc
    obtain ⟨l1, n1⟩ := mapB_true hm
    have HR := Lib.hid (show ismB a = decide (adjZ a = a) from if_pos hc)
    rw [hc] at HCH ⊢
    have HMM := Lib.hid (fun W Af cf Bp vp (hR : Rows W (.slice Af 37 cf) (T6n.map up)) (hP : FrC W Bp vp) (g : Ints W (.slice A a.length c) a) => i_adjointMap W vp _ Af cf Bp a hR hP g l1 n1)
    clear hc hm l1 n1
    go_enter Tryz.func25, Tryz.ntmps25
    go_wp2_with (first
      | (go_at_call 74; refine HCH.out.mono ?_; rintro e w0 ⟨rfl, rfl⟩)
      | (go_at_call 65; go_loud (refine (i_newForms _).mono ?_; rintro e w1 ⟨f, rfl, hf, hb1⟩; obtain ⟨Af, cf, Ay, cy, rfl, hrf, hfc⟩ := hf.openC; have HRF := Lib.hid hrf; have HFC := Lib.hid hfc; have HB1 := Lib.hid hb1; clear hf hrf hfc hb1))
      | (go_at_call 75; go_loud (refine (HMM.out _ _ _ _ _ HRF.out HFC.out (HA.out.below HB1.out)).mono ?_; rintro e w3 ⟨x3, rfl, ho3, hb3⟩; have HO3 := Lib.hid ho3; have HB3 := Lib.hid (HB1.out.trans (hb3.mono HB1.out.size)); clear ho3 hb3))
      | (go_at_call 83; go_loud (refine (lib_Equal _ _ _ _ _ HO3.out.ints (HA.out.below HB3.out)).mono ?_; rintro e w4 ⟨rfl, n4, hw4⟩; have HB4 := Lib.hid (show Below w.heap.size w w4 from by rw [hw4]; exact below_drewN HB3.out n4); clear hw4)))
    go_ret2
    rw [HR.out]
    exact ⟨rfl, HB4.out⟩
  · have HR := Lib.hid (show ismB a = false from if_neg hc)
    rw [HR.out]
    have hd : (chrC a != 0) = true := by simp [hc]
    generalize chrC a = cc at *
    clear hc HR
    go_enter Tryz.func25, Tryz.ntmps25
    go_wp2_with (go_at_call 74; refine HCH.out.mono ?_; rintro e w0 ⟨rfl, rfl⟩)
    go_ret2
    exact ⟨rfl, Below.refl _ _⟩
end Go.Proofs.YtdjhfeaimmpmhaaGreat

set_option maxRecDepth 100000
set_option linter.unusedVariables false
set_option linter.unusedSimpArgs false
namespace Go.Proofs.YtdjhfeaimmpmhaaGreat
open Go.RowKit

end Go.Proofs.YtdjhfeaimmpmhaaGreat

set_option maxRecDepth 100000
set_option linter.unusedVariables false
set_option linter.unusedSimpArgs false
namespace Go.Proofs.YtdjhfeaimmpmhaaGreat
open Go.RowKit

noncomputable def hfN : Int := pw 2 10005
theorem hfN_bd : 0 ≤ hfN ∧ hfN ≤ 10006 := pw_bd _ _
noncomputable def symRM (a : List Int) : List Int := if chrC a = 0 then cvZ (scZ a hfN) (scZ (adjZ a) hfN) else []
set_option maxHeartbeats 16000000 in
theorem i_SymmetrizeMap (w : World) (v : Value) (a : List Int) (h1 : Ints w v a) :
    Calls Tryz.prog 21 #[v] w fun e w' => ∃ x, e = .returned (.tuple #[x, .int .i64 (chrC a)]) ∧ OwnInts w' w.heap.size tI x (symRM a) ∧ Below w.heap.size w w' := by
  have HCH := Lib.hid (i_checkCharacter w v a h1)
  have HA := Lib.hid h1
  obtain ⟨A, c, rfl, -, -, -⟩ := h1.open_
  clear h1
  by_cases hc : chrC a = 0
  · obtain ⟨hm, -⟩ := chr_of hc
    obtain ⟨l1, n1⟩ := mapB_true hm
    have n1 : Nums a := n1
    obtain ⟨hf0, hf1⟩ := hfN_bd
    have HR := Lib.hid (show symRM a = cvZ (scZ a hfN) (scZ (adjZ a) hfN) from if_pos hc)
    rw [hc] at HCH ⊢
    rw [l1] at HA HCH ⊢
    have HIV := Lib.hid (fun X => show Calls Tryz.prog 79 #[.int .i64 2] X fun e w' => e = .returned (.int .i64 hfN) ∧ X = w' from i_inv 2 X (by omega) (by omega))
    obtain ⟨y, hy⟩ : ∃ y, y = hfN := ⟨_, rfl⟩
    rw [← hy] at hf0 hf1 HR HIV
    have HS1 := Lib.hid (fun X vp B m d r (b : List Int) (hR : Rows X vp (T6n.map up)) (g : Ints X r b) (gl : b.length = 38) (gn : Nums b) => i_scaleMap X vp r B m d b y hR g gl gn hf0 hf1)
    have HAD := Lib.hid (fun W Af cf Bp vp (hR : Rows W (.slice Af 37 cf) (T6n.map up)) (hP : FrC W Bp vp) (g : Ints W (.slice A 38 c) a) => i_adjointMap W vp _ Af cf Bp a hR hP g l1 n1)
    have HLA := Lib.hid l1
    have HNA := Lib.hid n1
    clear hc hm l1 n1 hf0 hf1 hy
    go_enter Tryz.func21, Tryz.ntmps21
    go_upto_region 5 with (first
      | (go_at_call 74; refine HCH.out.mono ?_; rintro e w0 ⟨rfl, rfl⟩)
      | (go_at_call 79; refine (HIV.out _).mono ?_; rintro e w0 ⟨rfl, rfl⟩)
      | (go_at_call 65; go_loud (refine (i_newForms _).mono ?_; rintro e w1 ⟨f, rfl, hf, hb1⟩; obtain ⟨Af, cf, Ay, cy, rfl, hrf, hfc⟩ := hf.openC; have HRF := Lib.hid hrf; have HFC := Lib.hid hfc; have HB1W := Lib.hid hb1; clear hf hrf hfc hb1)))
    obtain ⟨W, hW⟩ : ∃ W, W = w1.alloc (.cells #[.slice Af 37 cf, .slice Ay 37 cy] tFo) := ⟨_, rfl⟩
    have hbw : Below w1.heap.size w1 W := by rw [hW]; exact below1 w1 _
    have HBW := Lib.hid (HB1W.out.trans (hbw.mono HB1W.out.size))
    have HKF := Lib.hid (show Blk W w1.heap.size tFo #[.slice Af 37 cf, .slice Ay 37 cy] from by rw [hW]; exact Blk.new _ _ _)
    have HRW := Lib.hid (HRF.out.below hbw)
    have HFW := Lib.hid (HFC.out.below hbw)
    have HAW := Lib.hid (HA.out.below HBW.out)
    rw [← hW]
    clear hW hbw
    have QQ := Lib.hid (show ∀ X, Below W.heap.size W X → X.cell? ⟨w1.heap.size, 0, none⟩ = some (.slice Af 37 cf) ∧ X.cell? ⟨w1.heap.size, 1, none⟩ = some (.slice Ay 37 cy) from fun X hX => ⟨(HKF.out.below hX HKF.out.lt).cell 0, (HKF.out.below hX HKF.out.lt).cell 1⟩)
    refine AnyT.begin (k := 11) (S := fun b w' => (w'.cell? ⟨w1.heap.size, 0, none⟩ = some (.slice Af 37 cf) ∧ w'.cell? ⟨w1.heap.size, 1, none⟩ = some (.slice Ay 37 cy)) ∧ True) (by kernel_rfl) ?_
    have hS : (fun (b : Bool) (w' : World) => (w'.cell? ⟨w1.heap.size, 0, none⟩ = some (.slice Af 37 cf) ∧ w'.cell? ⟨w1.heap.size, 1, none⟩ = some (.slice Ay 37 cy)) ∧ True) false W.drew := ⟨QQ.out _ (Below.refl _ _).drew, trivial⟩
    refine AnyT.take0 (i := 0) (v := ?_) rfl (by kernel_rfl) (by kernel_rfl) (by kernel_rfl) (by decide) (fun _ _ _ h => h) hS (Or.inl ⟨by first | kernel_rfl | rfl, ?_⟩) ?_
    rotate_left
    · rintro w' ⟨b, hw'⟩; obtain ⟨hw1, -⟩ := hw'; (try (obtain ⟨hw1, hw2⟩ := hw1)); (try (obtain ⟨hw2, hw3⟩ := hw2)); (try (obtain ⟨hw3, hw4⟩ := hw3)); go_simp; try with_reducible rfl
    try simp only [Act.put, List.setIfInBounds_toArray, List.set_cons_zero, List.set_cons_succ]
    refine AnyT.take0 (i := 1) (v := ?_) rfl (by kernel_rfl) (by kernel_rfl) (by kernel_rfl) (by decide) (fun _ _ _ h => h) hS (Or.inl ⟨by first | kernel_rfl | rfl, ?_⟩) ?_
    rotate_left
    · rintro w' ⟨b, hw'⟩; obtain ⟨hw1, -⟩ := hw'; (try (obtain ⟨hw1, hw2⟩ := hw1)); (try (obtain ⟨hw2, hw3⟩ := hw2)); (try (obtain ⟨hw3, hw4⟩ := hw3)); go_simp; try with_reducible rfl
    try simp only [Act.put, List.setIfInBounds_toArray, List.set_cons_zero, List.set_cons_succ]
    refine AnyT.take0 (i := 2) (v := ?_) rfl (by kernel_rfl) (by kernel_rfl) (by kernel_rfl) (by decide) (fun _ _ _ h => h) hS (Or.inl ⟨by first | kernel_rfl | rfl, ?_⟩) ?_
    rotate_left
    · intro w' hw'; clear hw'; go_simp; try with_reducible rfl
    try simp only [Act.put, List.setIfInBounds_toArray, List.set_cons_zero, List.set_cons_succ]
    refine AnyT.take0 (i := 3) (v := ?_) rfl (by kernel_rfl) (by kernel_rfl) (by kernel_rfl) (by decide) (fun _ _ _ h => h) hS (Or.inl ⟨by first | kernel_rfl | rfl, ?_⟩) ?_
    rotate_left
    · intro w' hw'; clear hw'; go_simp; try with_reducible rfl
    try simp only [Act.put, List.setIfInBounds_toArray, List.set_cons_zero, List.set_cons_succ]
    refine AnyT.take0 (i := 5) (v := ?_) rfl (by kernel_rfl) (by kernel_rfl) (by kernel_rfl) (by decide) (fun _ _ _ h => h) hS (Or.inl ⟨by first | kernel_rfl | rfl, ?_⟩) ?_
    rotate_left
    · rintro w' ⟨b, hw'⟩; obtain ⟨hw1, -⟩ := hw'; (try (obtain ⟨hw1, hw2⟩ := hw1)); (try (obtain ⟨hw2, hw3⟩ := hw2)); (try (obtain ⟨hw3, hw4⟩ := hw3)); go_simp; try with_reducible rfl
    try simp only [Act.put, List.setIfInBounds_toArray, List.set_cons_zero, List.set_cons_succ]
    refine AnyT.take0 (i := 6) (v := ?_) rfl (by kernel_rfl) (by kernel_rfl) (by kernel_rfl) (by decide) (fun _ _ _ h => h) hS (Or.inl ⟨by first | kernel_rfl | rfl, ?_⟩) ?_
    rotate_left
    · rintro w' ⟨b, hw'⟩; obtain ⟨hw1, -⟩ := hw'; (try (obtain ⟨hw1, hw2⟩ := hw1)); (try (obtain ⟨hw2, hw3⟩ := hw2)); (try (obtain ⟨hw3, hw4⟩ := hw3)); go_simp; try with_reducible rfl
    try simp only [Act.put, List.setIfInBounds_toArray, List.set_cons_zero, List.set_cons_succ]
    refine AnyT.take0 (i := 7) (v := ?_) rfl (by kernel_rfl) (by kernel_rfl) (by kernel_rfl) (by decide) (fun _ _ _ h => h) hS (Or.inl ⟨by first | kernel_rfl | rfl, ?_⟩) ?_
    rotate_left
    · intro w' hw'; clear hw'; go_simp; try with_reducible rfl
    try simp only [Act.put, List.setIfInBounds_toArray, List.set_cons_zero, List.set_cons_succ]
    refine AnyT.take0 (i := 9) (v := ?_) rfl (by kernel_rfl) (by kernel_rfl) (by kernel_rfl) (by decide) (fun _ _ _ h => h) hS (Or.inl ⟨by first | kernel_rfl | rfl, ?_⟩) ?_
    rotate_left
    · intro w' hw'; clear hw'; go_simp; try with_reducible rfl
    try simp only [Act.put, List.setIfInBounds_toArray, List.set_cons_zero, List.set_cons_succ]
    refine AnyT.go (rs := [4]) (by kernel_rfl) (by simp) ?_
    refine AllT.cons rfl (fun K hK => ?_) AllT.nil
    go_simp
    refine (HS1.out W.drew (.slice Af 37 cf) Ay 37 cy _ a (HRW.out.below (Below.refl _ _).drew) (HAW.out.below (Below.refl _ _).drew) HLA.out HNA.out).mono ?_
    rintro e w5 ⟨u5, rfl, ho5, hb5'⟩
    obtain ⟨A5, c5, he5, -, -, -⟩ := ho5.ints.open_
    rw [scZ_len] at he5
    subst he5
    have hb5 : Below W.heap.size W w5 := by exact below_of_drew hb5'
    have HU5 := Lib.hid (show Ints w5 (.slice A5 38 c5) (scZ a y) from ho5.ints)
    have HB5 := Lib.hid hb5
    refine hK.out _ _ ⟨QQ.out _ hb5, trivial⟩ (fun hS => ?_)
    clear hK ho5 hb5' hb5
    try simp only [Act.put, List.setIfInBounds_toArray, List.set_cons_zero, List.set_cons_succ]
    refine AnyT.go (rs := [8]) (by kernel_rfl) (by simp) ?_
    refine AllT.cons rfl (fun K hK => ?_) AllT.nil
    go_simp
    refine (HAD.out w5 Af cf _ (.slice Ay 37 cy) (HRW.out.below HB5.out) (HFW.out.below HB5.out) (HAW.out.below HB5.out)).mono ?_
    rintro e w6 ⟨u6, rfl, ho6, hb6⟩
    obtain ⟨A6, c6, he6, -, -, -⟩ := ho6.ints.open_
    rw [adjZ_len] at he6
    subst he6
    have HU6 := Lib.hid (show Ints w6 (.slice A6 38 c6) (adjZ a) from ho6.ints)
    have HB6 := Lib.hid (HB5.out.trans (hb6.mono HB5.out.size))
    have HV5 := Lib.hid (HU5.out.below hb6)
    refine hK.out _ _ ⟨QQ.out _ HB6.out, trivial⟩ (fun hS => ?_)
    clear hK ho6 hb6
    try simp only [Act.put, List.setIfInBounds_toArray, List.set_cons_zero, List.set_cons_succ]
    refine AnyT.go (rs := [10]) (by kernel_rfl) (by simp) ?_
    refine AllT.cons rfl (fun K hK => ?_) AllT.nil
    go_simp
    refine (HS1.out w6 (.slice Af 37 cf) Ay 37 cy _ (adjZ a) (HRW.out.below HB6.out) HU6.out (adjZ_len _) (adjZ_nums _)).mono ?_
    rintro e w7 ⟨u7, rfl, ho7, hb7⟩
    obtain ⟨A7, c7, he7, -, -, -⟩ := ho7.ints.open_
    rw [scZ_len] at he7
    subst he7
    have HU7 := Lib.hid (show Ints w7 (.slice A7 38 c7) (scZ (adjZ a) y) from ho7.ints)
    have HB7 := Lib.hid (HB6.out.trans (hb7.mono HB6.out.size))
    have HW5 := Lib.hid (HV5.out.below hb7)
    refine hK.out _ _ ⟨QQ.out _ HB7.out, trivial⟩ (fun hS => ?_)
    clear hK ho7 hb7
    try simp only [Act.put, List.setIfInBounds_toArray, List.set_cons_zero, List.set_cons_succ]
    refine AnyT.go (rs := [11]) (by kernel_rfl) (by simp) ?_
    refine AllT.cons rfl (fun K hK => ?_) AllT.nil
    go_simp
    refine (i_convolve w7 (.slice Ay 37 cy) (.slice A5 38 c5) (.slice A7 38 c7) Af cf _ (scZ a y) (scZ (adjZ a) y) (HFW.out.below HB7.out) HW5.out (scZ_len _ _) (scZ_nums _ _) HU7.out (scZ_len _ _) (scZ_nums _ _)).mono ?_
    rintro e w8 ⟨u8, rfl, ho8, hb8⟩
    have HU8 := Lib.hid (ho8.mono (Nat.le_trans HBW.out.size HB7.out.size))
    have HB8 := Lib.hid (HB7.out.trans (hb8.mono HB7.out.size))
    refine hK.out _ _ ⟨QQ.out _ HB8.out, trivial⟩ (fun hS => ?_)
    clear hK ho8 hb8
    try simp only [Act.put, List.setIfInBounds_toArray, List.set_cons_zero, List.set_cons_succ]
    refine AnyT.take0 (i := 12) (v := ?_) rfl (by kernel_rfl) (by kernel_rfl) (by kernel_rfl) (by decide) (fun _ _ _ h => h) hS (Or.inl ⟨by first | kernel_rfl | rfl, ?_⟩) ?_
    rotate_left
    · intro w' hw'; clear hw'; go_simp; try with_reducible rfl
    try simp only [Act.put, List.setIfInBounds_toArray, List.set_cons_zero, List.set_cons_succ]
    refine AnyT.take0 (i := 13) (v := ?_) rfl (by kernel_rfl) (by kernel_rfl) (by kernel_rfl) (by decide) (fun _ _ _ h => h) hS (Or.inl ⟨by first | kernel_rfl | rfl, ?_⟩) ?_
    rotate_left
    · intro w' hw'; clear hw'; go_simp; try with_reducible rfl
    try simp only [Act.put, List.setIfInBounds_toArray, List.set_cons_zero, List.set_cons_succ]
    clear hS
    refine AnyT.done (by kernel_rfl) ?_ _
    go_wp2_with fail
    go_ret2
    rw [HR.out]
    exact ⟨_, rfl, HU8.out, HBW.out.trans (HB8.out.mono HBW.out.size)⟩
  · have HR := Lib.hid (show symRM a = [] from if_neg hc)
    rw [HR.out]
    have hd : (chrC a != 0) = true := by simp [hc]
    generalize chrC a = cc at *
    clear hc HR
    go_enter Tryz.func21, Tryz.ntmps21
    go_wp2_with (go_at_call 74; refine HCH.out.mono ?_; rintro e w0 ⟨rfl, rfl⟩)
    go_ret2
    exact ⟨_, rfl, OwnInts.nil _ _ _, Below.refl _ _⟩
end Go.Proofs.YtdjhfeaimmpmhaaGreat

set_option maxRecDepth 100000
set_option linter.unusedVariables false
set_option linter.unusedSimpArgs false
namespace Go.Proofs.YtdjhfeaimmpmhaaGreat
open Go.RowKit

theorem mapB_of {a : List Int} (l : a.length = 38) (n : Nums a) : mapB a = true := by
  unfold mapB
  rw [Bool.and_eq_true]
  exact ⟨by simp [l], nums_iff.2 n⟩
set_option maxHeartbeats 4000000 in
theorem i_Convolve0 (w : World) (va vb : Value) (a b : List Int) (h1 : Ints w va a) (h2 : Ints w vb b) (l1 : a.length = 38) (n1 : Nums a) (a0 : a.getD 0 0 = 1) (l2 : b.length = 38) (n2 : Nums b) :
    Calls Tryz.prog 43 #[va, vb] w fun e w' => ∃ x, e = .returned (.tuple #[x, .int .i64 0]) ∧ OwnInts w' w.heap.size tI x (cvZ a b) ∧ Below w.heap.size w w' := by
  have HM1 := Lib.hid (i_IsMap w va a h1)
  have HM2 := Lib.hid (i_IsMap w vb b h2)
  rw [mapB_of l1 n1] at HM1
  rw [mapB_of l2 n2] at HM2
  have HA := Lib.hid h1
  have HB := Lib.hid h2
  obtain ⟨ad, ca, rfl, hc⟩ : ∃ ad ca, va = .slice (some ad) 38 ca ∧ w.cell? ad = some (.int .i64 1) := by
    obtain ⟨Aa, ca, rfl, -, -, -⟩ := h1.open_
    obtain ⟨ad, rfl, hc⟩ := map_head h1 (mapB_of l1 n1)
    rw [a0] at hc
    exact ⟨ad, ca, by rw [l1], hc⟩
  obtain ⟨Ab, cb, rfl, -, -, -⟩ := h2.open_
  rw [l2] at h2 HB HM2 ⊢
  have HMM := Lib.hid (fun W Af cf Bp vp (hP : FrC W Bp vp) (g : Ints W (.slice (some ad) 38 ca) a) (g2 : Ints W (.slice Ab 38 cb) b) => i_convolve W vp _ _ Af cf Bp a b hP g l1 n1 g2 l2 n2)
  clear h1 h2 l1 n1 a0 l2 n2
  go_enter Tryz.func43, Tryz.ntmps43
  go_wp2_with (first
    | (go_at_call 85; (with_reducible refine HM1.out.mono ?_); rintro e w' ⟨rfl, rfl⟩)
    | (go_at_call 85; (with_reducible refine HM2.out.mono ?_); rintro e w' ⟨rfl, rfl⟩)
    | (go_at_call 65; go_loud (refine (i_newForms _).mono ?_; rintro e w1 ⟨f, rfl, hf, hb1⟩; obtain ⟨Af, cf, Ay, cy, rfl, hrf, hfc⟩ := hf.openC; have HRF := Lib.hid hrf; have HFC := Lib.hid hfc; have HB1 := Lib.hid hb1; clear hf hrf hfc hb1))
    | (go_at_call 80; go_loud (refine (HMM.out _ _ _ _ _ HFC.out (HA.out.below HB1.out) (HB.out.below HB1.out)).mono ?_; rintro e w3 ⟨x3, rfl, ho3, hb3⟩; have HO3 := Lib.hid ho3; have HB3 := Lib.hid hb3; clear ho3 hb3)))
  go_ret2
  exact ⟨_, rfl, HO3.out.mono HB1.out.size, HB1.out.trans (HB3.out.mono HB1.out.size)⟩
set_option maxHeartbeats 1000000 in
theorem l_conv9 (w : World) (va vb : Value) (a b : List Int) (h1 : Ints w va a) (h2 : Ints w vb b) (l1 : a.length = 38) (n1 : Nums a) (a0 : a.getD 0 0 = 1) (l2 : b.length = 38) (n2 : Nums b) :
    Calls Tryz.prog 24 #[va, vb] w fun e w' => ∃ x, e = .returned x ∧ OwnInts w' w.heap.size tI x (cvZ a b) ∧ Below w.heap.size w w' := by
  have HC := Lib.hid (i_Convolve0 w va vb a b h1 h2 l1 n1 a0 l2 n2)
  clear h1 h2 l1 n1 a0 l2 n2
  go_enter Tryz.func24, Tryz.ntmps24
  go_wp2_with (go_at_call 43; refine HC.out.mono ?_; rintro e w3 ⟨x3, rfl, ho3, hb3⟩; have HO3 := Lib.hid ho3; have HB3 := Lib.hid hb3; clear ho3 hb3)
  go_ret
  exact ⟨_, rfl, HO3.out, HB3.out⟩
end Go.Proofs.YtdjhfeaimmpmhaaGreat

set_option maxRecDepth 100000
set_option linter.unusedVariables false
set_option linter.unusedSimpArgs false
namespace Go.Proofs.YtdjhfeaimmpmhaaGreat
open Go.RowKit

theorem ByB.belowA {w w' : World} {B n : Nat} {A : Option Addr} (h : ByB w B A n) (hB : B ≤ w.heap.size) (hb : Below B w w') : ByB w' B A n := fun k hk => by
  obtain ⟨ad, z, rfl, h1, h2, h3, h4, h5⟩ := h k hk
  exact ⟨ad, z, rfl, h1, Nat.lt_of_lt_of_le h2 hb.size, h3, h4, by rw [hb.cell (by rw [block_add]; exact h1)]; exact h5⟩
theorem ByB.monoA {w : World} {B B' n : Nat} {A : Option Addr} (h : ByB w B A n) (hB : B ≤ B') : ByB w B' A n := fun k hk => by
  obtain ⟨ad, z, rfl, h1, h2⟩ := h k hk
  exact ⟨ad, z, rfl, Nat.lt_of_lt_of_le h1 hB, h2⟩
theorem chr0 {a : List Int} (h : Chr a) : chrC a = 0 := by
  unfold chrC
  rw [if_pos (mapB_of h.len h.num), if_pos h.one]
theorem chr_is {a : List Int} (h : chrC a = 0) : Chr a := by
  obtain ⟨hm, h0⟩ := chr_of h
  obtain ⟨l, n⟩ := mapB_true hm
  exact ⟨l, n, h0⟩
theorem i_AdjointMap0 (w : World) (v : Value) (a : List Int) (h1 : Ints w v a) (h : Chr a) :
    Calls Tryz.prog 19 #[v] w fun e w' => ∃ x, e = .returned (.tuple #[x, .int .i64 0]) ∧ OwnInts w' w.heap.size tI x (adjL a) ∧ Below w.heap.size w w' := by
  have hh := i_AdjointMap w v a h1
  rw [chr0 h, show adjR a = adjL a from if_pos (chr0 h)] at hh
  exact hh
theorem i_IsSymmetricMap0 (w : World) (v : Value) (a : List Int) (h1 : Ints w v a) (h : Chr a) :
    Calls Tryz.prog 25 #[v] w fun e w' => e = .returned (.tuple #[.bool (decide (adjL a = a)), .int .i64 0]) ∧ Below w.heap.size w w' := by
  have hh := i_IsSymmetricMap w v a h1
  rw [chr0 h, show ismB a = decide (adjL a = a) from if_pos (chr0 h)] at hh
  exact hh
set_option maxHeartbeats 1000000 in
theorem l_mod9 (w : World) (x : Int) (h0 : -1000000 ≤ x) (h1 : x ≤ 1000000000) :
    Calls Tryz.prog 88 #[.int .i64 x] w fun e w' => e = .returned (.int .i64 (x % 10007)) ∧ w = w' := by
  have h2 : -10007 < x.tmod 10007 := by rw [Int.tmod_eq_emod]; split <;> omega
  have h3 : x.tmod 10007 < 10007 := by rw [Int.tmod_eq_emod]; split <;> omega
  have HT := Lib.hid (tmod_num x)
  go_enter Tryz.func88, Tryz.ntmps88
  go_wp2
  go_ret
  exact ⟨ret_i64 HT.out, rfl⟩
set_option maxHeartbeats 1000000 in
theorem l_plus9 (w : World) (va vb : Value) (a b : List Int) (h1 : Ints w va a) (l1 : a.length = 38) (n1 : Nums a) (h2 : Ints w vb b) (l2 : b.length = 38) (n2 : Nums b) :
    Calls Tryz.prog 28 #[va, vb, .int .i64 1] w fun e w' => ∃ x, e = .returned x ∧ OwnInts w' w.heap.size tI x (addk 1 a (scl 1 b)) ∧ Below w.heap.size w w' := by
  have HM := Lib.hid (fun X => l_mod9 X 1 (by omega) (by omega))
  simp only [show (1 : Int) % 10007 = 1 from by decide] at HM
  have HMU := Lib.hid (i_MultiplyMap0 w vb b 1 h2 l2 n2 (by omega) (by omega))
  have HAD := Lib.hid (fun X v (hb : Below w.heap.size w X) (hv : Ints X v (scl 1 b)) => i_AddMaps0 X va v a (scl 1 b) (h1.below hb) l1 n1 hv (by rw [scl_len]; exact l2) (scl_nums _ _))
  clear h1 h2 l1 l2 n1 n2
  go_enter Tryz.func28, Tryz.ntmps28
  go_wp2_with (first
    | (go_at_call 88; refine (HM.out _).mono ?_; rintro e w3 ⟨rfl, rfl⟩)
    | (go_at_call 87; go_loud (refine HMU.out.mono ?_; rintro e w4 ⟨x4, rfl, ho4, hb4⟩; have HO4 := Lib.hid ho4.ints; have HB4 := Lib.hid hb4; clear ho4 hb4))
    | (go_at_call 89; go_loud (refine (HAD.out _ _ HB4.out HO4.out).mono ?_; rintro e w5 ⟨x5, rfl, ho5, hb5⟩; have HO5 := Lib.hid ho5; have HB5 := Lib.hid hb5; clear ho5 hb5)))
  go_ret
  exact ⟨_, rfl, HO5.out.mono HB4.out.size, HB4.out.trans (HB5.out.mono HB4.out.size)⟩
theorem log_turn {a : List Int} (h : Chr a) : addk 1 (lgZ (adjL a)) (scl 1 (scZ (lgZ a) 10006)) = List.replicate 38 0 := by
  refine nums_ext (addTo_nums _ _ _ _) (fun z hz => by rw [List.eq_of_mem_replicate hz]; omega) (by show (addTo _ _ _ _).length = 38; rw [addTo_len, lgZ_len]) (by simp) fun p hp => ?_
  rw [addk_gz 1 _ _ (by rw [lgZ_len]; exact hp)]
  have hs : gz (scl 1 (scZ (lgZ a) 10006)) p = gz (scZ (lgZ a) 10006) p * 1 % 10007 := by
    unfold gz scl
    rw [List.getD_eq_getElem?_getD, List.getD_eq_getElem?_getD, List.getElem?_map]
    cases (scZ (lgZ a) 10006)[p]? <;> rfl
  have h2 := lgZ_adj h p hp
  have h3 : gz (List.replicate 38 0) p = 0 := by
    unfold gz
    rw [List.getD_eq_getElem?_getD, List.getElem?_replicate, if_pos hp]
    rfl
  rw [hs, h3]
  generalize gz (lgZ (adjL a)) p = x at *
  generalize gz (scZ (lgZ a) 10006) p = y at *
  omega
end Go.Proofs.YtdjhfeaimmpmhaaGreat

