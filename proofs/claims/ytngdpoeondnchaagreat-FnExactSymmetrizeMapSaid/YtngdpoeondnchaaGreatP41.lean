/- Walks: SymmetrizeMap of the program and of the reference. | The law FnExactSymmetrizeMap. -/
import Derived.Test.YtngdpoeondnchaaGreatP39
import Derived.Test.YtngdpoeondnchaaGreatP13
import Derived.Test.YtngdpoeondnchaaGreatP40
set_option maxRecDepth 100000
set_option linter.unusedVariables false
set_option linter.unusedSimpArgs false
namespace Go.Proofs.YtngdpoeondnchaaGreat
open Go.RowKit

noncomputable def hfN : Int := pw 2 10005
theorem hfN_bd : 0 ≤ hfN ∧ hfN ≤ 10006 := pw_bd _ _
noncomputable def symR (a : List Int) : List Int := if chrC a = 0 then cvZ (scZ a hfN) (scZ (adjZ a) hfN) else []
theorem symR_len (a : List Int) : (symR a).length ≤ 1048576 := by
  unfold symR
  split
  · rw [cvZ_len]; omega
  · simp
set_option maxHeartbeats 16000000 in
theorem i_SymmetrizeMap (w : World) (v : Value) (a : List Int) (h1 : Ints w v a) :
    Calls Tryz.prog 37 #[v] w fun e w' => ∃ x, e = .returned (.tuple #[x, .int .i64 (chrC a)]) ∧ OwnInts w' w.heap.size tI x (symR a) ∧ Below w.heap.size w w' := by
  have HCH := Lib.hid (i_checkCharacter w v a h1)
  have HA := Lib.hid h1
  obtain ⟨A, c, rfl, -, -, -⟩ := h1.open_
  clear h1
  by_cases hc : chrC a = 0
  · obtain ⟨hm, -⟩ := chr_of hc
    obtain ⟨l1, n1⟩ := mapB_true hm
    have n1 : Nums a := n1
    obtain ⟨hf0, hf1⟩ := hfN_bd
    have HR := Lib.hid (show symR a = cvZ (scZ a hfN) (scZ (adjZ a) hfN) from if_pos hc)
    rw [hc] at HCH ⊢
    rw [l1] at HA HCH ⊢
    have HIV := Lib.hid (fun X => show Calls Tryz.prog 81 #[.int .i64 2] X fun e w' => e = .returned (.int .i64 hfN) ∧ X = w' from i_inv 2 X (by omega) (by omega))
    obtain ⟨y, hy⟩ : ∃ y, y = hfN := ⟨_, rfl⟩
    rw [← hy] at hf0 hf1 HR HIV
    have HS1 := Lib.hid (fun X vp B m d r (b : List Int) (hR : Rows X vp (T6n.map up)) (g : Ints X r b) (gl : b.length = 38) (gn : Nums b) => i_scaleMap X vp r B m d b y hR g gl gn hf0 hf1)
    have HAD := Lib.hid (fun W Af cf Bp vp (hR : Rows W (.slice Af 37 cf) (T6n.map up)) (hP : FrC W Bp vp) (g : Ints W (.slice A 38 c) a) => i_adjointMap W vp _ Af cf Bp a hR hP g l1 n1)
    have HLA := Lib.hid l1
    have HNA := Lib.hid n1
    clear hc hm l1 n1 hf0 hf1 hy
    go_enter Tryz.func37, Tryz.ntmps37
    go_upto_region 5 with (first
      | (go_at_call 70; refine HCH.out.mono ?_; rintro e w0 ⟨rfl, rfl⟩)
      | (go_at_call 81; refine (HIV.out _).mono ?_; rintro e w0 ⟨rfl, rfl⟩)
      | (go_at_call 56; go_loud (refine (i_newForms _).mono ?_; rintro e w1 ⟨f, rfl, hf, hb1⟩; obtain ⟨Af, cf, Ay, cy, rfl, hrf, hfc⟩ := hf.openC; have HRF := Lib.hid hrf; have HFC := Lib.hid hfc; have HB1W := Lib.hid hb1; clear hf hrf hfc hb1)))
    obtain ⟨W, hW⟩ : ∃ W, W = w1.alloc (.cells #[.slice Af 37 cf, .slice Ay 37 cy] tFo) := ⟨_, rfl⟩
    have hbw : Below w1.heap.size w1 W := by rw [hW]; exact below1 w1 _
    have HBW := Lib.hid (HB1W.out.trans (hbw.mono HB1W.out.size))
    have HKF := Lib.hid (show Blk W w1.heap.size tFo #[.slice Af 37 cf, .slice Ay 37 cy] from by rw [hW]; exact Blk.new _ _ _)
    have HRW := Lib.hid (HRF.out.below hbw)
    have HFW := Lib.hid (HFC.out.below hbw)
    have HAW := Lib.hid (HA.out.below HBW.out)
    rw [← hW]
    clear hW hbw
    have QQ := Lib.hid (show ∀ X, Below W.heap.size W X → X.cell? ⟨w1.heap.size, 0, none⟩ = some (.slice Af 37 cf) ∧ X.cell? ⟨w1.heap.size, 1, none⟩ = some (.slice Ay 37 cy) from fun X hX => ⟨(HKF.out.below hX HKF.out.lt).cell 0, (HKF.out.below hX HKF.out.lt).cell 1⟩)
    refine AnyT.begin (k := 11) (S := fun b w' => (w'.cell? ⟨w1.heap.size, 0, none⟩ = some (.slice Af 37 cf) ∧ w'.cell? ⟨w1.heap.size, 1, none⟩ = some (.slice Ay 37 cy)) ∧ True) (by kernel_rfl) ?_
    have hS : (fun (b : Bool) (w' : World) => (w'.cell? ⟨w1.heap.size, 0, none⟩ = some (.slice Af 37 cf) ∧ w'.cell? ⟨w1.heap.size, 1, none⟩ = some (.slice Ay 37 cy)) ∧ True) false W.drew := ⟨QQ.out _ (Below.refl _ _).drew, trivial⟩
    refine AnyT.take0 (i := 0) (v := ?_) rfl (by kernel_rfl) (by kernel_rfl) (by kernel_rfl) (by decide) (fun _ _ _ h => h) hS (Or.inl ⟨by first | kernel_rfl | rfl, ?_⟩) ?_
    rotate_left
    · rintro w' ⟨b, hw'⟩; obtain ⟨hw1, -⟩ := hw'; (try (obtain ⟨hw1, hw2⟩ := hw1)); (try (obtain ⟨hw2, hw3⟩ := hw2)); (try (obtain ⟨hw3, hw4⟩ := hw3)); go_simp; try with_reducible rfl
    try simp only [Act.put, List.setIfInBounds_toArray, List.set_cons_zero, List.set_cons_succ]
    refine AnyT.take0 (i := 1) (v := ?_) rfl (by kernel_rfl) (by kernel_rfl) (by kernel_rfl) (by decide) (fun _ _ _ h => h) hS (Or.inl ⟨by first | kernel_rfl | rfl, ?_⟩) ?_
    rotate_left
    · rintro w' ⟨b, hw'⟩; obtain ⟨hw1, -⟩ := hw'; (try (obtain ⟨hw1, hw2⟩ := hw1)); (try (obtain ⟨hw2, hw3⟩ := hw2)); (try (obtain ⟨hw3, hw4⟩ := hw3)); go_simp; try with_reducible rfl
    try simp only [Act.put, List.setIfInBounds_toArray, List.set_cons_zero, List.set_cons_succ]
    refine AnyT.take0 (i := 2) (v := ?_) rfl (by kernel_rfl) (by kernel_rfl) (by kernel_rfl) (by decide) (fun _ _ _ h => h) hS (Or.inl ⟨by first | kernel_rfl | rfl, ?_⟩) ?_
    rotate_left
    · intro w' hw'; clear hw'; go_simp; try with_reducible rfl
    try simp only [Act.put, List.setIfInBounds_toArray, List.set_cons_zero, List.set_cons_succ]
    refine AnyT.take0 (i := 3) (v := ?_) rfl (by kernel_rfl) (by kernel_rfl) (by kernel_rfl) (by decide) (fun _ _ _ h => h) hS (Or.inl ⟨by first | kernel_rfl | rfl, ?_⟩) ?_
    rotate_left
    · intro w' hw'; clear hw'; go_simp; try with_reducible rfl
    try simp only [Act.put, List.setIfInBounds_toArray, List.set_cons_zero, List.set_cons_succ]
    refine AnyT.take0 (i := 5) (v := ?_) rfl (by kernel_rfl) (by kernel_rfl) (by kernel_rfl) (by decide) (fun _ _ _ h => h) hS (Or.inl ⟨by first | kernel_rfl | rfl, ?_⟩) ?_
    rotate_left
    · rintro w' ⟨b, hw'⟩; obtain ⟨hw1, -⟩ := hw'; (try (obtain ⟨hw1, hw2⟩ := hw1)); (try (obtain ⟨hw2, hw3⟩ := hw2)); (try (obtain ⟨hw3, hw4⟩ := hw3)); go_simp; try with_reducible rfl
    try simp only [Act.put, List.setIfInBounds_toArray, List.set_cons_zero, List.set_cons_succ]
    refine AnyT.take0 (i := 6) (v := ?_) rfl (by kernel_rfl) (by kernel_rfl) (by kernel_rfl) (by decide) (fun _ _ _ h => h) hS (Or.inl ⟨by first | kernel_rfl | rfl, ?_⟩) ?_
    rotate_left
    · rintro w' ⟨b, hw'⟩; obtain ⟨hw1, -⟩ := hw'; (try (obtain ⟨hw1, hw2⟩ := hw1)); (try (obtain ⟨hw2, hw3⟩ := hw2)); (try (obtain ⟨hw3, hw4⟩ := hw3)); go_simp; try with_reducible rfl
    try simp only [Act.put, List.setIfInBounds_toArray, List.set_cons_zero, List.set_cons_succ]
    refine AnyT.take0 (i := 7) (v := ?_) rfl (by kernel_rfl) (by kernel_rfl) (by kernel_rfl) (by decide) (fun _ _ _ h => h) hS (Or.inl ⟨by first | kernel_rfl | rfl, ?_⟩) ?_
    rotate_left
    · intro w' hw'; clear hw'; go_simp; try with_reducible rfl
    try simp only [Act.put, List.setIfInBounds_toArray, List.set_cons_zero, List.set_cons_succ]
    refine AnyT.take0 (i := 9) (v := ?_) rfl (by kernel_rfl) (by kernel_rfl) (by kernel_rfl) (by decide) (fun _ _ _ h => h) hS (Or.inl ⟨by first | kernel_rfl | rfl, ?_⟩) ?_
    rotate_left
    · intro w' hw'; clear hw'; go_simp; try with_reducible rfl
    try simp only [Act.put, List.setIfInBounds_toArray, List.set_cons_zero, List.set_cons_succ]
    refine AnyT.go (rs := [4]) (by kernel_rfl) (by simp) ?_
    refine AllT.cons rfl (fun K hK => ?_) AllT.nil
    go_simp
    refine (HS1.out W.drew (.slice Af 37 cf) Ay 37 cy _ a (HRW.out.below (Below.refl _ _).drew) (HAW.out.below (Below.refl _ _).drew) HLA.out HNA.out).mono ?_
    rintro e w5 ⟨u5, rfl, ho5, hb5'⟩
    obtain ⟨A5, c5, he5, -, -, -⟩ := ho5.ints.open_
    rw [scZ_len] at he5
    subst he5
    have hb5 : Below W.heap.size W w5 := by exact below_of_drew hb5'
    have HU5 := Lib.hid (show Ints w5 (.slice A5 38 c5) (scZ a y) from ho5.ints)
    have HB5 := Lib.hid hb5
    refine hK.out _ _ ⟨QQ.out _ hb5, trivial⟩ (fun hS => ?_)
    clear hK ho5 hb5' hb5
    try simp only [Act.put, List.setIfInBounds_toArray, List.set_cons_zero, List.set_cons_succ]
    refine AnyT.go (rs := [8]) (by kernel_rfl) (by simp) ?_
    refine AllT.cons rfl (fun K hK => ?_) AllT.nil
    go_simp
    refine (HAD.out w5 Af cf _ (.slice Ay 37 cy) (HRW.out.below HB5.out) (HFW.out.below HB5.out) (HAW.out.below HB5.out)).mono ?_
    rintro e w6 ⟨u6, rfl, ho6, hb6⟩
    obtain ⟨A6, c6, he6, -, -, -⟩ := ho6.ints.open_
    rw [adjZ_len] at he6
    subst he6
    have HU6 := Lib.hid (show Ints w6 (.slice A6 38 c6) (adjZ a) from ho6.ints)
    have HB6 := Lib.hid (HB5.out.trans (hb6.mono HB5.out.size))
    have HV5 := Lib.hid (HU5.out.below hb6)
    refine hK.out _ _ ⟨QQ.out _ HB6.out, trivial⟩ (fun hS => ?_)
    clear hK ho6 hb6
    try simp only [Act.put, List.setIfInBounds_toArray, List.set_cons_zero, List.set_cons_succ]
    refine AnyT.go (rs := [10]) (by kernel_rfl) (by simp) ?_
    refine AllT.cons rfl (fun K hK => ?_) AllT.nil
    go_simp
    refine (HS1.out w6 (.slice Af 37 cf) Ay 37 cy _ (adjZ a) (HRW.out.below HB6.out) HU6.out (adjZ_len _) (adjZ_nums _)).mono ?_
    rintro e w7 ⟨u7, rfl, ho7, hb7⟩
    obtain ⟨A7, c7, he7, -, -, -⟩ := ho7.ints.open_
    rw [scZ_len] at he7
    subst he7
    have HU7 := Lib.hid (show Ints w7 (.slice A7 38 c7) (scZ (adjZ a) y) from ho7.ints)
    have HB7 := Lib.hid (HB6.out.trans (hb7.mono HB6.out.size))
    have HW5 := Lib.hid (HV5.out.below hb7)
    refine hK.out _ _ ⟨QQ.out _ HB7.out, trivial⟩ (fun hS => ?_)
    clear hK ho7 hb7
    try simp only [Act.put, List.setIfInBounds_toArray, List.set_cons_zero, List.set_cons_succ]
    refine AnyT.go (rs := [11]) (by kernel_rfl) (by simp) ?_
    refine AllT.cons rfl (fun K hK => ?_) AllT.nil
    go_simp
    refine (i_convolve w7 (.slice Ay 37 cy) (.slice A5 38 c5) (.slice A7 38 c7) Af cf _ (scZ a y) (scZ (adjZ a) y) (HFW.out.below HB7.out) HW5.out (scZ_len _ _) (scZ_nums _ _) HU7.out (scZ_len _ _) (scZ_nums _ _)).mono ?_
    rintro e w8 ⟨u8, rfl, ho8, hb8⟩
    have HU8 := Lib.hid (ho8.mono (Nat.le_trans HBW.out.size HB7.out.size))
    have HB8 := Lib.hid (HB7.out.trans (hb8.mono HB7.out.size))
    refine hK.out _ _ ⟨QQ.out _ HB8.out, trivial⟩ (fun hS => ?_)
    clear hK ho8 hb8
    try simp only [Act.put, List.setIfInBounds_toArray, List.set_cons_zero, List.set_cons_succ]
    refine AnyT.take0 (i := 12) (v := ?_) rfl (by kernel_rfl) (by kernel_rfl) (by kernel_rfl) (by decide) (fun _ _ _ h => h) hS (Or.inl ⟨by first | kernel_rfl | rfl, ?_⟩) ?_
    rotate_left
    · intro w' hw'; clear hw'; go_simp; try with_reducible rfl
    try simp only [Act.put, List.setIfInBounds_toArray, List.set_cons_zero, List.set_cons_succ]
    refine AnyT.take0 (i := 13) (v := ?_) rfl (by kernel_rfl) (by kernel_rfl) (by kernel_rfl) (by decide) (fun _ _ _ h => h) hS (Or.inl ⟨by first | kernel_rfl | rfl, ?_⟩) ?_
    rotate_left
    · intro w' hw'; clear hw'; go_simp; try with_reducible rfl
    try simp only [Act.put, List.setIfInBounds_toArray, List.set_cons_zero, List.set_cons_succ]
    clear hS
    refine AnyT.done (by kernel_rfl) ?_ _
    go_wp2_with fail
    go_ret2
    rw [HR.out]
    exact ⟨_, rfl, HU8.out, HBW.out.trans (HB8.out.mono HBW.out.size)⟩
  · have HR := Lib.hid (show symR a = [] from if_neg hc)
    rw [HR.out]
    have hd : (chrC a != 0) = true := by simp [hc]
    generalize chrC a = cc at *
    clear hc HR
    go_enter Tryz.func37, Tryz.ntmps37
    go_wp2_with (go_at_call 70; refine HCH.out.mono ?_; rintro e w0 ⟨rfl, rfl⟩)
    go_ret2
    exact ⟨_, rfl, OwnInts.nil _ _ _, Below.refl _ _⟩
set_option maxHeartbeats 4000000 in
theorem s_SymmetrizeMap (w : World) (v : Value) (a : List Int) (h1 : Ints w v a) :
    Calls Tryz.prog 36 #[v] w fun e w' => ∃ x, e = .returned (.tuple #[x, .int .i64 (chrC a)]) ∧ OwnInts w' w.heap.size tI x (symR a) ∧ Below w.heap.size w w' := by
  have HCH := Lib.hid (s_l07Code1 w v a h1)
  have HA := Lib.hid h1
  obtain ⟨A, c, rfl, -, -, -⟩ := h1.open_
  clear h1
  by_cases hc : chrC a = 0
  · obtain ⟨hm, h0⟩ := chr_of hc
    obtain ⟨l1, n1⟩ := mapB_true hm
    have n1 : Nums a := n1
    obtain ⟨hf0, hf1⟩ := hfN_bd
    have HR := Lib.hid (show symR a = cvZ (scZ a hfN) (scZ (adjZ a) hfN) from if_pos hc)
    rw [hc] at HCH ⊢
    rw [l1] at HA HCH ⊢
    have HIV := Lib.hid (fun X => show Calls Tryz.prog 79 #[.int .i64 1, .int .i64 2] X fun e w' => e = .returned (.int .i64 hfN) ∧ X = w' from by
      have h := s_l01Frac X 1 2 (by omega) (by omega) (by omega) (by omega)
      have e : (1 : Int) % 10007 * pw (2 % 10007) 10005 % 10007 = hfN := by
        show (1 : Int) * hfN % 10007 = hfN
        omega
      rwa [e] at h)
    obtain ⟨y, hy⟩ : ∃ y, y = hfN := ⟨_, rfl⟩
    rw [← hy] at hf0 hf1 HR HIV
    have HS1 := Lib.hid (fun X r (b : List Int) (g : Ints X r b) (gl : b.length = 38) (gn : Nums b) => s_l07Scale X r b y g gl gn hf0 hf1)
    have HAD := Lib.hid (fun W Bp v (hC : C7 W Bp v) (g : Ints W (.slice A 38 c) a) => s_l18Adjoint W v _ Bp a hC g l1 n1 h0)
    have HCV := Lib.hid (show ∀ X A c Bp r5 r7, R7 X Bp A 38 → Ints X r5 (scZ a y) → Ints X r7 (scZ (adjZ a) y) → Calls Tryz.prog 61 #[.slice A 38 c, r5, r7] X (fun e w' => ∃ x, e = .returned x ∧ OwnInts w' X.heap.size tI x (cvZ (scZ a y) (scZ (adjZ a) y)) ∧ Below X.heap.size X w') from fun X A c Bp r5 r7 hR g1 g2 => by have := s_l07Conv X A _ _ c 38 Bp _ _ hR (by omega) (by omega) g1 (scZ_len _ _) (scZ_nums _ _) (by rw [scZ_head n1]; exact h0) g2 (scZ_len _ _) (scZ_nums _ _); rw [cvZ_take] at this; exact this)
    have HLA := Lib.hid l1
    have HNA := Lib.hid n1
    clear hc hm l1 n1 h0 hf0 hf1 hy
    go_enter Tryz.func36, Tryz.ntmps36
    go_wp2_with (first
      | (go_at_call 67; refine HCH.out.mono ?_; rintro e w0 ⟨rfl, rfl⟩)
      | (go_at_call 79; refine (HIV.out _).mono ?_; rintro e w0 ⟨rfl, rfl⟩)
      | (go_at_call 59; go_loud (refine (s_l07Cuts _).mono ?_; rintro e w1 ⟨x1, rfl, hc1, hb1⟩; have HX1 := Lib.hid hc1; have HB1 := Lib.hid hb1; obtain ⟨A1, c1, rfl, hr1⟩ := hc1.r7; have HR1 := Lib.hid hr1; clear hc1 hb1 hr1))
      | (go_at_call 80; (with_reducible refine (HS1.out _ _ _ (HA.out.below HB1.out) HLA.out HNA.out).mono ?_); go_loud (rintro e w5 ⟨u5, rfl, ho5, hb5⟩; have HU5 := Lib.hid ho5.ints; have HB5 := Lib.hid (HB1.out.trans (hb5.mono HB1.out.size)); have HB15 := Lib.hid hb5; clear ho5 hb5))
      | (go_at_call 69; go_loud (refine (HAD.out _ _ _ (HX1.out.below HB15.out) (HA.out.below HB5.out)).mono ?_; rintro e w6 ⟨u6, rfl, ho6, hb6⟩; have HU6 := Lib.hid ho6.ints; have HB6 := Lib.hid (HB5.out.trans (hb6.mono HB5.out.size)); have HB56 := Lib.hid hb6; clear ho6 hb6))
      | (go_at_call 80; (with_reducible refine (HS1.out _ _ _ HU6.out (adjZ_len _) (adjZ_nums _)).mono ?_); go_loud (rintro e w7 ⟨u7, rfl, ho7, hb7⟩; have HU7 := Lib.hid ho7.ints; have HB7 := Lib.hid (HB6.out.trans (hb7.mono HB6.out.size)); have HB67 := Lib.hid hb7; clear ho7 hb7))
      | (go_at_call 61; go_loud (refine (HCV.out _ _ _ _ _ _ (((HR1.out.below HB15.out).below HB56.out).below HB67.out) ((HU5.out.below HB56.out).below HB67.out) HU7.out).mono ?_; rintro e w8 ⟨u8, rfl, ho8, hb8⟩; have HU8 := Lib.hid (ho8.mono HB7.out.size); have HB8 := Lib.hid (HB7.out.trans (hb8.mono HB7.out.size)); clear ho8 hb8)))
    go_ret2
    rw [HR.out]
    exact ⟨_, rfl, HU8.out, HB8.out⟩
  · have HR := Lib.hid (show symR a = [] from if_neg hc)
    rw [HR.out]
    have hd : (chrC a != 0) = true := by simp [hc]
    generalize chrC a = cc at *
    clear hc HR
    go_enter Tryz.func36, Tryz.ntmps36
    go_wp2_with (go_at_call 67; refine HCH.out.mono ?_; rintro e w0 ⟨rfl, rfl⟩)
    go_ret2
    exact ⟨_, rfl, OwnInts.nil _ _ _, Below.refl _ _⟩
end Go.Proofs.YtngdpoeondnchaaGreat

set_option maxRecDepth 100000
set_option linter.unusedVariables false
set_option linter.unusedSimpArgs false
namespace Go.Proofs.YtngdpoeondnchaaGreat
open Go.RowKit

theorem law_SymmetrizeMap (w : World) (v : Value) (zs : List Int) (ha : Ints w v zs) :
    Calls Tryz.prog 9 #[v] w fun e w' => e = .returned (.bool true) ∧ Below w.heap.size w w' :=
  law_FnExactSymmetrizeMap_gen w v zs ha (symR zs) (chrC zs) (fun _ => symR_len zs)
    (fun _ W v0 h0 => (s_SymmetrizeMap W v0 zs h0).mono fun e w' h => by obtain ⟨x, he, ho, hb⟩ := h; exact ⟨x, he, OI.of ho, hb⟩)
    (fun _ W v0 h0 => (i_SymmetrizeMap W v0 zs h0).mono fun e w' h => by obtain ⟨x, he, ho, hb⟩ := h; exact ⟨x, he, OI.of ho, hb⟩)
end Go.Proofs.YtngdpoeondnchaaGreat

