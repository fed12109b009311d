/- The law FnExactRefineMap, walked over the contracts of both. (printed by lawgen3.py) | Walks: RefineMap of the program and of the reference. | The law FnExactRefineMap. | The law FnExactSymmetrizeMap, walked over the contracts of both. (printed by lawgen3.py) -/
import Derived.Test.YtngdpoeondnchaaGreatP2
import Derived.WalkLawsBesides
import Derived.Deep.RegionHeld3
import Derived.Test.YtngdpoeondnchaaGreatP39
set_option linter.unusedVariables false
set_option linter.unusedSimpArgs false
namespace Go.Proofs.YtngdpoeondnchaaGreat
open Go.RowKit

set_option maxRecDepth 100000 in
set_option maxHeartbeats 8000000 in
theorem law_FnExactRefineMap_gen (w : World) (v0 : Value) (zs0 : List Int) (ha0 : Ints w v0 zs0) (n1 : Int) (ha1 : In64 n1) (r : List Int) (c : Int) (hR : zs0.length ≤ 1048576 → r.length ≤ 1048576)
    (hS : zs0.length ≤ 1048576 → ∀ (W : World) (v0 : Value), Ints W v0 zs0 → Calls Tryz.prog 38 #[v0, .int .i64 n1] W fun e w' => ∃ u, e = .returned (.tuple #[u, .int .i64 c]) ∧ OI w' W.heap.size w'.heap.size tI u r ∧ Below W.heap.size W w')
    (hI : zs0.length ≤ 1048576 → ∀ (W : World) (v0 : Value), Ints W v0 zs0 → Calls Tryz.prog 39 #[v0, .int .i64 n1] W fun e w' => ∃ u, e = .returned (.tuple #[u, .int .i64 c]) ∧ OI w' W.heap.size w'.heap.size tI u r ∧ Below W.heap.size W w') :
    Calls Tryz.prog 10 #[v0, .int .i64 n1] w fun e w' => e = .returned (.bool true) ∧ Below w.heap.size w w' := by
  have B := Lib.hid (Below.refl w.heap.size w)
  have HS := Lib.hid hS
  have HI := Lib.hid hI
  clear hS hI
  have HR := Lib.hid hR
  clear hR
  have HA0 := Lib.hid ha0
  obtain ⟨A0, c0, rfl, -, -, -⟩ := ha0.open_
  clear ha0
  go_enter Tryz.func10, Tryz.ntmps10
  by_cases hbig0 : (1048576 : Int) < (zs0.length : Int)
  · go_wp2_with fail
    go_ret
    exact ⟨rfl, Below.refl _ _⟩
  have hsm0 : zs0.length ≤ 1048576 := by omega
  go_wp2_with fail
  have HS := Lib.hid (HS.out hsm0)
  have HI := Lib.hid (HI.out hsm0)
  have HR := Lib.hid (HR.out hsm0)
  refine (n_to_ints _ _ zs0 (HA0.out.below B.out) (by omega)).mono ?_
  rintro e w1 ⟨xT0, rfl, hT0, b2⟩
  have Z3 := Lib.hid (b2.size)
  have NB := Lib.hid (B.out.trans (b2.mono B.out.size))
  clear B
  have B := NB
  clear NB
  clear b2
  have T0 := Lib.hid hT0
  clear hT0
  go_wp2_with fail
  refine (HS.out _ _ T0.out.ints).mono ?_
  rintro e w4 ⟨xW, rfl, hW, b5⟩
  have Z6 := Lib.hid (b5.size)
  have NT0 := Lib.hid (T0.out.below b5)
  clear T0
  have T0 := NT0
  clear NT0
  have NB := Lib.hid (B.out.trans (b5.mono B.out.size))
  clear B
  have B := NB
  clear NB
  clear b5
  have W := Lib.hid hW
  clear hW
  clear T0
  go_wp2_with fail
  refine (n_to_ints _ _ zs0 (HA0.out.below B.out) (by omega)).mono ?_
  rintro e w7 ⟨xX0, rfl, hX0, b8⟩
  have Z9 := Lib.hid (b8.size)
  have NW := Lib.hid (W.out.below b8)
  clear W
  have W := NW
  clear NW
  have NB := Lib.hid (B.out.trans (b8.mono B.out.size))
  clear B
  have B := NB
  clear NB
  clear b8
  have X0 := Lib.hid hX0
  clear hX0
  go_wp2_with fail
  refine (HI.out _ _ X0.out.ints).mono ?_
  rintro e w10 ⟨xG, rfl, hG, b11⟩
  have Z12 := Lib.hid (b11.size)
  have NW := Lib.hid (W.out.below b11)
  clear W
  have W := NW
  clear NW
  have NX0 := Lib.hid (X0.out.below b11)
  clear X0
  have X0 := NX0
  clear NX0
  have NB := Lib.hid (B.out.trans (b11.mono B.out.size))
  clear B
  have B := NB
  clear NB
  clear b11
  have G := Lib.hid hG
  clear hG
  go_wp2_with fail
  refine (n_eq_ints _ _ _ r G.out.ints W.out.ints).mono ?_
  rintro e w13 ⟨rfl, b14⟩
  have Z15 := Lib.hid (b14.size)
  have NW := Lib.hid (W.out.below b14)
  clear W
  have W := NW
  clear NW
  have NX0 := Lib.hid (X0.out.below b14)
  clear X0
  have X0 := NX0
  clear NX0
  have NG := Lib.hid (G.out.below b14)
  clear G
  have G := NG
  clear NG
  have NB := Lib.hid (B.out.trans (b14.mono B.out.size))
  clear B
  have B := NB
  clear NB
  clear b14
  go_wp2_with fail
  refine (n_to_ints _ _ zs0 (HA0.out.below B.out) (by omega)).mono ?_
  rintro e w16 ⟨xY0, rfl, hY0, b17⟩
  have Z18 := Lib.hid (b17.size)
  have NW := Lib.hid (W.out.below b17)
  clear W
  have W := NW
  clear NW
  have NX0 := Lib.hid (X0.out.below b17)
  clear X0
  have X0 := NX0
  clear NX0
  have NG := Lib.hid (G.out.below b17)
  clear G
  have G := NG
  clear NG
  have NB := Lib.hid (B.out.trans (b17.mono B.out.size))
  clear B
  have B := NB
  clear NB
  clear b17
  have Y0 := Lib.hid hY0
  clear hY0
  go_wp2_with fail
  refine (n_eq_ints _ _ _ zs0 X0.out.ints Y0.out.ints).mono ?_
  rintro e w19 ⟨rfl, b20⟩
  have Z21 := Lib.hid (b20.size)
  have NW := Lib.hid (W.out.below b20)
  clear W
  have W := NW
  clear NW
  have NX0 := Lib.hid (X0.out.below b20)
  clear X0
  have X0 := NX0
  clear NX0
  have NG := Lib.hid (G.out.below b20)
  clear G
  have G := NG
  clear NG
  have NY0 := Lib.hid (Y0.out.below b20)
  clear Y0
  have Y0 := NY0
  clear NY0
  have NB := Lib.hid (B.out.trans (b20.mono B.out.size))
  clear B
  have B := NB
  clear NB
  clear b20
  clear Y0
  go_wp2_with fail
  refine (n_mark_ints _ _ _ _ zs0 (1) X0.out (by omega) (by omega) (by omega)).mono ?_
  rintro e w22 ⟨rfl, -, chw22⟩
  have Z23 := Lib.hid (chw22.size)
  have NW := Lib.hid (W.out.kept chw22 (by have y0 := Z3.out; have y1 := Z6.out; have y2 := Z9.out; have y3 := Z12.out; have y4 := Z15.out; have y5 := Z18.out; have y6 := Z21.out; have y7 := Z23.out; omega))
  clear W
  have W := NW
  clear NW
  have NG := Lib.hid (G.out.kept chw22 (by have y0 := Z3.out; have y1 := Z6.out; have y2 := Z9.out; have y3 := Z12.out; have y4 := Z15.out; have y5 := Z18.out; have y6 := Z21.out; have y7 := Z23.out; omega))
  clear G
  have G := NG
  clear NG
  clear X0
  have NB := Lib.hid (chw22.below B.out (by have y0 := Z3.out; have y1 := Z6.out; have y2 := Z9.out; have y3 := Z12.out; have y4 := Z15.out; have y5 := Z18.out; have y6 := Z21.out; have y7 := Z23.out; omega) B.out.size)
  clear B
  have B := NB
  clear NB
  clear chw22
  have hk0 : (0 : Int) ≤ 1 + (zs0.length : Int) := by omega
  go_wp2_with fail
  clear hk0
  refine (n_eq_ints _ _ _ r G.out.ints W.out.ints).mono ?_
  rintro e w24 ⟨rfl, b25⟩
  have Z26 := Lib.hid (b25.size)
  have NW := Lib.hid (W.out.below b25)
  clear W
  have W := NW
  clear NW
  have NG := Lib.hid (G.out.below b25)
  clear G
  have G := NG
  clear NG
  have NB := Lib.hid (B.out.trans (b25.mono B.out.size))
  clear B
  have B := NB
  clear NB
  clear b25
  go_wp2_with fail
  have hr0 : (0 : Int) ≤ 1 + ((r.length : Nat) : Int) := by omega
  refine (n_mark_ints _ _ _ _ r 1 G.out (by have y := HR.out; omega) (by omega) (by omega)).mono ?_
  rintro e w27 ⟨rfl, hw27, chw27⟩
  have Z28 := Lib.hid (chw27.size)
  have NW := Lib.hid (W.out.kept chw27 (by have y0 := Z3.out; have y1 := Z6.out; have y2 := Z9.out; have y3 := Z12.out; have y4 := Z15.out; have y5 := Z18.out; have y6 := Z21.out; have y7 := Z23.out; have y8 := Z26.out; have y9 := Z28.out; omega))
  clear W
  have W := NW
  clear NW
  have NG := Lib.hid (hw27)
  clear G
  have G := NG
  clear NG
  have NB := Lib.hid (chw27.below B.out (by have y0 := Z3.out; have y1 := Z6.out; have y2 := Z9.out; have y3 := Z12.out; have y4 := Z15.out; have y5 := Z18.out; have y6 := Z21.out; have y7 := Z23.out; have y8 := Z26.out; have y9 := Z28.out; omega) B.out.size)
  clear B
  have B := NB
  clear NB
  clear hw27 chw27
  go_wp2_with fail
  refine (n_held_ints _ _ r.length G.out.ints (by have y := HR.out; omega)).mono ?_
  rintro e w29 ⟨rfl, b30⟩
  have Z31 := Lib.hid (b30.size)
  have NW := Lib.hid (W.out.below b30)
  clear W
  have W := NW
  clear NW
  have NG := Lib.hid (G.out.below b30)
  clear G
  have G := NG
  clear NG
  have NB := Lib.hid (B.out.trans (b30.mono B.out.size))
  clear B
  have B := NB
  clear NB
  clear b30
  go_wp2_with fail
  refine (n_to_ints _ _ zs0 (HA0.out.below B.out) (by omega)).mono ?_
  rintro e w32 ⟨xV0, rfl, hV0, b33⟩
  have Z34 := Lib.hid (b33.size)
  have NW := Lib.hid (W.out.below b33)
  clear W
  have W := NW
  clear NW
  have NG := Lib.hid (G.out.below b33)
  clear G
  have G := NG
  clear NG
  have NB := Lib.hid (B.out.trans (b33.mono B.out.size))
  clear B
  have B := NB
  clear NB
  clear b33
  have V0 := Lib.hid hV0
  clear hV0
  go_wp2_with fail
  refine (HI.out _ _ V0.out.ints).mono ?_
  rintro e w35 ⟨xH, rfl, hH, b36⟩
  have Z37 := Lib.hid (b36.size)
  have NW := Lib.hid (W.out.below b36)
  clear W
  have W := NW
  clear NW
  have NG := Lib.hid (G.out.below b36)
  clear G
  have G := NG
  clear NG
  have NV0 := Lib.hid (V0.out.below b36)
  clear V0
  have V0 := NV0
  clear NV0
  have NB := Lib.hid (B.out.trans (b36.mono B.out.size))
  clear B
  have B := NB
  clear NB
  clear b36
  have H := Lib.hid hH
  clear hH
  clear V0
  go_wp2_with fail
  refine (n_eq_ints _ _ _ r H.out.ints W.out.ints).mono ?_
  rintro e w38 ⟨rfl, b39⟩
  have Z40 := Lib.hid (b39.size)
  have NW := Lib.hid (W.out.below b39)
  clear W
  have W := NW
  clear NW
  have NG := Lib.hid (G.out.below b39)
  clear G
  have G := NG
  clear NG
  have NH := Lib.hid (H.out.below b39)
  clear H
  have H := NH
  clear NH
  have NB := Lib.hid (B.out.trans (b39.mono B.out.size))
  clear B
  have B := NB
  clear NB
  clear b39
  go_wp2_with fail
  refine (n_held_ints _ _ r.length G.out.ints (by have y := HR.out; omega)).mono ?_
  rintro e w41 ⟨rfl, b42⟩
  have Z43 := Lib.hid (b42.size)
  have NW := Lib.hid (W.out.below b42)
  clear W
  have W := NW
  clear NW
  have NG := Lib.hid (G.out.below b42)
  clear G
  have G := NG
  clear NG
  have NH := Lib.hid (H.out.below b42)
  clear H
  have H := NH
  clear NH
  have NB := Lib.hid (B.out.trans (b42.mono B.out.size))
  clear B
  have B := NB
  clear NB
  clear b42
  go_wp2_with fail
  go_ret
  exact ⟨rfl, B.out⟩
end Go.Proofs.YtngdpoeondnchaaGreat

set_option maxRecDepth 100000
set_option linter.unusedVariables false
set_option linter.unusedSimpArgs false
namespace Go.Proofs.YtngdpoeondnchaaGreat
open Go.RowKit

def rfnC (a : List Int) (k l : Int) : Int := if mapB a = true then (if inR k l 100 = true then (if a.getD 0 0 = 1 then 0 else 5) else 2) else 1
noncomputable def rfnR (a : List Int) (k : Int) : List Int := if rfnC a k 1 = 0 then itC (scZ a (pw k 10005)) k.toNat else []
theorem rfnR_len (a : List Int) (k : Int) : (rfnR a k).length ≤ 1048576 := by
  unfold rfnR
  split
  · rw [itC_len]; omega
  · simp
theorem rfnC_zero {a : List Int} {k l : Int} (h : rfnC a k l = 0) (hl : 1 ≤ l) : a.length = 38 ∧ Nums a ∧ a.getD 0 0 = 1 ∧ l ≤ k ∧ ∃ n : Nat, k = n ∧ n ≤ 100 ∧ 1 ≤ n := by
  unfold rfnC at h
  split at h
  · next h1 =>
    split at h
    · next h2 =>
      split at h
      · next h3 =>
        obtain ⟨l1, n1⟩ := mapB_true h1
        have h4 := inR_iff.1 h2
        exact ⟨l1, n1, h3, h4.1, k.toNat, by omega, by omega, by omega⟩
      · cases h
    · cases h
  · cases h
set_option maxHeartbeats 4000000 in
theorem i_checkRefine (w : World) (va : Value) (a : List Int) (k l : Int) (h1 : Ints w va a) :
    Calls Tryz.prog 85 #[va, .int .i64 k, .int .i64 l] w fun e w' => e = .returned (.int .i64 (rfnC a k l)) ∧ w = w' := by
  have HCH := Lib.hid (i_IsMap w va a h1)
  have HIR := Lib.hid (fun W => i_inRange k l 100 W)
  obtain ⟨Aa, ca, rfl, -, -, -⟩ := h1.open_
  cases hm : mapB a with
  | false =>
    rw [hm] at HCH
    have HC := Lib.hid (show rfnC a k l = 1 from by unfold rfnC; rw [hm]; rfl)
    rw [HC.out]
    clear hm h1 HC
    go_enter Tryz.func85, Tryz.ntmps85
    go_wp2_with (go_at_call 76; refine HCH.out.mono ?_; rintro e w0 ⟨rfl, rfl⟩)
    go_ret
    exact ⟨rfl, rfl⟩
  | true =>
    rw [hm] at HCH
    obtain ⟨l1, n1⟩ := mapB_true hm
    cases hr : inR k l 100 with
    | false =>
      rw [hr] at HIR
      have HC := Lib.hid (show rfnC a k l = 2 from by unfold rfnC; rw [hm, hr]; rfl)
      rw [HC.out]
      clear hm hr h1 HC l1 n1
      go_enter Tryz.func85, Tryz.ntmps85
      go_wp2_with (first
        | (go_at_call 76; refine HCH.out.mono ?_; rintro e w0 ⟨rfl, rfl⟩)
        | (go_at_call 104; refine (HIR.out _).mono ?_; rintro e w0 ⟨rfl, rfl⟩))
      go_ret
      exact ⟨rfl, rfl⟩
    | true =>
      rw [hr] at HIR
      rw [l1] at h1 HCH ⊢
      obtain ⟨ad, rfl, hc0, -, -⟩ := map_cell h1 n1 (k := 0) (by omega)
      have hc0 : w.cell? ad = some (.int .i64 (a.getD 0 0)) := by simpa [Addr.add] using hc0
      have HC := Lib.hid (show rfnC a k l = if a.getD 0 0 = 1 then 0 else 5 from by unfold rfnC; rw [if_pos hm, if_pos hr])
      rw [HC.out]
      generalize a.getD 0 0 = y0 at *
      clear hm hr h1 l1 n1
      by_cases hz0 : y0 = 1
      · have hd0 : (y0 != 1) = false := by simp [hz0]
        rw [if_pos hz0]
        clear hz0 HC
        go_enter Tryz.func85, Tryz.ntmps85
        go_wp2_with (first
          | (go_at_call 76; refine HCH.out.mono ?_; rintro e w0 ⟨rfl, rfl⟩)
          | (go_at_call 104; refine (HIR.out _).mono ?_; rintro e w0 ⟨rfl, rfl⟩))
        go_ret
        exact ⟨rfl, rfl⟩
      · have hd0 : (y0 != 1) = true := by simp [hz0]
        rw [if_neg hz0]
        clear hz0 HC
        go_enter Tryz.func85, Tryz.ntmps85
        go_wp2_with (first
          | (go_at_call 76; refine HCH.out.mono ?_; rintro e w0 ⟨rfl, rfl⟩)
          | (go_at_call 104; refine (HIR.out _).mono ?_; rintro e w0 ⟨rfl, rfl⟩))
        go_ret
        exact ⟨rfl, rfl⟩
set_option maxHeartbeats 4000000 in
theorem i_RefineMap (w : World) (va : Value) (a : List Int) (k : Int) (h1 : Ints w va a) (hk64 : In64 k) :
    Calls Tryz.prog 39 #[va, .int .i64 k] w fun e w' => ∃ x, e = .returned (.tuple #[x, .int .i64 (rfnC a k 1)]) ∧ OwnInts w' w.heap.size tI x (rfnR a k) ∧ Below w.heap.size w w' := by
  have HCH := Lib.hid (i_checkRefine w va a k 1 h1)
  have HA := Lib.hid h1
  obtain ⟨Aa, ca, rfl, -, -, -⟩ := h1.open_
  clear h1
  by_cases hc : rfnC a k 1 = 0
  · obtain ⟨l1, n1, u1, -, n, rfl, hn, hn1⟩ := rfnC_zero hc (by omega)
    have HR := Lib.hid (show rfnR a n = itC (scZ a (pw (n : Int) 10005)) n from by rw [rfnR, if_pos hc]; rfl)
    rw [hc] at HCH ⊢
    have HMM := Lib.hid (fun W Af cf Bp vp (hR : Rows W (.slice Af 37 cf) (T6n.map up)) (hP : FrC W Bp vp) (g : Ints W (.slice Aa a.length ca) a) => i_refined W vp _ Af cf Bp a n hR hP g l1 n1 hn)
    clear hc l1 n1 u1
    go_enter Tryz.func39, Tryz.ntmps39
    go_wp2_with (first
      | (go_at_call 85; refine HCH.out.mono ?_; rintro e w0 ⟨rfl, rfl⟩)
      | (go_at_call 56; go_loud (refine (i_newForms _).mono ?_; rintro e w1 ⟨f, rfl, hf, hb1⟩; obtain ⟨Af, cf, Ay, cy, rfl, hrf, hfc⟩ := hf.openC; have HRF := Lib.hid hrf; have HFC := Lib.hid hfc; have HB1 := Lib.hid hb1; clear hf hrf hfc hb1))
      | (go_at_call 86; go_loud (refine (HMM.out _ _ _ _ _ HRF.out HFC.out (HA.out.below HB1.out)).mono ?_; rintro e w3 ⟨x3, rfl, ho3, hb3⟩; have HO3 := Lib.hid ho3; have HB3 := Lib.hid hb3; clear ho3 hb3)))
    go_ret2
    rw [HR.out]
    exact ⟨_, rfl, HO3.out.mono HB1.out.size, HB1.out.trans (HB3.out.mono HB1.out.size)⟩
  · have HR := Lib.hid (show rfnR a k = [] from if_neg hc)
    rw [HR.out]
    have hd : (rfnC a k 1 != 0) = true := by simp [hc]
    generalize rfnC a k 1 = cc at *
    clear hc HR
    go_enter Tryz.func39, Tryz.ntmps39
    go_wp2_with (go_at_call 85; refine HCH.out.mono ?_; rintro e w0 ⟨rfl, rfl⟩)
    go_ret2
    exact ⟨_, rfl, OwnInts.nil _ _ _, Below.refl _ _⟩
set_option maxHeartbeats 4000000 in
theorem s_RefineMap (w : World) (va : Value) (a : List Int) (k : Int) (h1 : Ints w va a) (hk64 : In64 k) :
    Calls Tryz.prog 38 #[va, .int .i64 k] w fun e w' => ∃ x, e = .returned (.tuple #[x, .int .i64 (rfnC a k 1)]) ∧ OwnInts w' w.heap.size tI x (rfnR a k) ∧ Below w.heap.size w w' := by
  have HCH := Lib.hid (s_l07Is w va a h1)
  have HIR := Lib.hid (fun W => s_l01In k 1 100 W)
  have HA := Lib.hid h1
  obtain ⟨Aa, ca, rfl, -, -, -⟩ := h1.open_
  cases hm : mapB a with
  | false =>
    rw [hm] at HCH
    have HC := Lib.hid (show rfnC a k 1 = 1 from by unfold rfnC; rw [hm]; rfl)
    have HR := Lib.hid (show rfnR a k = [] from by rw [rfnR, HC.out]; rfl)
    clear hm h1
    go_enter Tryz.func38, Tryz.ntmps38
    go_wp2_with (go_at_call 73; refine HCH.out.mono ?_; rintro e w0 ⟨rfl, rfl⟩)
    go_ret2
    rw [HC.out, HR.out]
    exact ⟨_, rfl, OwnInts.nil _ _ _, Below.refl _ _⟩
  | true =>
    rw [hm] at HCH
    obtain ⟨l1, n1⟩ := mapB_true hm
    cases hr : inR k 1 100 with
    | false =>
      rw [hr] at HIR
      have HC := Lib.hid (show rfnC a k 1 = 2 from by unfold rfnC; rw [hm, hr]; rfl)
      have HR := Lib.hid (show rfnR a k = [] from by rw [rfnR, HC.out]; rfl)
      clear hm hr h1 l1 n1
      go_enter Tryz.func38, Tryz.ntmps38
      go_wp2_with (first
        | (go_at_call 73; refine HCH.out.mono ?_; rintro e w0 ⟨rfl, rfl⟩)
        | (go_at_call 83; refine (HIR.out _).mono ?_; rintro e w0 ⟨rfl, rfl⟩))
      go_ret2
      rw [HC.out, HR.out]
      exact ⟨_, rfl, OwnInts.nil _ _ _, Below.refl _ _⟩
    | true =>
      rw [hr] at HIR
      rw [l1] at h1 HA HCH ⊢
      obtain ⟨ad, rfl, hc0, -, -⟩ := map_cell h1 n1 (k := 0) (by omega)
      have hc0 : w.cell? ad = some (.int .i64 (a.getD 0 0)) := by simpa [Addr.add] using hc0
      obtain ⟨y0, hy0⟩ : ∃ y0, y0 = a.getD 0 0 := ⟨_, rfl⟩
      rw [← hy0] at hc0
      by_cases hz0 : y0 = 1
      · have hd0 : (y0 != 1) = false := by simp [hz0]
        have hc : rfnC a k 1 = 0 := by unfold rfnC; rw [if_pos hm, if_pos hr, if_pos (by rw [← hy0]; exact hz0)]
        have u1 : a.getD 0 0 = 1 := by rw [← hy0]; exact hz0
        obtain ⟨-, -, -, -, n, rfl, hn, hn1⟩ := rfnC_zero hc (by omega)
        have HC := Lib.hid hc
        have HR := Lib.hid (show rfnR a n = itC (scZ a (pw (n : Int) 10005)) n from by rw [rfnR, if_pos hc]; rfl)
        have HMM := Lib.hid (s_l17Refine w (.slice (some ad) 38 ca) a n h1 l1 n1 u1 hn)
        clear hm hr h1 l1 n1 hy0 hz0 u1 hc
        go_enter Tryz.func38, Tryz.ntmps38
        go_wp2_with (first
          | (go_at_call 73; refine HCH.out.mono ?_; rintro e w0 ⟨rfl, rfl⟩)
          | (go_at_call 83; refine (HIR.out _).mono ?_; rintro e w0 ⟨rfl, rfl⟩)
          | (go_at_call 84; go_loud (refine HMM.out.mono ?_; rintro e w3 ⟨x3, rfl, ho3, hb3⟩; have HO3 := Lib.hid ho3; have HB3 := Lib.hid hb3; clear ho3 hb3)))
        go_ret2
        rw [HC.out, HR.out]
        exact ⟨_, rfl, HO3.out, HB3.out⟩
      · have hd0 : (y0 != 1) = true := by simp [hz0]
        have HC := Lib.hid (show rfnC a k 1 = 5 from by unfold rfnC; rw [if_pos hm, if_pos hr, if_neg (fun h => hz0 (by rw [hy0]; exact h))])
        have HR := Lib.hid (show rfnR a k = [] from by rw [rfnR, HC.out]; rfl)
        clear hm hr h1 l1 n1 hy0 hz0
        go_enter Tryz.func38, Tryz.ntmps38
        go_wp2_with (first
          | (go_at_call 73; refine HCH.out.mono ?_; rintro e w0 ⟨rfl, rfl⟩)
          | (go_at_call 83; refine (HIR.out _).mono ?_; rintro e w0 ⟨rfl, rfl⟩))
        go_ret2
        rw [HC.out, HR.out]
        exact ⟨_, rfl, OwnInts.nil _ _ _, Below.refl _ _⟩
end Go.Proofs.YtngdpoeondnchaaGreat

set_option maxRecDepth 100000
set_option linter.unusedVariables false
set_option linter.unusedSimpArgs false
namespace Go.Proofs.YtngdpoeondnchaaGreat
open Go.RowKit

theorem law_RefineMap (w : World) (v : Value) (zs : List Int) (ha : Ints w v zs) (n : Int) (hn : In64 n) :
    Calls Tryz.prog 10 #[v, .int .i64 n] w fun e w' => e = .returned (.bool true) ∧ Below w.heap.size w w' :=
  law_FnExactRefineMap_gen w v zs ha n hn (rfnR zs n) (rfnC zs n 1) (fun _ => rfnR_len zs n)
    (fun _ W v0 h0 => (s_RefineMap W v0 zs n h0 hn).mono fun e w' h => by obtain ⟨x, he, ho, hb⟩ := h; exact ⟨x, he, OI.of ho, hb⟩)
    (fun _ W v0 h0 => (i_RefineMap W v0 zs n h0 hn).mono fun e w' h => by obtain ⟨x, he, ho, hb⟩ := h; exact ⟨x, he, OI.of ho, hb⟩)
end Go.Proofs.YtngdpoeondnchaaGreat

set_option linter.unusedVariables false
set_option linter.unusedSimpArgs false
namespace Go.Proofs.YtngdpoeondnchaaGreat
open Go.RowKit

set_option maxRecDepth 100000 in
set_option maxHeartbeats 8000000 in
theorem law_FnExactSymmetrizeMap_gen (w : World) (v0 : Value) (zs0 : List Int) (ha0 : Ints w v0 zs0) (r : List Int) (c : Int) (hR : zs0.length ≤ 1048576 → r.length ≤ 1048576)
    (hS : zs0.length ≤ 1048576 → ∀ (W : World) (v0 : Value), Ints W v0 zs0 → Calls Tryz.prog 36 #[v0] W fun e w' => ∃ u, e = .returned (.tuple #[u, .int .i64 c]) ∧ OI w' W.heap.size w'.heap.size tI u r ∧ Below W.heap.size W w')
    (hI : zs0.length ≤ 1048576 → ∀ (W : World) (v0 : Value), Ints W v0 zs0 → Calls Tryz.prog 37 #[v0] W fun e w' => ∃ u, e = .returned (.tuple #[u, .int .i64 c]) ∧ OI w' W.heap.size w'.heap.size tI u r ∧ Below W.heap.size W w') :
    Calls Tryz.prog 9 #[v0] w fun e w' => e = .returned (.bool true) ∧ Below w.heap.size w w' := by
  have B := Lib.hid (Below.refl w.heap.size w)
  have HS := Lib.hid hS
  have HI := Lib.hid hI
  clear hS hI
  have HR := Lib.hid hR
  clear hR
  have HA0 := Lib.hid ha0
  obtain ⟨A0, c0, rfl, -, -, -⟩ := ha0.open_
  clear ha0
  go_enter Tryz.func9, Tryz.ntmps9
  by_cases hbig0 : (1048576 : Int) < (zs0.length : Int)
  · go_wp2_with fail
    go_ret
    exact ⟨rfl, Below.refl _ _⟩
  have hsm0 : zs0.length ≤ 1048576 := by omega
  go_wp2_with fail
  have HS := Lib.hid (HS.out hsm0)
  have HI := Lib.hid (HI.out hsm0)
  have HR := Lib.hid (HR.out hsm0)
  refine (n_to_ints _ _ zs0 (HA0.out.below B.out) (by omega)).mono ?_
  rintro e w1 ⟨xT0, rfl, hT0, b2⟩
  have Z3 := Lib.hid (b2.size)
  have NB := Lib.hid (B.out.trans (b2.mono B.out.size))
  clear B
  have B := NB
  clear NB
  clear b2
  have T0 := Lib.hid hT0
  clear hT0
  go_wp2_with fail
  refine (HS.out _ _ T0.out.ints).mono ?_
  rintro e w4 ⟨xW, rfl, hW, b5⟩
  have Z6 := Lib.hid (b5.size)
  have NT0 := Lib.hid (T0.out.below b5)
  clear T0
  have T0 := NT0
  clear NT0
  have NB := Lib.hid (B.out.trans (b5.mono B.out.size))
  clear B
  have B := NB
  clear NB
  clear b5
  have W := Lib.hid hW
  clear hW
  clear T0
  go_wp2_with fail
  refine (n_to_ints _ _ zs0 (HA0.out.below B.out) (by omega)).mono ?_
  rintro e w7 ⟨xX0, rfl, hX0, b8⟩
  have Z9 := Lib.hid (b8.size)
  have NW := Lib.hid (W.out.below b8)
  clear W
  have W := NW
  clear NW
  have NB := Lib.hid (B.out.trans (b8.mono B.out.size))
  clear B
  have B := NB
  clear NB
  clear b8
  have X0 := Lib.hid hX0
  clear hX0
  go_wp2_with fail
  refine (HI.out _ _ X0.out.ints).mono ?_
  rintro e w10 ⟨xG, rfl, hG, b11⟩
  have Z12 := Lib.hid (b11.size)
  have NW := Lib.hid (W.out.below b11)
  clear W
  have W := NW
  clear NW
  have NX0 := Lib.hid (X0.out.below b11)
  clear X0
  have X0 := NX0
  clear NX0
  have NB := Lib.hid (B.out.trans (b11.mono B.out.size))
  clear B
  have B := NB
  clear NB
  clear b11
  have G := Lib.hid hG
  clear hG
  go_wp2_with fail
  refine (n_eq_ints _ _ _ r G.out.ints W.out.ints).mono ?_
  rintro e w13 ⟨rfl, b14⟩
  have Z15 := Lib.hid (b14.size)
  have NW := Lib.hid (W.out.below b14)
  clear W
  have W := NW
  clear NW
  have NX0 := Lib.hid (X0.out.below b14)
  clear X0
  have X0 := NX0
  clear NX0
  have NG := Lib.hid (G.out.below b14)
  clear G
  have G := NG
  clear NG
  have NB := Lib.hid (B.out.trans (b14.mono B.out.size))
  clear B
  have B := NB
  clear NB
  clear b14
  go_wp2_with fail
  refine (n_to_ints _ _ zs0 (HA0.out.below B.out) (by omega)).mono ?_
  rintro e w16 ⟨xY0, rfl, hY0, b17⟩
  have Z18 := Lib.hid (b17.size)
  have NW := Lib.hid (W.out.below b17)
  clear W
  have W := NW
  clear NW
  have NX0 := Lib.hid (X0.out.below b17)
  clear X0
  have X0 := NX0
  clear NX0
  have NG := Lib.hid (G.out.below b17)
  clear G
  have G := NG
  clear NG
  have NB := Lib.hid (B.out.trans (b17.mono B.out.size))
  clear B
  have B := NB
  clear NB
  clear b17
  have Y0 := Lib.hid hY0
  clear hY0
  go_wp2_with fail
  refine (n_eq_ints _ _ _ zs0 X0.out.ints Y0.out.ints).mono ?_
  rintro e w19 ⟨rfl, b20⟩
  have Z21 := Lib.hid (b20.size)
  have NW := Lib.hid (W.out.below b20)
  clear W
  have W := NW
  clear NW
  have NX0 := Lib.hid (X0.out.below b20)
  clear X0
  have X0 := NX0
  clear NX0
  have NG := Lib.hid (G.out.below b20)
  clear G
  have G := NG
  clear NG
  have NY0 := Lib.hid (Y0.out.below b20)
  clear Y0
  have Y0 := NY0
  clear NY0
  have NB := Lib.hid (B.out.trans (b20.mono B.out.size))
  clear B
  have B := NB
  clear NB
  clear b20
  clear Y0
  go_wp2_with fail
  refine (n_mark_ints _ _ _ _ zs0 (1) X0.out (by omega) (by omega) (by omega)).mono ?_
  rintro e w22 ⟨rfl, -, chw22⟩
  have Z23 := Lib.hid (chw22.size)
  have NW := Lib.hid (W.out.kept chw22 (by have y0 := Z3.out; have y1 := Z6.out; have y2 := Z9.out; have y3 := Z12.out; have y4 := Z15.out; have y5 := Z18.out; have y6 := Z21.out; have y7 := Z23.out; omega))
  clear W
  have W := NW
  clear NW
  have NG := Lib.hid (G.out.kept chw22 (by have y0 := Z3.out; have y1 := Z6.out; have y2 := Z9.out; have y3 := Z12.out; have y4 := Z15.out; have y5 := Z18.out; have y6 := Z21.out; have y7 := Z23.out; omega))
  clear G
  have G := NG
  clear NG
  clear X0
  have NB := Lib.hid (chw22.below B.out (by have y0 := Z3.out; have y1 := Z6.out; have y2 := Z9.out; have y3 := Z12.out; have y4 := Z15.out; have y5 := Z18.out; have y6 := Z21.out; have y7 := Z23.out; omega) B.out.size)
  clear B
  have B := NB
  clear NB
  clear chw22
  have hk0 : (0 : Int) ≤ 1 + (zs0.length : Int) := by omega
  go_wp2_with fail
  clear hk0
  refine (n_eq_ints _ _ _ r G.out.ints W.out.ints).mono ?_
  rintro e w24 ⟨rfl, b25⟩
  have Z26 := Lib.hid (b25.size)
  have NW := Lib.hid (W.out.below b25)
  clear W
  have W := NW
  clear NW
  have NG := Lib.hid (G.out.below b25)
  clear G
  have G := NG
  clear NG
  have NB := Lib.hid (B.out.trans (b25.mono B.out.size))
  clear B
  have B := NB
  clear NB
  clear b25
  go_wp2_with fail
  have hr0 : (0 : Int) ≤ 1 + ((r.length : Nat) : Int) := by omega
  refine (n_mark_ints _ _ _ _ r 1 G.out (by have y := HR.out; omega) (by omega) (by omega)).mono ?_
  rintro e w27 ⟨rfl, hw27, chw27⟩
  have Z28 := Lib.hid (chw27.size)
  have NW := Lib.hid (W.out.kept chw27 (by have y0 := Z3.out; have y1 := Z6.out; have y2 := Z9.out; have y3 := Z12.out; have y4 := Z15.out; have y5 := Z18.out; have y6 := Z21.out; have y7 := Z23.out; have y8 := Z26.out; have y9 := Z28.out; omega))
  clear W
  have W := NW
  clear NW
  have NG := Lib.hid (hw27)
  clear G
  have G := NG
  clear NG
  have NB := Lib.hid (chw27.below B.out (by have y0 := Z3.out; have y1 := Z6.out; have y2 := Z9.out; have y3 := Z12.out; have y4 := Z15.out; have y5 := Z18.out; have y6 := Z21.out; have y7 := Z23.out; have y8 := Z26.out; have y9 := Z28.out; omega) B.out.size)
  clear B
  have B := NB
  clear NB
  clear hw27 chw27
  go_wp2_with fail
  refine (n_held_ints _ _ r.length G.out.ints (by have y := HR.out; omega)).mono ?_
  rintro e w29 ⟨rfl, b30⟩
  have Z31 := Lib.hid (b30.size)
  have NW := Lib.hid (W.out.below b30)
  clear W
  have W := NW
  clear NW
  have NG := Lib.hid (G.out.below b30)
  clear G
  have G := NG
  clear NG
  have NB := Lib.hid (B.out.trans (b30.mono B.out.size))
  clear B
  have B := NB
  clear NB
  clear b30
  go_wp2_with fail
  refine (n_to_ints _ _ zs0 (HA0.out.below B.out) (by omega)).mono ?_
  rintro e w32 ⟨xV0, rfl, hV0, b33⟩
  have Z34 := Lib.hid (b33.size)
  have NW := Lib.hid (W.out.below b33)
  clear W
  have W := NW
  clear NW
  have NG := Lib.hid (G.out.below b33)
  clear G
  have G := NG
  clear NG
  have NB := Lib.hid (B.out.trans (b33.mono B.out.size))
  clear B
  have B := NB
  clear NB
  clear b33
  have V0 := Lib.hid hV0
  clear hV0
  go_wp2_with fail
  refine (HI.out _ _ V0.out.ints).mono ?_
  rintro e w35 ⟨xH, rfl, hH, b36⟩
  have Z37 := Lib.hid (b36.size)
  have NW := Lib.hid (W.out.below b36)
  clear W
  have W := NW
  clear NW
  have NG := Lib.hid (G.out.below b36)
  clear G
  have G := NG
  clear NG
  have NV0 := Lib.hid (V0.out.below b36)
  clear V0
  have V0 := NV0
  clear NV0
  have NB := Lib.hid (B.out.trans (b36.mono B.out.size))
  clear B
  have B := NB
  clear NB
  clear b36
  have H := Lib.hid hH
  clear hH
  clear V0
  go_wp2_with fail
  refine (n_eq_ints _ _ _ r H.out.ints W.out.ints).mono ?_
  rintro e w38 ⟨rfl, b39⟩
  have Z40 := Lib.hid (b39.size)
  have NW := Lib.hid (W.out.below b39)
  clear W
  have W := NW
  clear NW
  have NG := Lib.hid (G.out.below b39)
  clear G
  have G := NG
  clear NG
  have NH := Lib.hid (H.out.below b39)
  clear H
  have H := NH
  clear NH
  have NB := Lib.hid (B.out.trans (b39.mono B.out.size))
  clear B
  have B := NB
  clear NB
  clear b39
  go_wp2_with fail
  refine (n_held_ints _ _ r.length G.out.ints (by have y := HR.out; omega)).mono ?_
  rintro e w41 ⟨rfl, b42⟩
  have Z43 := Lib.hid (b42.size)
  have NW := Lib.hid (W.out.below b42)
  clear W
  have W := NW
  clear NW
  have NG := Lib.hid (G.out.below b42)
  clear G
  have G := NG
  clear NG
  have NH := Lib.hid (H.out.below b42)
  clear H
  have H := NH
  clear NH
  have NB := Lib.hid (B.out.trans (b42.mono B.out.size))
  clear B
  have B := NB
  clear NB
  clear b42
  go_wp2_with fail
  go_ret
  exact ⟨rfl, B.out⟩
end Go.Proofs.YtngdpoeondnchaaGreat

