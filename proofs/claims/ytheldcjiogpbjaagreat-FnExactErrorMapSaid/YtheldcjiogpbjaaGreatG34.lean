/- The law FnExactErrorMap, walked over the contracts of both. (printed by lawgen3.py) | Walks: ErrorMap of the program and of the reference. | The law FnExactErrorMap. -/
import Derived.Test.YtheldcjiogpbjaaGreatG2
import Derived.WalkLawsBesides
import Derived.Deep.RegionHeld3
import Derived.Test.YtheldcjiogpbjaaGreatG32
set_option linter.unusedVariables false
set_option linter.unusedSimpArgs false
namespace Go.Proofs.YtheldcjiogpbjaaGreat
open Go.RowKit

set_option maxRecDepth 100000 in
set_option maxHeartbeats 8000000 in
theorem law_FnExactErrorMap_gen (w : World) (v0 : Value) (zs0 : List Int) (ha0 : Ints w v0 zs0) (r : List Int) (c : Int) (hR : zs0.length ≤ 1048576 → r.length ≤ 1048576)
    (hS : zs0.length ≤ 1048576 → ∀ (W : World) (v0 : Value), Ints W v0 zs0 → Calls Tryz.prog 41 #[v0] W fun e w' => ∃ u, e = .returned (.tuple #[u, .int .i64 c]) ∧ OI w' W.heap.size w'.heap.size tI u r ∧ Below W.heap.size W w')
    (hI : zs0.length ≤ 1048576 → ∀ (W : World) (v0 : Value), Ints W v0 zs0 → Calls Tryz.prog 42 #[v0] W fun e w' => ∃ u, e = .returned (.tuple #[u, .int .i64 c]) ∧ OI w' W.heap.size w'.heap.size tI u r ∧ Below W.heap.size W w') :
    Calls Tryz.prog 14 #[v0] w fun e w' => e = .returned (.bool true) ∧ Below w.heap.size w w' := by
  have B := Lib.hid (Below.refl w.heap.size w)
  have HS := Lib.hid hS
  have HI := Lib.hid hI
  clear hS hI
  have HR := Lib.hid hR
  clear hR
  have HA0 := Lib.hid ha0
  obtain ⟨A0, c0, rfl, -, -, -⟩ := ha0.open_
  clear ha0
  go_enter Tryz.func14, Tryz.ntmps14
  by_cases hbig0 : (1048576 : Int) < (zs0.length : Int)
  · go_wp2_with fail
    go_ret
    exact ⟨rfl, Below.refl _ _⟩
  have hsm0 : zs0.length ≤ 1048576 := by omega
  go_wp2_with fail
  have HS := Lib.hid (HS.out hsm0)
  have HI := Lib.hid (HI.out hsm0)
  have HR := Lib.hid (HR.out hsm0)
  refine (n_to_ints _ _ zs0 (HA0.out.below B.out) (by omega)).mono ?_
  rintro e w1 ⟨xT0, rfl, hT0, b2⟩
  have Z3 := Lib.hid (b2.size)
  have NB := Lib.hid (B.out.trans (b2.mono B.out.size))
  clear B
  have B := NB
  clear NB
  clear b2
  have T0 := Lib.hid hT0
  clear hT0
  go_wp2_with fail
  refine (HS.out _ _ T0.out.ints).mono ?_
  rintro e w4 ⟨xW, rfl, hW, b5⟩
  have Z6 := Lib.hid (b5.size)
  have NT0 := Lib.hid (T0.out.below b5)
  clear T0
  have T0 := NT0
  clear NT0
  have NB := Lib.hid (B.out.trans (b5.mono B.out.size))
  clear B
  have B := NB
  clear NB
  clear b5
  have W := Lib.hid hW
  clear hW
  clear T0
  go_wp2_with fail
  refine (n_to_ints _ _ zs0 (HA0.out.below B.out) (by omega)).mono ?_
  rintro e w7 ⟨xX0, rfl, hX0, b8⟩
  have Z9 := Lib.hid (b8.size)
  have NW := Lib.hid (W.out.below b8)
  clear W
  have W := NW
  clear NW
  have NB := Lib.hid (B.out.trans (b8.mono B.out.size))
  clear B
  have B := NB
  clear NB
  clear b8
  have X0 := Lib.hid hX0
  clear hX0
  go_wp2_with fail
  refine (HI.out _ _ X0.out.ints).mono ?_
  rintro e w10 ⟨xG, rfl, hG, b11⟩
  have Z12 := Lib.hid (b11.size)
  have NW := Lib.hid (W.out.below b11)
  clear W
  have W := NW
  clear NW
  have NX0 := Lib.hid (X0.out.below b11)
  clear X0
  have X0 := NX0
  clear NX0
  have NB := Lib.hid (B.out.trans (b11.mono B.out.size))
  clear B
  have B := NB
  clear NB
  clear b11
  have G := Lib.hid hG
  clear hG
  go_wp2_with fail
  refine (n_eq_ints _ _ _ r G.out.ints W.out.ints).mono ?_
  rintro e w13 ⟨rfl, b14⟩
  have Z15 := Lib.hid (b14.size)
  have NW := Lib.hid (W.out.below b14)
  clear W
  have W := NW
  clear NW
  have NX0 := Lib.hid (X0.out.below b14)
  clear X0
  have X0 := NX0
  clear NX0
  have NG := Lib.hid (G.out.below b14)
  clear G
  have G := NG
  clear NG
  have NB := Lib.hid (B.out.trans (b14.mono B.out.size))
  clear B
  have B := NB
  clear NB
  clear b14
  go_wp2_with fail
  refine (n_to_ints _ _ zs0 (HA0.out.below B.out) (by omega)).mono ?_
  rintro e w16 ⟨xY0, rfl, hY0, b17⟩
  have Z18 := Lib.hid (b17.size)
  have NW := Lib.hid (W.out.below b17)
  clear W
  have W := NW
  clear NW
  have NX0 := Lib.hid (X0.out.below b17)
  clear X0
  have X0 := NX0
  clear NX0
  have NG := Lib.hid (G.out.below b17)
  clear G
  have G := NG
  clear NG
  have NB := Lib.hid (B.out.trans (b17.mono B.out.size))
  clear B
  have B := NB
  clear NB
  clear b17
  have Y0 := Lib.hid hY0
  clear hY0
  go_wp2_with fail
  refine (n_eq_ints _ _ _ zs0 X0.out.ints Y0.out.ints).mono ?_
  rintro e w19 ⟨rfl, b20⟩
  have Z21 := Lib.hid (b20.size)
  have NW := Lib.hid (W.out.below b20)
  clear W
  have W := NW
  clear NW
  have NX0 := Lib.hid (X0.out.below b20)
  clear X0
  have X0 := NX0
  clear NX0
  have NG := Lib.hid (G.out.below b20)
  clear G
  have G := NG
  clear NG
  have NY0 := Lib.hid (Y0.out.below b20)
  clear Y0
  have Y0 := NY0
  clear NY0
  have NB := Lib.hid (B.out.trans (b20.mono B.out.size))
  clear B
  have B := NB
  clear NB
  clear b20
  clear Y0
  go_wp2_with fail
  refine (n_mark_ints _ _ _ _ zs0 (1) X0.out (by omega) (by omega) (by omega)).mono ?_
  rintro e w22 ⟨rfl, -, chw22⟩
  have Z23 := Lib.hid (chw22.size)
  have NW := Lib.hid (W.out.kept chw22 (by have y0 := Z3.out; have y1 := Z6.out; have y2 := Z9.out; have y3 := Z12.out; have y4 := Z15.out; have y5 := Z18.out; have y6 := Z21.out; have y7 := Z23.out; omega))
  clear W
  have W := NW
  clear NW
  have NG := Lib.hid (G.out.kept chw22 (by have y0 := Z3.out; have y1 := Z6.out; have y2 := Z9.out; have y3 := Z12.out; have y4 := Z15.out; have y5 := Z18.out; have y6 := Z21.out; have y7 := Z23.out; omega))
  clear G
  have G := NG
  clear NG
  clear X0
  have NB := Lib.hid (chw22.below B.out (by have y0 := Z3.out; have y1 := Z6.out; have y2 := Z9.out; have y3 := Z12.out; have y4 := Z15.out; have y5 := Z18.out; have y6 := Z21.out; have y7 := Z23.out; omega) B.out.size)
  clear B
  have B := NB
  clear NB
  clear chw22
  have hk0 : (0 : Int) ≤ 1 + (zs0.length : Int) := by omega
  go_wp2_with fail
  clear hk0
  refine (n_eq_ints _ _ _ r G.out.ints W.out.ints).mono ?_
  rintro e w24 ⟨rfl, b25⟩
  have Z26 := Lib.hid (b25.size)
  have NW := Lib.hid (W.out.below b25)
  clear W
  have W := NW
  clear NW
  have NG := Lib.hid (G.out.below b25)
  clear G
  have G := NG
  clear NG
  have NB := Lib.hid (B.out.trans (b25.mono B.out.size))
  clear B
  have B := NB
  clear NB
  clear b25
  go_wp2_with fail
  have hr0 : (0 : Int) ≤ 1 + ((r.length : Nat) : Int) := by omega
  refine (n_mark_ints _ _ _ _ r 1 G.out (by have y := HR.out; omega) (by omega) (by omega)).mono ?_
  rintro e w27 ⟨rfl, hw27, chw27⟩
  have Z28 := Lib.hid (chw27.size)
  have NW := Lib.hid (W.out.kept chw27 (by have y0 := Z3.out; have y1 := Z6.out; have y2 := Z9.out; have y3 := Z12.out; have y4 := Z15.out; have y5 := Z18.out; have y6 := Z21.out; have y7 := Z23.out; have y8 := Z26.out; have y9 := Z28.out; omega))
  clear W
  have W := NW
  clear NW
  have NG := Lib.hid (hw27)
  clear G
  have G := NG
  clear NG
  have NB := Lib.hid (chw27.below B.out (by have y0 := Z3.out; have y1 := Z6.out; have y2 := Z9.out; have y3 := Z12.out; have y4 := Z15.out; have y5 := Z18.out; have y6 := Z21.out; have y7 := Z23.out; have y8 := Z26.out; have y9 := Z28.out; omega) B.out.size)
  clear B
  have B := NB
  clear NB
  clear hw27 chw27
  go_wp2_with fail
  refine (n_held_ints _ _ r.length G.out.ints (by have y := HR.out; omega)).mono ?_
  rintro e w29 ⟨rfl, b30⟩
  have Z31 := Lib.hid (b30.size)
  have NW := Lib.hid (W.out.below b30)
  clear W
  have W := NW
  clear NW
  have NG := Lib.hid (G.out.below b30)
  clear G
  have G := NG
  clear NG
  have NB := Lib.hid (B.out.trans (b30.mono B.out.size))
  clear B
  have B := NB
  clear NB
  clear b30
  go_wp2_with fail
  refine (n_to_ints _ _ zs0 (HA0.out.below B.out) (by omega)).mono ?_
  rintro e w32 ⟨xV0, rfl, hV0, b33⟩
  have Z34 := Lib.hid (b33.size)
  have NW := Lib.hid (W.out.below b33)
  clear W
  have W := NW
  clear NW
  have NG := Lib.hid (G.out.below b33)
  clear G
  have G := NG
  clear NG
  have NB := Lib.hid (B.out.trans (b33.mono B.out.size))
  clear B
  have B := NB
  clear NB
  clear b33
  have V0 := Lib.hid hV0
  clear hV0
  go_wp2_with fail
  refine (HI.out _ _ V0.out.ints).mono ?_
  rintro e w35 ⟨xH, rfl, hH, b36⟩
  have Z37 := Lib.hid (b36.size)
  have NW := Lib.hid (W.out.below b36)
  clear W
  have W := NW
  clear NW
  have NG := Lib.hid (G.out.below b36)
  clear G
  have G := NG
  clear NG
  have NV0 := Lib.hid (V0.out.below b36)
  clear V0
  have V0 := NV0
  clear NV0
  have NB := Lib.hid (B.out.trans (b36.mono B.out.size))
  clear B
  have B := NB
  clear NB
  clear b36
  have H := Lib.hid hH
  clear hH
  clear V0
  go_wp2_with fail
  refine (n_eq_ints _ _ _ r H.out.ints W.out.ints).mono ?_
  rintro e w38 ⟨rfl, b39⟩
  have Z40 := Lib.hid (b39.size)
  have NW := Lib.hid (W.out.below b39)
  clear W
  have W := NW
  clear NW
  have NG := Lib.hid (G.out.below b39)
  clear G
  have G := NG
  clear NG
  have NH := Lib.hid (H.out.below b39)
  clear H
  have H := NH
  clear NH
  have NB := Lib.hid (B.out.trans (b39.mono B.out.size))
  clear B
  have B := NB
  clear NB
  clear b39
  go_wp2_with fail
  refine (n_held_ints _ _ r.length G.out.ints (by have y := HR.out; omega)).mono ?_
  rintro e w41 ⟨rfl, b42⟩
  have Z43 := Lib.hid (b42.size)
  have NW := Lib.hid (W.out.below b42)
  clear W
  have W := NW
  clear NW
  have NG := Lib.hid (G.out.below b42)
  clear G
  have G := NG
  clear NG
  have NH := Lib.hid (H.out.below b42)
  clear H
  have H := NH
  clear NH
  have NB := Lib.hid (B.out.trans (b42.mono B.out.size))
  clear B
  have B := NB
  clear NB
  clear b42
  go_wp2_with fail
  go_ret
  exact ⟨rfl, B.out⟩
end Go.Proofs.YtheldcjiogpbjaaGreat
set_option maxRecDepth 100000
set_option linter.unusedVariables false
set_option linter.unusedSimpArgs false
namespace Go.Proofs.YtheldcjiogpbjaaGreat
open Go.RowKit

noncomputable def ermR (a : List Int) : List Int := if chrC a = 0 then addk 10006 (intZ EX a) unitL else []
theorem addk_len38 (a : List Int) : (addk 10006 (intZ EX a) unitL).length = 38 := by
  unfold addk addTo intZ
  simp [filS_len]
theorem unitL_nums' : Nums unitL := fun z h => unitL_nums z h
theorem unitL_get (j : Nat) : unitL.getD j 0 = if j = 1 then 1 else 0 := by
  unfold unitL
  match j with
  | 0 => rfl
  | 1 => rfl
  | j + 2 =>
    rw [if_neg (by omega), List.getD_eq_getElem?_getD]
    simp only [List.getElem?_cons_succ, List.getElem?_replicate]
    split <;> rfl
/-- minus the unit: one number less at the tree with one node -/
theorem erm_set {L : List Int} (hl : L.length = 38) (hN : Nums L) : addk 10006 L unitL = L.set 1 ((L.getD 1 0 - 1) % 10007) := by
  apply List.ext_getElem
  · simp [addk, addTo, hl]
  · intro i h1 h2
    have hi : i < 38 := by simpa [addk, addTo, hl] using h1
    have hb := hN (L[i]'(by omega)) (List.getElem_mem _)
    rw [List.getElem_set]
    have e : (addk 10006 L unitL)[i] = (L.getD i 0 + 10006 * unitL.getD i 0) % 10007 := by simp [addk, addTo]
    have e2 : L.getD i 0 = L[i]'(by omega) := by rw [List.getD_eq_getElem?_getD, List.getElem?_eq_getElem (by omega)]; rfl
    rw [e, unitL_get]
    by_cases h : 1 = i
    · subst h
      rw [if_pos rfl, if_pos rfl]
      omega
    · rw [if_neg (fun e => h e.symm), if_neg h, e2]
      omega
set_option maxHeartbeats 4000000 in
theorem i_ErrorMap (w : World) (v : Value) (a : List Int) (h1 : Ints w v a) :
    Calls Tryz.prog 42 #[v] w fun e w' => ∃ x, e = .returned (.tuple #[x, .int .i64 (chrC a)]) ∧ OwnInts w' w.heap.size tI x (ermR a) ∧ Below w.heap.size w w' := by
  have HCH := Lib.hid (i_checkCharacter w v a h1)
  have HA := Lib.hid h1
  obtain ⟨A, c, rfl, -, -, -⟩ := h1.open_
  clear h1
  by_cases hc : chrC a = 0
  · obtain ⟨hm, -⟩ := chr_of hc
    obtain ⟨l1, n1⟩ := mapB_true hm
    have HR := Lib.hid (show ermR a = addk 10006 (intZ EX a) unitL from if_pos hc)
    rw [hc] at HCH ⊢
    have HMM := Lib.hid (fun W v0 Bf m0 d (h : Rows W v0 (T6n.map up)) (g : Ints W (.slice A a.length c) a) => i_modifiedMap W v0 _ Bf m0 d a h g l1 n1)
    have HPL := Lib.hid (fun W x y (h2 : Ints W x (intZ EX a)) (h3 : Ints W y unitL) => show Calls Tryz.prog 89 #[x, y, .int .i64 (-1)] W fun e w' => ∃ r, e = .returned r ∧ OwnInts w' W.heap.size tI r (addk 10006 (intZ EX a) unitL) ∧ Below W.heap.size W w' from by
      have h := i_plus W x y (intZ EX a) unitL (-1) h2 h3 (intZ_nums _ _) unitL_nums' (by unfold intZ; rw [filS_len]; exact Nat.le_refl _) (by unfold intZ; rw [filS_len]; omega) (by omega) (by omega)
      rwa [show (-1 : Int) % 10007 = 10006 from by decide] at h)
    clear hc hm l1 n1
    go_enter Tryz.func42, Tryz.ntmps42
    go_wp2_with (first
      | (go_at_call 63; refine HCH.out.mono ?_; rintro e w0 ⟨rfl, rfl⟩)
      | (go_at_call 48; go_loud (refine (i_newForms _).mono ?_; rintro e w1 ⟨f, rfl, hf, hb1⟩; obtain ⟨Af, cf, Ay, my, cy, rfl, hrf⟩ := hf.opens; have HRF := Lib.hid hrf; have HB1 := Lib.hid hb1; clear hf hrf hb1))
      | (go_at_call 76; go_loud (refine (HMM.out _ _ Ay my cy HRF.out (HA.out.below HB1.out)).mono ?_; rintro e w3 ⟨x3, rfl, ho3, hb3⟩; have HO3 := Lib.hid ho3; have HB3 := Lib.hid (HB1.out.trans (hb3.mono HB1.out.size)); clear ho3 hb3))
      | (go_at_call 82; go_loud (refine (i_SubstitutionUnit _).mono ?_; rintro e w4 ⟨x4, rfl, ho4, hb4⟩; have HO4 := Lib.hid ho4; have HB4 := Lib.hid (HB3.out.trans (hb4.mono HB3.out.size)); have HB34 := Lib.hid hb4; clear ho4 hb4))
      | (go_at_call 89; go_loud (refine (HPL.out _ _ _ (HO3.out.below HB34.out).ints HO4.out.ints).mono ?_; rintro e w5 ⟨x5, rfl, ho5, hb5⟩; have HO5 := Lib.hid ho5; have HB5 := Lib.hid hb5; clear ho5 hb5)))
    go_ret2
    rw [HR.out]
    exact ⟨_, rfl, HO5.out.mono HB4.out.size, HB4.out.trans (HB5.out.mono HB4.out.size)⟩
  · have HR := Lib.hid (show ermR a = [] from if_neg hc)
    rw [HR.out]
    have hd : (chrC a != 0) = true := by simp [hc]
    generalize chrC a = cc at *
    clear hc HR
    go_enter Tryz.func42, Tryz.ntmps42
    go_wp2_with (go_at_call 63; refine HCH.out.mono ?_; rintro e w0 ⟨rfl, rfl⟩)
    go_ret2
    exact ⟨_, rfl, OwnInts.nil _ _ _, Below.refl _ _⟩
set_option maxHeartbeats 4000000 in
theorem s_ErrorMap (w : World) (v : Value) (a : List Int) (h1 : Ints w v a) :
    Calls Tryz.prog 41 #[v] w fun e w' => ∃ x, e = .returned (.tuple #[x, .int .i64 (chrC a)]) ∧ OwnInts w' w.heap.size tI x (ermR a) ∧ Below w.heap.size w w' := by
  have HCH := Lib.hid (s_ModifiedMap w v a h1)
  obtain ⟨A, c, rfl, -, -, -⟩ := h1.open_
  clear h1
  by_cases hc : chrC a = 0
  · have HR := Lib.hid (show ermR a = (intZ EX a).set 1 (((intZ EX a).getD 1 0 - 1) % 10007) from by
      unfold ermR
      rw [if_pos hc, erm_set (by unfold intZ; exact filS_len _ _) (intZ_nums _ _)])
    have HMR := Lib.hid (show mdmR a = intZ EX a from if_pos hc)
    rw [hc] at HCH ⊢
    have HLN := Lib.hid (show (intZ EX a).length = 38 from by unfold intZ; exact filS_len _ _)
    have HNN := Lib.hid (intZ_nums EX a)
    clear hc
    go_enter Tryz.func41, Tryz.ntmps41
    obtain ⟨L, hL⟩ : ∃ L, L = intZ EX a := ⟨_, rfl⟩
    have HL := Lib.hid hL
    rw [← hL] at HR HLN HNN
    go_upto_region 2 with (go_at_call 33; go_loud (refine HCH.out.mono ?_; rintro e w1 ⟨x1, rfl, ho1, hb1⟩; rw [HMR.out, ← HL.out] at ho1; have HO1 := Lib.hid ho1; have HB1 := Lib.hid hb1; clear ho1 hb1))
    rcases HO1.out.1.cases with ⟨-, he⟩ | ⟨g, cap, cur, he, -, -, -⟩
    · have := congrArg List.length he
      rw [ints_len, HLN.out] at this
      exact absurd this (by decide)
    · rw [ints_len, HLN.out] at he
      subst he
      clear hL
      obtain ⟨_, he, hcx, hx0, hx1⟩ := map_cell HO1.out.ints HNN.out (k := 1) (by omega)
      simp only [Option.some.injEq] at he
      subst he
      rw [addr_add] at hcx
      generalize L.getD 1 0 = y at *
      obtain ⟨u0, -, hcg, hfg, -, -, hown', hgr⟩ := HO1.out.1.storeAt (k := 1) (by rw [ints_len, HLN.out]; omega) (.int .i64 ((y - 1) % 10007))
      rw [ints_set, ← HR.out] at hown'
      have HO4 := Lib.hid hown'
      have hge := HO1.out.1.ge g rfl
      have hin : ∀ z ∈ ermR a, In64 z := by
        intro z hz
        rw [HR.out] at hz
        rcases List.mem_or_eq_of_mem_set hz with hz | rfl
        · exact in64_num (HNN.out z hz)
        · exact in64_num (by omega)
      have HIN := Lib.hid hin
      clear hown' hgr hin
      go_wp2_with (go_at_call 88; refine (s_l01Sub y 1 _ (by omega) (by omega) (by omega) (by omega)).mono ?_; rintro e w7 ⟨rfl, rfl⟩)
      go_ret2
      exact ⟨_, rfl, ⟨HO4.out, HIN.out⟩, HB1.out.setCell (p := ⟨g, 1, none⟩) hge _⟩
  · have HR := Lib.hid (show ermR a = [] from if_neg hc)
    rw [HR.out]
    have hd : (chrC a != 0) = true := by simp [hc]
    generalize chrC a = cc at *
    clear hc HR
    go_enter Tryz.func41, Tryz.ntmps41
    go_wp2_with (go_at_call 33; go_loud (refine HCH.out.mono ?_; rintro e w1 ⟨x1, rfl, ho1, hb1⟩; obtain ⟨A1, c1, rfl, -, -, -⟩ := ho1.ints.open_; have HB1 := Lib.hid hb1; clear ho1 hb1))
    go_ret2
    exact ⟨_, rfl, OwnInts.nil _ _ _, HB1.out⟩
end Go.Proofs.YtheldcjiogpbjaaGreat
set_option maxRecDepth 100000
set_option linter.unusedVariables false
set_option linter.unusedSimpArgs false
namespace Go.Proofs.YtheldcjiogpbjaaGreat
open Go.RowKit

theorem ermR_len (a : List Int) : (ermR a).length ≤ 1048576 := by
  unfold ermR
  split
  · rw [addk_len38]; omega
  · simp
theorem law_ErrorMap (w : World) (v : Value) (zs : List Int) (ha : Ints w v zs) :
    Calls Tryz.prog 14 #[v] w fun e w' => e = .returned (.bool true) ∧ Below w.heap.size w w' :=
  law_FnExactErrorMap_gen w v zs ha (ermR zs) (chrC zs) (fun _ => ermR_len zs)
    (fun _ W v0 h0 => (s_ErrorMap W v0 zs h0).mono fun e w' h => by obtain ⟨x, he, ho, hb⟩ := h; exact ⟨x, he, OI.of ho, hb⟩)
    (fun _ W v0 h0 => (i_ErrorMap W v0 zs h0).mono fun e w' h => by obtain ⟨x, he, ho, hb⟩ := h; exact ⟨x, he, OI.of ho, hb⟩)
end Go.Proofs.YtheldcjiogpbjaaGreat
