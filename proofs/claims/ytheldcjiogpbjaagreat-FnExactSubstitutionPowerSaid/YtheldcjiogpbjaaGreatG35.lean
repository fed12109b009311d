/- The law FnExactSubstitutionPower, walked over the contracts of both. (printed by lawgen3.py) | Walks: SubstitutionPower of the program and of the reference. | The law FnExactSubstitutionPower. -/
import Derived.Test.YtheldcjiogpbjaaGreatG2
import Derived.WalkLawsBesides
import Derived.Deep.RegionHeld3
import Derived.Test.YtheldcjiogpbjaaGreatG32
set_option linter.unusedVariables false
set_option linter.unusedSimpArgs false
namespace Go.Proofs.YtheldcjiogpbjaaGreat
open Go.RowKit

set_option maxRecDepth 100000 in
set_option maxHeartbeats 8000000 in
theorem law_FnExactSubstitutionPower_gen (w : World) (v0 : Value) (zs0 : List Int) (ha0 : Ints w v0 zs0) (n1 : Int) (ha1 : In64 n1) (r : List Int) (c : Int) (hR : zs0.length ≤ 1048576 → r.length ≤ 1048576)
    (hS : zs0.length ≤ 1048576 → ∀ (W : World) (v0 : Value), Ints W v0 zs0 → Calls Tryz.prog 35 #[v0, .int .i64 n1] W fun e w' => ∃ u, e = .returned (.tuple #[u, .int .i64 c]) ∧ OI w' W.heap.size w'.heap.size tI u r ∧ Below W.heap.size W w')
    (hI : zs0.length ≤ 1048576 → ∀ (W : World) (v0 : Value), Ints W v0 zs0 → Calls Tryz.prog 36 #[v0, .int .i64 n1] W fun e w' => ∃ u, e = .returned (.tuple #[u, .int .i64 c]) ∧ OI w' W.heap.size w'.heap.size tI u r ∧ Below W.heap.size W w') :
    Calls Tryz.prog 11 #[v0, .int .i64 n1] w fun e w' => e = .returned (.bool true) ∧ Below w.heap.size w w' := by
  have B := Lib.hid (Below.refl w.heap.size w)
  have HS := Lib.hid hS
  have HI := Lib.hid hI
  clear hS hI
  have HR := Lib.hid hR
  clear hR
  have HA0 := Lib.hid ha0
  obtain ⟨A0, c0, rfl, -, -, -⟩ := ha0.open_
  clear ha0
  go_enter Tryz.func11, Tryz.ntmps11
  by_cases hbig0 : (1048576 : Int) < (zs0.length : Int)
  · go_wp2_with fail
    go_ret
    exact ⟨rfl, Below.refl _ _⟩
  have hsm0 : zs0.length ≤ 1048576 := by omega
  go_wp2_with fail
  have HS := Lib.hid (HS.out hsm0)
  have HI := Lib.hid (HI.out hsm0)
  have HR := Lib.hid (HR.out hsm0)
  refine (n_to_ints _ _ zs0 (HA0.out.below B.out) (by omega)).mono ?_
  rintro e w1 ⟨xT0, rfl, hT0, b2⟩
  have Z3 := Lib.hid (b2.size)
  have NB := Lib.hid (B.out.trans (b2.mono B.out.size))
  clear B
  have B := NB
  clear NB
  clear b2
  have T0 := Lib.hid hT0
  clear hT0
  go_wp2_with fail
  refine (HS.out _ _ T0.out.ints).mono ?_
  rintro e w4 ⟨xW, rfl, hW, b5⟩
  have Z6 := Lib.hid (b5.size)
  have NT0 := Lib.hid (T0.out.below b5)
  clear T0
  have T0 := NT0
  clear NT0
  have NB := Lib.hid (B.out.trans (b5.mono B.out.size))
  clear B
  have B := NB
  clear NB
  clear b5
  have W := Lib.hid hW
  clear hW
  clear T0
  go_wp2_with fail
  refine (n_to_ints _ _ zs0 (HA0.out.below B.out) (by omega)).mono ?_
  rintro e w7 ⟨xX0, rfl, hX0, b8⟩
  have Z9 := Lib.hid (b8.size)
  have NW := Lib.hid (W.out.below b8)
  clear W
  have W := NW
  clear NW
  have NB := Lib.hid (B.out.trans (b8.mono B.out.size))
  clear B
  have B := NB
  clear NB
  clear b8
  have X0 := Lib.hid hX0
  clear hX0
  go_wp2_with fail
  refine (HI.out _ _ X0.out.ints).mono ?_
  rintro e w10 ⟨xG, rfl, hG, b11⟩
  have Z12 := Lib.hid (b11.size)
  have NW := Lib.hid (W.out.below b11)
  clear W
  have W := NW
  clear NW
  have NX0 := Lib.hid (X0.out.below b11)
  clear X0
  have X0 := NX0
  clear NX0
  have NB := Lib.hid (B.out.trans (b11.mono B.out.size))
  clear B
  have B := NB
  clear NB
  clear b11
  have G := Lib.hid hG
  clear hG
  go_wp2_with fail
  refine (n_eq_ints _ _ _ r G.out.ints W.out.ints).mono ?_
  rintro e w13 ⟨rfl, b14⟩
  have Z15 := Lib.hid (b14.size)
  have NW := Lib.hid (W.out.below b14)
  clear W
  have W := NW
  clear NW
  have NX0 := Lib.hid (X0.out.below b14)
  clear X0
  have X0 := NX0
  clear NX0
  have NG := Lib.hid (G.out.below b14)
  clear G
  have G := NG
  clear NG
  have NB := Lib.hid (B.out.trans (b14.mono B.out.size))
  clear B
  have B := NB
  clear NB
  clear b14
  go_wp2_with fail
  refine (n_to_ints _ _ zs0 (HA0.out.below B.out) (by omega)).mono ?_
  rintro e w16 ⟨xY0, rfl, hY0, b17⟩
  have Z18 := Lib.hid (b17.size)
  have NW := Lib.hid (W.out.below b17)
  clear W
  have W := NW
  clear NW
  have NX0 := Lib.hid (X0.out.below b17)
  clear X0
  have X0 := NX0
  clear NX0
  have NG := Lib.hid (G.out.below b17)
  clear G
  have G := NG
  clear NG
  have NB := Lib.hid (B.out.trans (b17.mono B.out.size))
  clear B
  have B := NB
  clear NB
  clear b17
  have Y0 := Lib.hid hY0
  clear hY0
  go_wp2_with fail
  refine (n_eq_ints _ _ _ zs0 X0.out.ints Y0.out.ints).mono ?_
  rintro e w19 ⟨rfl, b20⟩
  have Z21 := Lib.hid (b20.size)
  have NW := Lib.hid (W.out.below b20)
  clear W
  have W := NW
  clear NW
  have NX0 := Lib.hid (X0.out.below b20)
  clear X0
  have X0 := NX0
  clear NX0
  have NG := Lib.hid (G.out.below b20)
  clear G
  have G := NG
  clear NG
  have NY0 := Lib.hid (Y0.out.below b20)
  clear Y0
  have Y0 := NY0
  clear NY0
  have NB := Lib.hid (B.out.trans (b20.mono B.out.size))
  clear B
  have B := NB
  clear NB
  clear b20
  clear Y0
  go_wp2_with fail
  refine (n_mark_ints _ _ _ _ zs0 (1) X0.out (by omega) (by omega) (by omega)).mono ?_
  rintro e w22 ⟨rfl, -, chw22⟩
  have Z23 := Lib.hid (chw22.size)
  have NW := Lib.hid (W.out.kept chw22 (by have y0 := Z3.out; have y1 := Z6.out; have y2 := Z9.out; have y3 := Z12.out; have y4 := Z15.out; have y5 := Z18.out; have y6 := Z21.out; have y7 := Z23.out; omega))
  clear W
  have W := NW
  clear NW
  have NG := Lib.hid (G.out.kept chw22 (by have y0 := Z3.out; have y1 := Z6.out; have y2 := Z9.out; have y3 := Z12.out; have y4 := Z15.out; have y5 := Z18.out; have y6 := Z21.out; have y7 := Z23.out; omega))
  clear G
  have G := NG
  clear NG
  clear X0
  have NB := Lib.hid (chw22.below B.out (by have y0 := Z3.out; have y1 := Z6.out; have y2 := Z9.out; have y3 := Z12.out; have y4 := Z15.out; have y5 := Z18.out; have y6 := Z21.out; have y7 := Z23.out; omega) B.out.size)
  clear B
  have B := NB
  clear NB
  clear chw22
  have hk0 : (0 : Int) ≤ 1 + (zs0.length : Int) := by omega
  go_wp2_with fail
  clear hk0
  refine (n_eq_ints _ _ _ r G.out.ints W.out.ints).mono ?_
  rintro e w24 ⟨rfl, b25⟩
  have Z26 := Lib.hid (b25.size)
  have NW := Lib.hid (W.out.below b25)
  clear W
  have W := NW
  clear NW
  have NG := Lib.hid (G.out.below b25)
  clear G
  have G := NG
  clear NG
  have NB := Lib.hid (B.out.trans (b25.mono B.out.size))
  clear B
  have B := NB
  clear NB
  clear b25
  go_wp2_with fail
  have hr0 : (0 : Int) ≤ 1 + ((r.length : Nat) : Int) := by omega
  refine (n_mark_ints _ _ _ _ r 1 G.out (by have y := HR.out; omega) (by omega) (by omega)).mono ?_
  rintro e w27 ⟨rfl, hw27, chw27⟩
  have Z28 := Lib.hid (chw27.size)
  have NW := Lib.hid (W.out.kept chw27 (by have y0 := Z3.out; have y1 := Z6.out; have y2 := Z9.out; have y3 := Z12.out; have y4 := Z15.out; have y5 := Z18.out; have y6 := Z21.out; have y7 := Z23.out; have y8 := Z26.out; have y9 := Z28.out; omega))
  clear W
  have W := NW
  clear NW
  have NG := Lib.hid (hw27)
  clear G
  have G := NG
  clear NG
  have NB := Lib.hid (chw27.below B.out (by have y0 := Z3.out; have y1 := Z6.out; have y2 := Z9.out; have y3 := Z12.out; have y4 := Z15.out; have y5 := Z18.out; have y6 := Z21.out; have y7 := Z23.out; have y8 := Z26.out; have y9 := Z28.out; omega) B.out.size)
  clear B
  have B := NB
  clear NB
  clear hw27 chw27
  go_wp2_with fail
  refine (n_held_ints _ _ r.length G.out.ints (by have y := HR.out; omega)).mono ?_
  rintro e w29 ⟨rfl, b30⟩
  have Z31 := Lib.hid (b30.size)
  have NW := Lib.hid (W.out.below b30)
  clear W
  have W := NW
  clear NW
  have NG := Lib.hid (G.out.below b30)
  clear G
  have G := NG
  clear NG
  have NB := Lib.hid (B.out.trans (b30.mono B.out.size))
  clear B
  have B := NB
  clear NB
  clear b30
  go_wp2_with fail
  refine (n_to_ints _ _ zs0 (HA0.out.below B.out) (by omega)).mono ?_
  rintro e w32 ⟨xV0, rfl, hV0, b33⟩
  have Z34 := Lib.hid (b33.size)
  have NW := Lib.hid (W.out.below b33)
  clear W
  have W := NW
  clear NW
  have NG := Lib.hid (G.out.below b33)
  clear G
  have G := NG
  clear NG
  have NB := Lib.hid (B.out.trans (b33.mono B.out.size))
  clear B
  have B := NB
  clear NB
  clear b33
  have V0 := Lib.hid hV0
  clear hV0
  go_wp2_with fail
  refine (HI.out _ _ V0.out.ints).mono ?_
  rintro e w35 ⟨xH, rfl, hH, b36⟩
  have Z37 := Lib.hid (b36.size)
  have NW := Lib.hid (W.out.below b36)
  clear W
  have W := NW
  clear NW
  have NG := Lib.hid (G.out.below b36)
  clear G
  have G := NG
  clear NG
  have NV0 := Lib.hid (V0.out.below b36)
  clear V0
  have V0 := NV0
  clear NV0
  have NB := Lib.hid (B.out.trans (b36.mono B.out.size))
  clear B
  have B := NB
  clear NB
  clear b36
  have H := Lib.hid hH
  clear hH
  clear V0
  go_wp2_with fail
  refine (n_eq_ints _ _ _ r H.out.ints W.out.ints).mono ?_
  rintro e w38 ⟨rfl, b39⟩
  have Z40 := Lib.hid (b39.size)
  have NW := Lib.hid (W.out.below b39)
  clear W
  have W := NW
  clear NW
  have NG := Lib.hid (G.out.below b39)
  clear G
  have G := NG
  clear NG
  have NH := Lib.hid (H.out.below b39)
  clear H
  have H := NH
  clear NH
  have NB := Lib.hid (B.out.trans (b39.mono B.out.size))
  clear B
  have B := NB
  clear NB
  clear b39
  go_wp2_with fail
  refine (n_held_ints _ _ r.length G.out.ints (by have y := HR.out; omega)).mono ?_
  rintro e w41 ⟨rfl, b42⟩
  have Z43 := Lib.hid (b42.size)
  have NW := Lib.hid (W.out.below b42)
  clear W
  have W := NW
  clear NW
  have NG := Lib.hid (G.out.below b42)
  clear G
  have G := NG
  clear NG
  have NH := Lib.hid (H.out.below b42)
  clear H
  have H := NH
  clear NH
  have NB := Lib.hid (B.out.trans (b42.mono B.out.size))
  clear B
  have B := NB
  clear NB
  clear b42
  go_wp2_with fail
  go_ret
  exact ⟨rfl, B.out⟩
end Go.Proofs.YtheldcjiogpbjaaGreat
set_option maxRecDepth 100000
set_option linter.unusedVariables false
set_option linter.unusedSimpArgs false
namespace Go.Proofs.YtheldcjiogpbjaaGreat
open Go.RowKit

def itS (b : List Int) : Nat → List Int
  | 0 => unitL
  | n + 1 => subZ b (itS b n)
theorem itS_len (b : List Int) (n : Nat) : (itS b n).length = 38 := by
  cases n with
  | zero => rfl
  | succ n => exact subZ_len _ _
theorem itS_nums (b : List Int) (n : Nat) : Nums (itS b n) := by
  induction n with
  | zero => exact fun z h => unitL_nums z h
  | succ n ih => exact subZ_nums ih
def spwC (b : List Int) (k : Int) : Int := if mapB b = true then (if inR k (-20) 20 = true then (if b.getD 0 0 = 0 ∧ ¬ (k < 0 ∧ b.getD 1 0 = 0) then 0 else 5) else 2) else 1
def spwB (b : List Int) (k : Int) : List Int := if k < 0 then invZ b else b
def spwR (b : List Int) (k : Int) : List Int := if spwC b k = 0 then itS (spwB b k) k.natAbs else []
theorem spwC_zero {b : List Int} {k : Int} (h : spwC b k = 0) : mapB b = true ∧ inR k (-20) 20 = true ∧ b.getD 0 0 = 0 ∧ ¬ (k < 0 ∧ b.getD 1 0 = 0) := by
  unfold spwC at h
  split at h
  · next h1 =>
    split at h
    · next h2 =>
      split at h
      · next h3 => exact ⟨h1, h2, h3.1, h3.2⟩
      · cases h
    · cases h
  · cases h
theorem inR_bd {k : Int} (h : inR k (-20) 20 = true) : -20 ≤ k ∧ k ≤ 20 := by
  unfold inR at h
  simpa using h

set_option maxHeartbeats 8000000 in
theorem i_SubstitutionPower (w : World) (v : Value) (b : List Int) (k : Int) (h1 : Ints w v b) (hk64 : In64 k) :
    Calls Tryz.prog 36 #[v, .int .i64 k] w fun e w' => ∃ x, e = .returned (.tuple #[x, .int .i64 (spwC b k)]) ∧ OwnInts w' w.heap.size tI x (spwR b k) ∧ Below w.heap.size w w' := by
  have HCH := Lib.hid (i_IsMap w v b h1)
  have HIR := Lib.hid (fun W => i_inRange k (-20) 20 W)
  have HB1 := Lib.hid h1
  obtain ⟨Ab, cb, rfl, -, -, -⟩ := h1.open_
  cases hm : mapB b with
  | false =>
    rw [hm] at HCH
    have HC := Lib.hid (show spwC b k = 1 from by unfold spwC; rw [hm]; rfl)
    have HR := Lib.hid (show spwR b k = [] from by rw [spwR, HC.out]; rfl)
    clear hm h1
    go_enter Tryz.func36, Tryz.ntmps36
    go_wp2_with (go_at_call 80; refine HCH.out.mono ?_; rintro e w0 ⟨rfl, rfl⟩)
    go_ret2
    rw [HC.out, HR.out]
    exact ⟨_, rfl, OwnInts.nil _ _ _, Below.refl _ _⟩
  | true =>
    rw [hm] at HCH
    cases hr : inR k (-20) 20 with
    | false =>
      rw [hr] at HIR
      have HC := Lib.hid (show spwC b k = 2 from by unfold spwC; rw [hm, hr]; rfl)
      have HR := Lib.hid (show spwR b k = [] from by rw [spwR, HC.out]; rfl)
      clear hm hr h1
      go_enter Tryz.func36, Tryz.ntmps36
      go_wp2_with (first
        | (go_at_call 80; refine HCH.out.mono ?_; rintro e w0 ⟨rfl, rfl⟩)
        | (go_at_call 81; refine (HIR.out _).mono ?_; rintro e w0 ⟨rfl, rfl⟩))
      go_ret2
      rw [HC.out, HR.out]
      exact ⟨_, rfl, OwnInts.nil _ _ _, Below.refl _ _⟩
    | true =>
      rw [hr] at HIR
      obtain ⟨hk1, hk2⟩ := inR_bd hr
      obtain ⟨l1, n1⟩ := mapB_true hm
      rw [l1] at h1 HB1 HCH ⊢
      obtain ⟨ad, rfl, hc0, -, -⟩ := map_cell h1 n1 (k := 0) (by omega)
      have hc0 : w.cell? ad = some (.int .i64 (b.getD 0 0)) := by simpa [Addr.add] using hc0
      have hc1 := map_one h1 n1
      have HLB := Lib.hid l1
      have HNB := Lib.hid (show Nums b from n1)
      obtain ⟨y0, hy0⟩ : ∃ y0, y0 = b.getD 0 0 := ⟨_, rfl⟩
      obtain ⟨y1, hy1⟩ : ∃ y1, y1 = b.getD 1 0 := ⟨_, rfl⟩
      rw [← hy0] at hc0
      rw [← hy1] at hc1
      by_cases hz0 : y0 = 0
      · have hd0 : (y0 != 0) = false := by simp [hz0]
        by_cases hbad : k < 0 ∧ y1 = 0
        · obtain ⟨hkn, hz1⟩ := hbad
          have hdk : decide (k < 0) = true := decide_eq_true hkn
          have hd1 : (y1 == 0) = true := by simp [hz1]
          have HC := Lib.hid (show spwC b k = 5 from by unfold spwC; rw [if_pos hm, if_pos hr, if_neg (fun h => h.2 ⟨hkn, by rw [← hy1]; exact hz1⟩)])
          have HR := Lib.hid (show spwR b k = [] from by rw [spwR, HC.out]; rfl)
          clear hm hr h1 hy0 hy1 hz0 hz1 l1 n1
          go_enter Tryz.func36, Tryz.ntmps36
          go_wp2_with (first
            | (go_at_call 80; refine HCH.out.mono ?_; rintro e w0 ⟨rfl, rfl⟩)
            | (go_at_call 81; refine (HIR.out _).mono ?_; rintro e w0 ⟨rfl, rfl⟩))
          go_ret2
          rw [HC.out, HR.out]
          exact ⟨_, rfl, OwnInts.nil _ _ _, Below.refl _ _⟩
        · have HC := Lib.hid (show spwC b k = 0 from by unfold spwC; rw [if_pos hm, if_pos hr, if_pos ⟨by rw [← hy0]; exact hz0, by rw [← hy1]; exact hbad⟩])
          have HR := Lib.hid (show spwR b k = itS (spwB b k) k.natAbs from by rw [spwR, HC.out]; rfl)
          have hcond : (decide (k < 0) = false) ∨ (decide (k < 0) = true ∧ (y1 == 0) = false) := by
            by_cases hkn : k < 0
            · refine .inr ⟨decide_eq_true hkn, ?_⟩
              have : ¬ y1 = 0 := fun h => hbad ⟨hkn, h⟩
              simp [this]
            · exact .inl (decide_eq_false hkn)
          clear hm hr h1 hy0 hy1 hz0 l1 n1 hbad
          go_enter Tryz.func36, Tryz.ntmps36
          go_upto_region 5 with (first
            | (go_at_call 80; refine HCH.out.mono ?_; rintro e w0 ⟨rfl, rfl⟩)
            | (go_at_call 81; refine (HIR.out _).mono ?_; rintro e w0 ⟨rfl, rfl⟩))
          go_cut [17] (fun x wx => x = .bool false ∧ w = wx)
          case first =>
            rcases hcond with hk0 | ⟨hk0, hd1⟩
            · go_wp2_with fail
              go_meet
              exact ⟨rfl, rfl⟩
            · go_wp2_with fail
              go_meet
              exact ⟨rfl, rfl⟩
          case rest =>
            obtain ⟨rfl, rfl⟩ := hcut
            clear hcond hd0 hc0 hc1
            go_upto_if 37 with (first
              | (go_at_call 48; go_loud (refine (i_newForms _).mono ?_; rintro e w1 ⟨f, rfl, hf, hb1⟩; obtain ⟨Af, cf, Ay, my, cy, rfl, hrf⟩ := hf.opens; have HRF := Lib.hid hrf; have HB1W := Lib.hid hb1; clear hf hrf hb1))
              | (go_at_call 82; go_loud (refine (i_SubstitutionUnit _).mono ?_; rintro e w2 ⟨x2, rfl, ho2, hb2⟩; have HO2 := Lib.hid ho2; have HB2 := Lib.hid (HB1W.out.trans (hb2.mono HB1W.out.size)); have HB12 := Lib.hid hb2; clear ho2 hb2))
              | (go_at_call 47; go_loud (refine (i_mapPartitions _ _ Ay my cy ((HRF.out.below HB12.out).below (below1 w2 _))).mono ?_; rintro e w3 ⟨x3, rfl, hp3, hb3⟩; have HP3 := Lib.hid hp3; have HB3 := Lib.hid ((below1 w2 (.cells #[.slice Af 37 cf, .slice Ay my cy] tFo)).trans (hb3.mono (by simp))); have HK3 := Lib.hid ((Blk.new w2 #[.slice Af 37 cf, .slice Ay my cy] tFo).below hb3 (by simp)); clear hp3 hb3)))
            have HBW := Lib.hid (HB2.out.trans (HB3.out.mono HB2.out.size))
            have HR3 := Lib.hid ((HRF.out.below HB12.out).below HB3.out)
            have HO3 := Lib.hid (HO2.out.below HB3.out)
            have HA3 := Lib.hid (HB1.out.below HBW.out)
            have k1 : w3.cell? ⟨w2.heap.size, 0, none⟩ = some (.slice Af 37 cf) := HK3.out.cell 0
            have k2 : w3.cell? ⟨w2.heap.size, 1, none⟩ = some (.slice Ay my cy) := HK3.out.cell 1
            go_cut [0, 1] (fun vb vk wx => vk = .int .i64 (k.natAbs : Nat) ∧ Ints wx vb (spwB b k) ∧ Below w3.heap.size w3 wx)
            case first =>
              by_cases hkn : k < 0
              · have hdk : decide (k < 0) = true := decide_eq_true hkn
                have hneg : IntKind.i64.wrap (-k) = -k := IntWalk.i64_in _ (by omega)
                have HNE := Lib.hid (show -k = ((k.natAbs : Nat) : Int) from by omega)
                have HSB := Lib.hid (show spwB b k = invZ b from if_pos hkn)
                go_wp2_with (go_at_call 70; go_loud (refine (i_substitutionInverse w3 (.slice Af 37 cf) x3 _ Ay my cy _ b HR3.out HP3.out HA3.out HLB.out HNB.out).mono ?_; rintro e w7 ⟨x7, rfl, ho7, hb7⟩; have HO7 := Lib.hid ho7; have HB7 := Lib.hid hb7; clear ho7 hb7))
                go_meet
                exact ⟨by rw [HNE.out], by rw [HSB.out]; exact HO7.out.ints, HB7.out⟩
              · have hdk : decide (k < 0) = false := decide_eq_false hkn
                have HSB := Lib.hid (show spwB b k = b from if_neg hkn)
                have HNE := Lib.hid (show k = ((k.natAbs : Nat) : Int) from by omega)
                go_wp2_with fail
                go_meet
                exact ⟨by rw [← HNE.out], by rw [HSB.out]; exact HA3.out, Below.refl _ _⟩
            case rest =>
              obtain ⟨rfl, hb, hbw⟩ := hcut
              have HBI := Lib.hid hb
              have HBC := Lib.hid hbw
              have HBL := Lib.hid (show (spwB b k).length = 38 from by unfold spwB invZ; split; exact filS_len _ _; exact HLB.out)
              have HBN := Lib.hid (show Nums (spwB b k) from by unfold spwB; split; exact invZ_nums b; exact HNB.out)
              obtain ⟨bb, hbb⟩ : ∃ bb, bb = spwB b k := ⟨_, rfl⟩
              rw [← hbb] at HBI HBL HBN
              have HBB := Lib.hid hbb
              obtain ⟨n, hn⟩ : ∃ n, n = k.natAbs := ⟨_, rfl⟩
              rw [← hn]
              have HN := Lib.hid hn
              have hn20 : n ≤ 20 := by omega
              obtain ⟨A5, c5, he5, -, -, -⟩ := hb.open_
              subst he5
              rw [← hbb, HBL.out] at HBI ⊢
              have HOC := Lib.hid (HO3.out.below hbw)
              have HPC := Lib.hid (HP3.out.below hbw)
              clear hb hbw k1 k2 hbb hn hk1 hk2
              go_wp2_with fail
              go_loopw [7, 45] (fun o x wr => ∃ i : Nat, i ≤ n ∧ x = .int .i64 i ∧ OwnInts wr w.heap.size tI o (itS bb i) ∧ Below wc.heap.size wc wr) (fun _ x _ => n - (intOf x).toNat)
              case atStart => exact ⟨0, Nat.zero_le _, rfl, HOC.out.mono HB1W.out.size, Below.refl _ _⟩
              case round =>
                obtain ⟨i, hi, rfl, ho, hb⟩ := hrel
                have HO := Lib.hid ho
                have HB := Lib.hid hb
                obtain ⟨Ao, co, heo, -, -, -⟩ := ho.ints.open_
                rw [itS_len] at heo
                subst heo
                clear ho hb
                by_cases hlt : i < n
                · have hii : (i : Int) < (n : Int) := by omega
                  have HLI := Lib.hid (itS_len bb i)
                  have HNI := Lib.hid (itS_nums bb i)
                  have HSS := Lib.hid (show itS bb (i + 1) = subZ bb (itS bb i) from rfl)
                  go_wp2_with (go_at_call 46; go_loud (refine (i_substituted _ _ _ _ _ bb (itS bb i) (HPC.out.below HB.out) (HBI.out.below HB.out) HBL.out HBN.out HO.out.ints HLI.out HNI.out).mono ?_; rintro e w9 ⟨x9, rfl, ho9, hb9⟩; have HO9 := Lib.hid ho9; have HB9 := Lib.hid hb9; clear ho9 hb9))
                  go_roundw
                  case rel => exact ⟨i + 1, by omega, by go_num, by rw [HSS.out]; exact HO9.out.mono (Nat.le_trans HBW.out.size (Nat.le_trans HBC.out.size HB.out.size)), HB.out.trans (HB9.out.mono HB.out.size)⟩
                  case measure => simp [intOf]; omega
                · have hin : i = n := by omega
                  subst hin
                  have hii : ¬ (i : Int) < (i : Int) := by omega
                  go_wp2_with fail
                  go_ret2
                  rw [HC.out, HR.out, ← HBB.out, ← HN.out]
                  exact ⟨_, rfl, HO.out, (HBW.out.trans (HBC.out.mono HBW.out.size)).trans (HB.out.mono (Nat.le_trans HBW.out.size HBC.out.size))⟩
      · have hd0 : (y0 != 0) = true := by simp [hz0]
        have HC := Lib.hid (show spwC b k = 5 from by unfold spwC; rw [if_pos hm, if_pos hr, if_neg (fun h => hz0 (by rw [hy0]; exact h.1))])
        have HR := Lib.hid (show spwR b k = [] from by rw [spwR, HC.out]; rfl)
        clear hm hr h1 hy0 hy1 hz0 l1 n1
        go_enter Tryz.func36, Tryz.ntmps36
        go_wp2_with (first
          | (go_at_call 80; refine HCH.out.mono ?_; rintro e w0 ⟨rfl, rfl⟩)
          | (go_at_call 81; refine (HIR.out _).mono ?_; rintro e w0 ⟨rfl, rfl⟩))
        go_ret2
        rw [HC.out, HR.out]
        exact ⟨_, rfl, OwnInts.nil _ _ _, Below.refl _ _⟩
set_option maxHeartbeats 8000000 in
theorem s_SubstitutionPower (w : World) (v : Value) (b : List Int) (k : Int) (h1 : Ints w v b) (hk64 : In64 k) :
    Calls Tryz.prog 35 #[v, .int .i64 k] w fun e w' => ∃ x, e = .returned (.tuple #[x, .int .i64 (spwC b k)]) ∧ OwnInts w' w.heap.size tI x (spwR b k) ∧ Below w.heap.size w w' := by
  have HCH := Lib.hid (s_l14Map w v b h1)
  have HIR := Lib.hid (fun W => s_l01In k (-20) 20 W)
  have HB1 := Lib.hid h1
  obtain ⟨Ab, cb, rfl, -, -, -⟩ := h1.open_
  cases hm : mapB b with
  | false =>
    rw [hm] at HCH
    have HC := Lib.hid (show spwC b k = 1 from by unfold spwC; rw [hm]; rfl)
    have HR := Lib.hid (show spwR b k = [] from by rw [spwR, HC.out]; rfl)
    clear hm h1
    go_enter Tryz.func35, Tryz.ntmps35
    go_wp2_with (go_at_call 77; refine HCH.out.mono ?_; rintro e w0 ⟨rfl, rfl⟩)
    go_ret2
    rw [HC.out, HR.out]
    exact ⟨_, rfl, OwnInts.nil _ _ _, Below.refl _ _⟩
  | true =>
    rw [hm] at HCH
    cases hr : inR k (-20) 20 with
    | false =>
      rw [hr] at HIR
      have HC := Lib.hid (show spwC b k = 2 from by unfold spwC; rw [hm, hr]; rfl)
      have HR := Lib.hid (show spwR b k = [] from by rw [spwR, HC.out]; rfl)
      clear hm hr h1
      go_enter Tryz.func35, Tryz.ntmps35
      go_wp2_with (first
        | (go_at_call 77; refine HCH.out.mono ?_; rintro e w0 ⟨rfl, rfl⟩)
        | (go_at_call 78; refine (HIR.out _).mono ?_; rintro e w0 ⟨rfl, rfl⟩))
      go_ret2
      rw [HC.out, HR.out]
      exact ⟨_, rfl, OwnInts.nil _ _ _, Below.refl _ _⟩
    | true =>
      rw [hr] at HIR
      obtain ⟨hk1, hk2⟩ := inR_bd hr
      obtain ⟨l1, n1⟩ := mapB_true hm
      rw [l1] at h1 HB1 HCH ⊢
      obtain ⟨ad, rfl, hc0, -, -⟩ := map_cell h1 n1 (k := 0) (by omega)
      have hc0 : w.cell? ad = some (.int .i64 (b.getD 0 0)) := by simpa [Addr.add] using hc0
      have hc1 := map_one h1 n1
      have HLB := Lib.hid l1
      have HNB := Lib.hid (show Nums b from n1)
      obtain ⟨y0, hy0⟩ : ∃ y0, y0 = b.getD 0 0 := ⟨_, rfl⟩
      obtain ⟨y1, hy1⟩ : ∃ y1, y1 = b.getD 1 0 := ⟨_, rfl⟩
      rw [← hy0] at hc0
      rw [← hy1] at hc1
      by_cases hz0 : y0 = 0
      · have hd0 : (y0 != 0) = false := by simp [hz0]
        by_cases hbad : k < 0 ∧ y1 = 0
        · obtain ⟨hkn, hz1⟩ := hbad
          have hdk : decide (k < 0) = true := decide_eq_true hkn
          have hd1 : (y1 == 0) = true := by simp [hz1]
          have HC := Lib.hid (show spwC b k = 5 from by unfold spwC; rw [if_pos hm, if_pos hr, if_neg (fun h => h.2 ⟨hkn, by rw [← hy1]; exact hz1⟩)])
          have HR := Lib.hid (show spwR b k = [] from by rw [spwR, HC.out]; rfl)
          clear hm hr h1 hy0 hy1 hz0 hz1 l1 n1
          go_enter Tryz.func35, Tryz.ntmps35
          go_wp2_with (first
            | (go_at_call 77; refine HCH.out.mono ?_; rintro e w0 ⟨rfl, rfl⟩)
            | (go_at_call 78; refine (HIR.out _).mono ?_; rintro e w0 ⟨rfl, rfl⟩))
          go_ret2
          rw [HC.out, HR.out]
          exact ⟨_, rfl, OwnInts.nil _ _ _, Below.refl _ _⟩
        · have HC := Lib.hid (show spwC b k = 0 from by unfold spwC; rw [if_pos hm, if_pos hr, if_pos ⟨by rw [← hy0]; exact hz0, by rw [← hy1]; exact hbad⟩])
          have HR := Lib.hid (show spwR b k = itS (spwB b k) k.natAbs from by rw [spwR, HC.out]; rfl)
          have hcond : (decide (k < 0) = false) ∨ (decide (k < 0) = true ∧ (y1 == 0) = false) := by
            by_cases hkn : k < 0
            · refine .inr ⟨decide_eq_true hkn, ?_⟩
              have : ¬ y1 = 0 := fun h => hbad ⟨hkn, h⟩
              simp [this]
            · exact .inl (decide_eq_false hkn)
          clear hm hr h1 hy0 hy1 hz0 l1 n1 hbad
          go_enter Tryz.func35, Tryz.ntmps35
          go_upto_region 5 with (first
            | (go_at_call 77; refine HCH.out.mono ?_; rintro e w0 ⟨rfl, rfl⟩)
            | (go_at_call 78; refine (HIR.out _).mono ?_; rintro e w0 ⟨rfl, rfl⟩))
          go_cut [26] (fun x wx => x = .bool false ∧ w = wx)
          case first =>
            rcases hcond with hk0 | ⟨hk0, hd1⟩
            · go_wp2_with fail
              go_meet
              exact ⟨rfl, rfl⟩
            · go_wp2_with fail
              go_meet
              exact ⟨rfl, rfl⟩
          case rest =>
            obtain ⟨rfl, rfl⟩ := hcut
            clear hcond hd0 hc0 hc1
            have HIV := Lib.hid (s_l16Inverse w _ b HB1.out HLB.out HNB.out)
            go_upto_if 28 with fail
            go_cut [0, 1] (fun vb vk wx => vk = .int .i64 (k.natAbs : Nat) ∧ Ints wx vb (spwB b k) ∧ Below w.heap.size w wx)
            case first =>
              by_cases hkn : k < 0
              · have hdk : decide (k < 0) = true := decide_eq_true hkn
                have hneg : IntKind.i64.wrap (-k) = -k := IntWalk.i64_in _ (by omega)
                have HNE := Lib.hid (show -k = ((k.natAbs : Nat) : Int) from by omega)
                have HSB := Lib.hid (show spwB b k = invZ b from if_pos hkn)
                go_wp2_with (go_at_call 69; go_loud (refine HIV.out.mono ?_; rintro e w7 ⟨x7, rfl, ho7, hb7⟩; have HO7 := Lib.hid ho7; have HB7 := Lib.hid hb7; clear ho7 hb7))
                go_meet
                exact ⟨by rw [HNE.out], by rw [HSB.out]; exact HO7.out.ints, HB7.out⟩
              · have hdk : decide (k < 0) = false := decide_eq_false hkn
                have HSB := Lib.hid (show spwB b k = b from if_neg hkn)
                have HNE := Lib.hid (show k = ((k.natAbs : Nat) : Int) from by omega)
                go_wp2_with fail
                go_meet
                exact ⟨by rw [← HNE.out], by rw [HSB.out]; exact HB1.out, Below.refl _ _⟩
            case rest =>
              obtain ⟨rfl, hb, hbw⟩ := hcut
              have HBI := Lib.hid hb
              have HBC := Lib.hid hbw
              have HBL := Lib.hid (show (spwB b k).length = 38 from by unfold spwB invZ; split; exact filS_len _ _; exact HLB.out)
              have HBN := Lib.hid (show Nums (spwB b k) from by unfold spwB; split; exact invZ_nums b; exact HNB.out)
              obtain ⟨bb, hbb⟩ : ∃ bb, bb = spwB b k := ⟨_, rfl⟩
              rw [← hbb] at HBI HBL HBN
              have HBB := Lib.hid hbb
              obtain ⟨n, hn⟩ : ∃ n, n = k.natAbs := ⟨_, rfl⟩
              rw [← hn]
              have HN := Lib.hid hn
              have hn20 : n ≤ 20 := by omega
              obtain ⟨A5, c5, he5, -, -, -⟩ := hb.open_
              subst he5
              rw [← hbb, HBL.out] at HBI ⊢
              clear hb hbw hbb hn hk1 hk2
              go_wp2_with (go_at_call 79; go_loud (refine (s_SubstitutionUnit _).mono ?_; rintro e w2 ⟨x2, rfl, ho2, hb2⟩; have HO2 := Lib.hid ho2; have HB2 := Lib.hid hb2; clear ho2 hb2))
              go_loopw [1, 6] (fun x o wr => ∃ i : Nat, i ≤ n ∧ x = .int .i64 ((n - i : Nat) : Int) ∧ OwnInts wr w.heap.size tI o (itS bb i) ∧ Below wc.heap.size wc wr) (fun x _ _ => (intOf x).toNat)
              case atStart => exact ⟨0, Nat.zero_le _, rfl, HO2.out.mono HBC.out.size, HB2.out⟩
              case round =>
                obtain ⟨i, hi, rfl, ho, hb⟩ := hrel
                have HO := Lib.hid ho
                have HB := Lib.hid hb
                obtain ⟨Ao, co, heo, -, -, -⟩ := ho.ints.open_
                rw [itS_len] at heo
                subst heo
                clear ho hb
                obtain ⟨q, hq⟩ : ∃ q, q = n - i := ⟨_, rfl⟩
                rw [← hq]
                by_cases hlt : i < n
                · have hii : (0 : Int) < (q : Int) := by omega
                  have hq0 : 0 < q := by omega
                  have hws : IntKind.i64.wrap ((q : Int) - 1) = (q : Int) - 1 := IntWalk.i64_in _ (by omega)
                  have HQ := Lib.hid (show (q : Int) - 1 = ((n - (i + 1) : Nat) : Int) from by omega)
                  have HQ2 := Lib.hid (show n - (i + 1) < q from by omega)
                  have HLI := Lib.hid (itS_len bb i)
                  have HNI := Lib.hid (itS_nums bb i)
                  have HSS := Lib.hid (show itS bb (i + 1) = subZ bb (itS bb i) from rfl)
                  clear hq
                  go_wp2_with (go_at_call 44; go_loud (refine (s_l16Substitute _ _ _ bb (itS bb i) (HBI.out.below HB.out) HBL.out HBN.out HO.out.ints HLI.out HNI.out).mono ?_; rintro e w9 ⟨x9, rfl, ho9, hb9⟩; have HO9 := Lib.hid ho9; have HB9 := Lib.hid hb9; clear ho9 hb9))
                  go_roundw
                  case rel => exact ⟨i + 1, by omega, by rw [HQ.out], by rw [HSS.out]; exact HO9.out.mono (Nat.le_trans HBC.out.size HB.out.size), HB.out.trans (HB9.out.mono HB.out.size)⟩
                  case measure => simp [intOf]; omega
                · have hin : i = n := by omega
                  have hq0 : q = 0 := by omega
                  subst hin hq0
                  clear hq
                  have hii : ¬ (0 : Int) < ((0 : Nat) : Int) := by omega
                  go_wp2_with fail
                  go_ret2
                  rw [HC.out, HR.out, ← HBB.out, ← HN.out]
                  exact ⟨_, rfl, HO.out, HBC.out.trans (HB.out.mono HBC.out.size)⟩
      · have hd0 : (y0 != 0) = true := by simp [hz0]
        have HC := Lib.hid (show spwC b k = 5 from by unfold spwC; rw [if_pos hm, if_pos hr, if_neg (fun h => hz0 (by rw [hy0]; exact h.1))])
        have HR := Lib.hid (show spwR b k = [] from by rw [spwR, HC.out]; rfl)
        clear hm hr h1 hy0 hy1 hz0 l1 n1
        go_enter Tryz.func35, Tryz.ntmps35
        go_wp2_with (first
          | (go_at_call 77; refine HCH.out.mono ?_; rintro e w0 ⟨rfl, rfl⟩)
          | (go_at_call 78; refine (HIR.out _).mono ?_; rintro e w0 ⟨rfl, rfl⟩))
        go_ret2
        rw [HC.out, HR.out]
        exact ⟨_, rfl, OwnInts.nil _ _ _, Below.refl _ _⟩
end Go.Proofs.YtheldcjiogpbjaaGreat
set_option maxRecDepth 100000
set_option linter.unusedVariables false
set_option linter.unusedSimpArgs false
namespace Go.Proofs.YtheldcjiogpbjaaGreat
open Go.RowKit

theorem spwR_len (b : List Int) (k : Int) : (spwR b k).length ≤ 1048576 := by
  unfold spwR
  split
  · rw [itS_len]; omega
  · simp
theorem law_SubstitutionPower (w : World) (v : Value) (zs : List Int) (ha : Ints w v zs) (n : Int) (hn : In64 n) :
    Calls Tryz.prog 11 #[v, .int .i64 n] w fun e w' => e = .returned (.bool true) ∧ Below w.heap.size w w' :=
  law_FnExactSubstitutionPower_gen w v zs ha n hn (spwR zs n) (spwC zs n) (fun _ => spwR_len zs n)
    (fun _ W v0 h0 => (s_SubstitutionPower W v0 zs n h0 hn).mono fun e w' h => by obtain ⟨x, he, ho, hb⟩ := h; exact ⟨x, he, OI.of ho, hb⟩)
    (fun _ W v0 h0 => (i_SubstitutionPower W v0 zs n h0 hn).mono fun e w' h => by obtain ⟨x, he, ho, hb⟩ := h; exact ⟨x, he, OI.of ho, hb⟩)
end Go.Proofs.YtheldcjiogpbjaaGreat
