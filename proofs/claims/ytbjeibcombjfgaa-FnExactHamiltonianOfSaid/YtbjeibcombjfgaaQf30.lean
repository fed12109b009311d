/- The law FnExactHamiltonianOf, walked: it returns true. | Walks: treesTo of the program; l03All of the reference. (printed by allgen.py) | Walks: allConditions of the program; l12All of the reference. (printed by allgen.py) | Walks: isEvenRoot of the program, l12Sign of the reference. -/
import Derived.Test.YtbjeibcombjfgaaQf16
import Derived.Test.YtbjeibcombjfgaaQf12
import Derived.WalkLawsBesides
import Derived.Deep.RegionHeld3
import Derived.Test.YtbjeibcombjfgaaQf13
import Derived.Test.YtbjeibcombjfgaaQf20
import Derived.Test.YtbjeibcombjfgaaQf26
import Derived.Test.YtbjeibcombjfgaaQf18
set_option linter.unusedVariables false
set_option linter.unusedSimpArgs false
namespace Go.Proofs.Ytbjeibcombjfgaa
open Go.RowKit

set_option maxRecDepth 100000 in
set_option maxHeartbeats 8000000 in
theorem law_FnExactHamiltonianOf_gen (w : World) (v0 : Value) (zs0 : List Int) (ha0 : Ints w v0 zs0) (r : List Int) (c : Int) (hR : zs0.length ≤ 1048576 → r.length ≤ 1048576)
    (hS : zs0.length ≤ 1048576 → ∀ (W : World) (v0 : Value), Ints W v0 zs0 → Calls Try.prog 50 #[v0] W fun e w' => ∃ u, e = .returned (.tuple #[u, .int .i64 c]) ∧ OI w' W.heap.size w'.heap.size tI u r ∧ Below W.heap.size W w')
    (hI : zs0.length ≤ 1048576 → ∀ (W : World) (v0 : Value), Ints W v0 zs0 → Calls Try.prog 51 #[v0] W fun e w' => ∃ u, e = .returned (.tuple #[u, .int .i64 c]) ∧ OI w' W.heap.size w'.heap.size tI u r ∧ Below W.heap.size W w') :
    Calls Try.prog 10 #[v0] w fun e w' => e = .returned (.bool true) ∧ Below w.heap.size w w' := by
  have B := Lib.hid (Below.refl w.heap.size w)
  have HS := Lib.hid hS
  have HI := Lib.hid hI
  clear hS hI
  have HR := Lib.hid hR
  clear hR
  have HA0 := Lib.hid ha0
  obtain ⟨A0, c0, rfl, -, -, -⟩ := ha0.open_
  clear ha0
  go_enter Try.func10, Try.ntmps10
  by_cases hbig0 : (1048576 : Int) < (zs0.length : Int)
  · go_wp2_with fail
    go_ret
    exact ⟨rfl, Below.refl _ _⟩
  have hsm0 : zs0.length ≤ 1048576 := by omega
  go_wp2_with fail
  have HS := Lib.hid (HS.out hsm0)
  have HI := Lib.hid (HI.out hsm0)
  have HR := Lib.hid (HR.out hsm0)
  refine (n_to_ints _ _ zs0 (HA0.out.below B.out) (by omega)).mono ?_
  rintro e w1 ⟨xT0, rfl, hT0, b2⟩
  have Z3 := Lib.hid (b2.size)
  have NB := Lib.hid (B.out.trans (b2.mono B.out.size))
  clear B
  have B := NB
  clear NB
  clear b2
  have T0 := Lib.hid hT0
  clear hT0
  go_wp2_with fail
  refine (HS.out _ _ T0.out.ints).mono ?_
  rintro e w4 ⟨xW, rfl, hW, b5⟩
  have Z6 := Lib.hid (b5.size)
  have NT0 := Lib.hid (T0.out.below b5)
  clear T0
  have T0 := NT0
  clear NT0
  have NB := Lib.hid (B.out.trans (b5.mono B.out.size))
  clear B
  have B := NB
  clear NB
  clear b5
  have W := Lib.hid hW
  clear hW
  clear T0
  go_wp2_with fail
  refine (n_to_ints _ _ zs0 (HA0.out.below B.out) (by omega)).mono ?_
  rintro e w7 ⟨xX0, rfl, hX0, b8⟩
  have Z9 := Lib.hid (b8.size)
  have NW := Lib.hid (W.out.below b8)
  clear W
  have W := NW
  clear NW
  have NB := Lib.hid (B.out.trans (b8.mono B.out.size))
  clear B
  have B := NB
  clear NB
  clear b8
  have X0 := Lib.hid hX0
  clear hX0
  go_wp2_with fail
  refine (HI.out _ _ X0.out.ints).mono ?_
  rintro e w10 ⟨xG, rfl, hG, b11⟩
  have Z12 := Lib.hid (b11.size)
  have NW := Lib.hid (W.out.below b11)
  clear W
  have W := NW
  clear NW
  have NX0 := Lib.hid (X0.out.below b11)
  clear X0
  have X0 := NX0
  clear NX0
  have NB := Lib.hid (B.out.trans (b11.mono B.out.size))
  clear B
  have B := NB
  clear NB
  clear b11
  have G := Lib.hid hG
  clear hG
  go_wp2_with fail
  refine (n_eq_ints _ _ _ r G.out.ints W.out.ints).mono ?_
  rintro e w13 ⟨rfl, b14⟩
  have Z15 := Lib.hid (b14.size)
  have NW := Lib.hid (W.out.below b14)
  clear W
  have W := NW
  clear NW
  have NX0 := Lib.hid (X0.out.below b14)
  clear X0
  have X0 := NX0
  clear NX0
  have NG := Lib.hid (G.out.below b14)
  clear G
  have G := NG
  clear NG
  have NB := Lib.hid (B.out.trans (b14.mono B.out.size))
  clear B
  have B := NB
  clear NB
  clear b14
  go_wp2_with fail
  refine (n_to_ints _ _ zs0 (HA0.out.below B.out) (by omega)).mono ?_
  rintro e w16 ⟨xY0, rfl, hY0, b17⟩
  have Z18 := Lib.hid (b17.size)
  have NW := Lib.hid (W.out.below b17)
  clear W
  have W := NW
  clear NW
  have NX0 := Lib.hid (X0.out.below b17)
  clear X0
  have X0 := NX0
  clear NX0
  have NG := Lib.hid (G.out.below b17)
  clear G
  have G := NG
  clear NG
  have NB := Lib.hid (B.out.trans (b17.mono B.out.size))
  clear B
  have B := NB
  clear NB
  clear b17
  have Y0 := Lib.hid hY0
  clear hY0
  go_wp2_with fail
  refine (n_eq_ints _ _ _ zs0 X0.out.ints Y0.out.ints).mono ?_
  rintro e w19 ⟨rfl, b20⟩
  have Z21 := Lib.hid (b20.size)
  have NW := Lib.hid (W.out.below b20)
  clear W
  have W := NW
  clear NW
  have NX0 := Lib.hid (X0.out.below b20)
  clear X0
  have X0 := NX0
  clear NX0
  have NG := Lib.hid (G.out.below b20)
  clear G
  have G := NG
  clear NG
  have NY0 := Lib.hid (Y0.out.below b20)
  clear Y0
  have Y0 := NY0
  clear NY0
  have NB := Lib.hid (B.out.trans (b20.mono B.out.size))
  clear B
  have B := NB
  clear NB
  clear b20
  clear Y0
  go_wp2_with fail
  refine (n_mark_ints _ _ _ _ zs0 (1) X0.out (by omega) (by omega) (by omega)).mono ?_
  rintro e w22 ⟨rfl, -, chw22⟩
  have Z23 := Lib.hid (chw22.size)
  have NW := Lib.hid (W.out.kept chw22 (by have y0 := Z3.out; have y1 := Z6.out; have y2 := Z9.out; have y3 := Z12.out; have y4 := Z15.out; have y5 := Z18.out; have y6 := Z21.out; have y7 := Z23.out; omega))
  clear W
  have W := NW
  clear NW
  have NG := Lib.hid (G.out.kept chw22 (by have y0 := Z3.out; have y1 := Z6.out; have y2 := Z9.out; have y3 := Z12.out; have y4 := Z15.out; have y5 := Z18.out; have y6 := Z21.out; have y7 := Z23.out; omega))
  clear G
  have G := NG
  clear NG
  clear X0
  have NB := Lib.hid (chw22.below B.out (by have y0 := Z3.out; have y1 := Z6.out; have y2 := Z9.out; have y3 := Z12.out; have y4 := Z15.out; have y5 := Z18.out; have y6 := Z21.out; have y7 := Z23.out; omega) B.out.size)
  clear B
  have B := NB
  clear NB
  clear chw22
  have hk0 : (0 : Int) ≤ 1 + (zs0.length : Int) := by omega
  go_wp2_with fail
  clear hk0
  refine (n_eq_ints _ _ _ r G.out.ints W.out.ints).mono ?_
  rintro e w24 ⟨rfl, b25⟩
  have Z26 := Lib.hid (b25.size)
  have NW := Lib.hid (W.out.below b25)
  clear W
  have W := NW
  clear NW
  have NG := Lib.hid (G.out.below b25)
  clear G
  have G := NG
  clear NG
  have NB := Lib.hid (B.out.trans (b25.mono B.out.size))
  clear B
  have B := NB
  clear NB
  clear b25
  go_wp2_with fail
  have hr0 : (0 : Int) ≤ 1 + ((r.length : Nat) : Int) := by omega
  refine (n_mark_ints _ _ _ _ r 1 G.out (by have y := HR.out; omega) (by omega) (by omega)).mono ?_
  rintro e w27 ⟨rfl, hw27, chw27⟩
  have Z28 := Lib.hid (chw27.size)
  have NW := Lib.hid (W.out.kept chw27 (by have y0 := Z3.out; have y1 := Z6.out; have y2 := Z9.out; have y3 := Z12.out; have y4 := Z15.out; have y5 := Z18.out; have y6 := Z21.out; have y7 := Z23.out; have y8 := Z26.out; have y9 := Z28.out; omega))
  clear W
  have W := NW
  clear NW
  have NG := Lib.hid (hw27)
  clear G
  have G := NG
  clear NG
  have NB := Lib.hid (chw27.below B.out (by have y0 := Z3.out; have y1 := Z6.out; have y2 := Z9.out; have y3 := Z12.out; have y4 := Z15.out; have y5 := Z18.out; have y6 := Z21.out; have y7 := Z23.out; have y8 := Z26.out; have y9 := Z28.out; omega) B.out.size)
  clear B
  have B := NB
  clear NB
  clear hw27 chw27
  go_wp2_with fail
  refine (n_held_ints _ _ r.length G.out.ints (by have y := HR.out; omega)).mono ?_
  rintro e w29 ⟨rfl, b30⟩
  have Z31 := Lib.hid (b30.size)
  have NW := Lib.hid (W.out.below b30)
  clear W
  have W := NW
  clear NW
  have NG := Lib.hid (G.out.below b30)
  clear G
  have G := NG
  clear NG
  have NB := Lib.hid (B.out.trans (b30.mono B.out.size))
  clear B
  have B := NB
  clear NB
  clear b30
  go_wp2_with fail
  refine (n_to_ints _ _ zs0 (HA0.out.below B.out) (by omega)).mono ?_
  rintro e w32 ⟨xV0, rfl, hV0, b33⟩
  have Z34 := Lib.hid (b33.size)
  have NW := Lib.hid (W.out.below b33)
  clear W
  have W := NW
  clear NW
  have NG := Lib.hid (G.out.below b33)
  clear G
  have G := NG
  clear NG
  have NB := Lib.hid (B.out.trans (b33.mono B.out.size))
  clear B
  have B := NB
  clear NB
  clear b33
  have V0 := Lib.hid hV0
  clear hV0
  go_wp2_with fail
  refine (HI.out _ _ V0.out.ints).mono ?_
  rintro e w35 ⟨xH, rfl, hH, b36⟩
  have Z37 := Lib.hid (b36.size)
  have NW := Lib.hid (W.out.below b36)
  clear W
  have W := NW
  clear NW
  have NG := Lib.hid (G.out.below b36)
  clear G
  have G := NG
  clear NG
  have NV0 := Lib.hid (V0.out.below b36)
  clear V0
  have V0 := NV0
  clear NV0
  have NB := Lib.hid (B.out.trans (b36.mono B.out.size))
  clear B
  have B := NB
  clear NB
  clear b36
  have H := Lib.hid hH
  clear hH
  clear V0
  go_wp2_with fail
  refine (n_eq_ints _ _ _ r H.out.ints W.out.ints).mono ?_
  rintro e w38 ⟨rfl, b39⟩
  have Z40 := Lib.hid (b39.size)
  have NW := Lib.hid (W.out.below b39)
  clear W
  have W := NW
  clear NW
  have NG := Lib.hid (G.out.below b39)
  clear G
  have G := NG
  clear NG
  have NH := Lib.hid (H.out.below b39)
  clear H
  have H := NH
  clear NH
  have NB := Lib.hid (B.out.trans (b39.mono B.out.size))
  clear B
  have B := NB
  clear NB
  clear b39
  go_wp2_with fail
  refine (n_held_ints _ _ r.length G.out.ints (by have y := HR.out; omega)).mono ?_
  rintro e w41 ⟨rfl, b42⟩
  have Z43 := Lib.hid (b42.size)
  have NW := Lib.hid (W.out.below b42)
  clear W
  have W := NW
  clear NW
  have NG := Lib.hid (G.out.below b42)
  clear G
  have G := NG
  clear NG
  have NH := Lib.hid (H.out.below b42)
  clear H
  have H := NH
  clear NH
  have NB := Lib.hid (B.out.trans (b42.mono B.out.size))
  clear B
  have B := NB
  clear NB
  clear b42
  go_wp2_with fail
  go_ret
  exact ⟨rfl, B.out⟩
end Go.Proofs.Ytbjeibcombjfgaa

set_option maxRecDepth 100000
set_option linter.unusedVariables false
set_option linter.unusedSimpArgs false
namespace Go.Proofs.Ytbjeibcombjfgaa
open Go.RowKit

/-- the lists for 1 to n, one after the other -/
def allG (G : Nat → List (List Nat)) (n : Nat) : List (List Nat) := (List.range n).flatMap fun k => G (k + 1)
theorem allG_succ (G : Nat → List (List Nat)) (k : Nat) : allG G (k + 1) = allG G k ++ G (k + 1) := by simp [allG, List.range_succ]
theorem allG_len {G : Nat → List (List Nat)} (hG : ∀ k, 1 ≤ k → k ≤ 8 → (G k).length ≤ 115) : ∀ n, n ≤ 8 → (allG G n).length ≤ 115 * n
  | 0, _ => by simp [allG]
  | n + 1, h => by
    rw [allG_succ, List.length_append]
    have h1 := allG_len hG n (by omega)
    have h2 := hG (n + 1) (by omega) h
    omega
theorem treesN_len {k : Nat} (h1 : 1 ≤ k) (h8 : k ≤ 8) : (treesN k).length ≤ 115 := (treesN_at h1 h8).1

theorem RR.keptAl {w w' : World} {B : Nat} {vs : List Value} {xss : List (List Int)} {v : Value} {e : TypeId} (h : RR w B vs xss) (hg : w.grownBy w' v.ownBlock) (hb : BT w e v) (hne : tI ≠ e) : RR w' B vs xss :=
  ⟨h.1, fun k u zs hu hz => (h.2 k u zs hu hz).kept hg ((h.2 k u zs hu hz).1.bt.ne hb hne)⟩
/-- a list of rows behind another one -/
theorem LA.app {w2 w' : World} {B C : Nat} {v v' : Value} {xs ys : List (List Int)} {us vs : List Value} (h1 : Own w2 B tL v us) (h2 : RR w2 B us xs) (h3 : us.Pairwise Apart) (hlt : ∀ u ∈ us, ∀ b, u.ownBlock = some b → b < C)
    (g1 : RR w2 C vs ys) (g2 : vs.Pairwise Apart) (hBC : B ≤ C) (ho : Own w' B tL v' (us ++ vs)) (hg : Grow w2 w' v v') : LA w' B v' (xs ++ ys) := by
  refine ⟨us ++ vs, ho, (h2.append (g1.mono hBC)).keptAl hg.1 h1.bt (by decide), List.pairwise_append.2 ⟨h3, g2, fun u hu x hx => ?_⟩⟩
  obtain ⟨k, hk, rfl⟩ := List.getElem_of_mem hx
  have hz : ys[k]? = some (ys[k]'(by rw [← g1.1]; exact hk)) := List.getElem?_eq_getElem _
  exact apart_of_lt (hlt u hu) (g1.2 k _ _ (List.getElem?_eq_getElem hk) hz).1.ge
theorem RR.lt {w : World} {B : Nat} {vs : List Value} {xss : List (List Int)} (h : RR w B vs xss) : ∀ u ∈ vs, ∀ b, u.ownBlock = some b → b < w.heap.size := by
  intro u hu
  obtain ⟨k, hk, rfl⟩ := List.getElem_of_mem hu
  have hz : xss[k]? = some (xss[k]'(by rw [← h.1]; exact hk)) := List.getElem?_eq_getElem _
  exact (h.2 k _ _ (List.getElem?_eq_getElem hk) hz).1.lt

set_option maxHeartbeats 4000000 in
theorem i_treesTo (w : World) (n : Nat) (h8 : n ≤ 8) :
    Calls Try.prog 105 #[.int .i64 n] w fun e w' => ∃ x, e = .returned x ∧ LA w' w.heap.size x ((allG treesN n).map up) ∧ Below w.heap.size w w' := by
  have HG := Lib.hid (fun k (h : k ≤ 8) => allG_len (G := treesN) (fun k h1 h2 => treesN_len h1 h2) k h)
  have HL := Lib.hid (fun k (h1 : 1 ≤ k) (h2 : k ≤ 8) => treesN_len h1 h2)
  have OL := Lib.hid (show LA (w.alloc (.cells #[] tL)) w.heap.size (.slice (some ⟨w.heap.size, 0, none⟩) 0 0) ((allG treesN 0).map up) from ⟨[], own_lit w tL [] (by simp [maxLen]), RR.nil _ _, List.Pairwise.nil⟩)
  go_enter Try.func105, Try.ntmps105
  go_wp2_with fail
  go_loopw [3, 4] (fun o x wr => ∃ k : Nat, 1 ≤ k ∧ k ≤ n + 1 ∧ x = .int .i64 k ∧ LA wr w.heap.size o ((allG treesN (k - 1)).map up) ∧ Below w.heap.size w wr) (fun _ x _ => n + 1 - (intOf x).toNat)
  case atStart => exact ⟨1, Nat.le_refl _, by omega, by go_num, OL.out, below1 _ _⟩
  case round =>
    obtain ⟨k, hk1, hk, rfl, ho, hb⟩ := hrel
    clear OL
    have HB := Lib.hid hb
    obtain ⟨us, hown, hrr, hap⟩ := ho
    have hul := hrr.1
    rw [List.length_map] at hul
    have HUL := Lib.hid (show us.length ≤ 1000 from by have := HG.out (k - 1) (by omega); omega)
    have HO := Lib.hid hown
    have HR := Lib.hid hrr
    have HAP := Lib.hid hap
    have HLT := Lib.hid hrr.lt
    obtain ⟨Ao, co, rfl, -, -⟩ := hown.cells.open_
    clear hb hown hrr hap hul
    by_cases hlt : k < n + 1
    · have hle : (k : Int) ≤ (n : Int) := by omega
      have HS := Lib.hid (show allG treesN (k + 1 - 1) = allG treesN (k - 1) ++ treesN k from by
        have h := allG_succ treesN (k - 1)
        rw [show k - 1 + 1 = k by omega] at h
        rw [Nat.add_sub_cancel]; exact h)
      have HLK := Lib.hid (HL.out k hk1 (by omega))
      have hk8 : k ≤ 8 := by omega
      go_wp2_with (first
        | (go_at_call 92; go_loud (refine (i_treesOf _ k hk1 hk8).mono ?_; rintro e w2 ⟨x2, rfl, hl2, hb2⟩; obtain ⟨vs, hown2, hrr2, hap2⟩ := hl2; have HV := Lib.hid hown2; have HR2 := Lib.hid hrr2; have HAP2 := Lib.hid hap2; have hvl := hrr2.1.trans (List.length_map ..); have HVL := Lib.hid hvl; have HB2 := Lib.hid hb2; have HO2 := Lib.hid (HO.out.below hb2); clear hown2 hrr2 hap2 hb2 hvl))
        | (at_builtin; go_loud (refine wpList_appN T_row HO2.out HV.out.cells (by have h1 := HUL.out; have h2 := HVL.out; have h3 := HLK.out; omega) (Nat.le_trans HB.out.size HB2.out.size) HR2.out.oneCell (by rfl) rfl (by rfl) (by rfl) ?_; intro v5 w5 hown5 hgr5; have HN := Lib.hid hown5; have HGR := Lib.hid hgr5; clear hown5 hgr5)))
      go_roundw
      case rel =>
        refine ⟨k + 1, by omega, by omega, by go_num, ?_, HGR.out.below (HB.out.trans (HB2.out.mono HB.out.size)) (Nat.le_trans HB.out.size HB2.out.size) HO2.out.ge⟩
        rw [HS.out, List.map_append]
        exact LA.app HO2.out (HR.out.below HB2.out) HAP.out HLT.out HR2.out HAP2.out HB.out.size HN.out HGR.out
      case measure => simp [intOf]; omega
    · have hkn : k = n + 1 := by omega
      subst hkn
      go_wp2_with fail
      go_ret
      exact ⟨_, rfl, ⟨us, HO.out, by simpa using HR.out, HAP.out⟩, HB.out⟩

set_option maxHeartbeats 4000000 in
theorem s_l03All (w : World) (n : Nat) (h8 : n ≤ 8) :
    Calls Try.prog 167 #[.int .i64 n] w fun e w' => ∃ x, e = .returned x ∧ LA w' w.heap.size x ((allG treesN n).map up) ∧ Below w.heap.size w w' := by
  have HG := Lib.hid (fun k (h : k ≤ 8) => allG_len (G := treesN) (fun k h1 h2 => treesN_len h1 h2) k h)
  have HL := Lib.hid (fun k (h1 : 1 ≤ k) (h2 : k ≤ 8) => treesN_len h1 h2)
  have OL := Lib.hid (show LA (w.alloc (.cells #[] tL)) w.heap.size (.slice (some ⟨w.heap.size, 0, none⟩) 0 0) ((allG treesN 0).map up) from ⟨[], own_lit w tL [] (by simp [maxLen]), RR.nil _ _, List.Pairwise.nil⟩)
  go_enter Try.func167, Try.ntmps167
  go_wp2_with fail
  go_loopw [3, 4] (fun o x wr => ∃ k : Nat, 1 ≤ k ∧ k ≤ n + 1 ∧ x = .int .i64 k ∧ LA wr w.heap.size o ((allG treesN (k - 1)).map up) ∧ Below w.heap.size w wr) (fun _ x _ => n + 1 - (intOf x).toNat)
  case atStart => exact ⟨1, Nat.le_refl _, by omega, by go_num, OL.out, below1 _ _⟩
  case round =>
    obtain ⟨k, hk1, hk, rfl, ho, hb⟩ := hrel
    clear OL
    have HB := Lib.hid hb
    obtain ⟨us, hown, hrr, hap⟩ := ho
    have hul := hrr.1
    rw [List.length_map] at hul
    have HUL := Lib.hid (show us.length ≤ 1000 from by have := HG.out (k - 1) (by omega); omega)
    have HO := Lib.hid hown
    have HR := Lib.hid hrr
    have HAP := Lib.hid hap
    have HLT := Lib.hid hrr.lt
    obtain ⟨Ao, co, rfl, -, -⟩ := hown.cells.open_
    clear hb hown hrr hap hul
    by_cases hlt : k < n + 1
    · have hle : (k : Int) ≤ (n : Int) := by omega
      have HS := Lib.hid (show allG treesN (k + 1 - 1) = allG treesN (k - 1) ++ treesN k from by
        have h := allG_succ treesN (k - 1)
        rw [show k - 1 + 1 = k by omega] at h
        rw [Nat.add_sub_cancel]; exact h)
      have HLK := Lib.hid (HL.out k hk1 (by omega))
      have hk8 : k ≤ 8 := by omega
      go_wp2_with (first
        | (go_at_call 85; go_loud (refine (s_l03Trees _ k hk1 hk8).mono ?_; rintro e w2 ⟨x2, rfl, hl2, hb2⟩; obtain ⟨vs, hown2, hrr2, hap2⟩ := hl2; have HV := Lib.hid hown2; have HR2 := Lib.hid hrr2; have HAP2 := Lib.hid hap2; have hvl := hrr2.1.trans (List.length_map ..); have HVL := Lib.hid hvl; have HB2 := Lib.hid hb2; have HO2 := Lib.hid (HO.out.below hb2); clear hown2 hrr2 hap2 hb2 hvl))
        | (at_builtin; go_loud (refine wpList_appN T_row HO2.out HV.out.cells (by have h1 := HUL.out; have h2 := HVL.out; have h3 := HLK.out; omega) (Nat.le_trans HB.out.size HB2.out.size) HR2.out.oneCell (by rfl) rfl (by rfl) (by rfl) ?_; intro v5 w5 hown5 hgr5; have HN := Lib.hid hown5; have HGR := Lib.hid hgr5; clear hown5 hgr5)))
      go_roundw
      case rel =>
        refine ⟨k + 1, by omega, by omega, by go_num, ?_, HGR.out.below (HB.out.trans (HB2.out.mono HB.out.size)) (Nat.le_trans HB.out.size HB2.out.size) HO2.out.ge⟩
        rw [HS.out, List.map_append]
        exact LA.app HO2.out (HR.out.below HB2.out) HAP.out HLT.out HR2.out HAP2.out HB.out.size HN.out HGR.out
      case measure => simp [intOf]; omega
    · have hkn : k = n + 1 := by omega
      subst hkn
      go_wp2_with fail
      go_ret
      exact ⟨_, rfl, ⟨us, HO.out, by simpa using HR.out, HAP.out⟩, HB.out⟩
end Go.Proofs.Ytbjeibcombjfgaa

set_option maxRecDepth 100000
set_option linter.unusedVariables false
set_option linter.unusedSimpArgs false
namespace Go.Proofs.Ytbjeibcombjfgaa
open Go.RowKit

theorem cndN_len {k : Nat} (h1 : 1 ≤ k) (h8 : k ≤ 8) : (cndN k).length ≤ 115 := by rw [cndN_eq]; exact Nat.le_trans (List.length_filter_le _ _) (treesN_at h1 h8).1

set_option maxHeartbeats 4000000 in
theorem i_allConditions (w : World) :
    Calls Try.prog 104 #[] w fun e w' => ∃ x, e = .returned x ∧ LA w' w.heap.size x ((allG cndN 6).map up) ∧ Below w.heap.size w w' := by
  have HG := Lib.hid (fun k (h : k ≤ 8) => allG_len (G := cndN) (fun k h1 h2 => cndN_len h1 h2) k h)
  have HL := Lib.hid (fun k (h1 : 1 ≤ k) (h2 : k ≤ 8) => cndN_len h1 h2)
  have OL := Lib.hid (show LA (w.alloc (.cells #[] tL)) w.heap.size (.slice (some ⟨w.heap.size, 0, none⟩) 0 0) ((allG cndN 0).map up) from ⟨[], own_lit w tL [] (by simp [maxLen]), RR.nil _ _, List.Pairwise.nil⟩)
  go_enter Try.func104, Try.ntmps104
  go_wp2_with fail
  go_loopw [1, 2] (fun o x wr => ∃ k : Nat, 1 ≤ k ∧ k ≤ 6 + 1 ∧ x = .int .i64 k ∧ LA wr w.heap.size o ((allG cndN (k - 1)).map up) ∧ Below w.heap.size w wr) (fun _ x _ => 6 + 1 - (intOf x).toNat)
  case atStart => exact ⟨1, Nat.le_refl _, by omega, by go_num, OL.out, below1 _ _⟩
  case round =>
    obtain ⟨k, hk1, hk, rfl, ho, hb⟩ := hrel
    clear OL
    have HB := Lib.hid hb
    obtain ⟨us, hown, hrr, hap⟩ := ho
    have hul := hrr.1
    rw [List.length_map] at hul
    have HUL := Lib.hid (show us.length ≤ 1000 from by have := HG.out (k - 1) (by omega); omega)
    have HO := Lib.hid hown
    have HR := Lib.hid hrr
    have HAP := Lib.hid hap
    have HLT := Lib.hid hrr.lt
    obtain ⟨Ao, co, rfl, -, -⟩ := hown.cells.open_
    clear hb hown hrr hap hul
    by_cases hlt : k < 6 + 1
    · have hle : (k : Int) ≤ (6 : Int) := by omega
      have HS := Lib.hid (show allG cndN (k + 1 - 1) = allG cndN (k - 1) ++ cndN k from by
        have h := allG_succ cndN (k - 1)
        rw [show k - 1 + 1 = k by omega] at h
        rw [Nat.add_sub_cancel]; exact h)
      have HLK := Lib.hid (HL.out k hk1 (by omega))
      have hk8 : k ≤ 8 := by omega
      go_wp2_with (first
        | (go_at_call 88; go_loud (refine (i_freeConditions _ k hk1 hk8).mono ?_; rintro e w2 ⟨x2, rfl, hl2, hb2⟩; obtain ⟨vs, hown2, hrr2, hap2⟩ := hl2; have HV := Lib.hid hown2; have HR2 := Lib.hid hrr2; have HAP2 := Lib.hid hap2; have hvl := hrr2.1.trans (List.length_map ..); have HVL := Lib.hid hvl; have HB2 := Lib.hid hb2; have HO2 := Lib.hid (HO.out.below hb2); clear hown2 hrr2 hap2 hb2 hvl))
        | (at_builtin; go_loud (refine wpList_appN T_row HO2.out HV.out.cells (by have h1 := HUL.out; have h2 := HVL.out; have h3 := HLK.out; omega) (Nat.le_trans HB.out.size HB2.out.size) HR2.out.oneCell (by rfl) rfl (by rfl) (by rfl) ?_; intro v5 w5 hown5 hgr5; have HN := Lib.hid hown5; have HGR := Lib.hid hgr5; clear hown5 hgr5)))
      go_roundw
      case rel =>
        refine ⟨k + 1, by omega, by omega, by go_num, ?_, HGR.out.below (HB.out.trans (HB2.out.mono HB.out.size)) (Nat.le_trans HB.out.size HB2.out.size) HO2.out.ge⟩
        rw [HS.out, List.map_append]
        exact LA.app HO2.out (HR.out.below HB2.out) HAP.out HLT.out HR2.out HAP2.out HB.out.size HN.out HGR.out
      case measure => simp [intOf]; omega
    · have hkn : k = 6 + 1 := by omega
      subst hkn
      go_wp2_with fail
      go_ret
      exact ⟨_, rfl, ⟨us, HO.out, by simpa using HR.out, HAP.out⟩, HB.out⟩

set_option maxHeartbeats 4000000 in
theorem s_l12All (w : World) :
    Calls Try.prog 168 #[] w fun e w' => ∃ x, e = .returned x ∧ LA w' w.heap.size x ((allG cndN 6).map up) ∧ Below w.heap.size w w' := by
  have HG := Lib.hid (fun k (h : k ≤ 8) => allG_len (G := cndN) (fun k h1 h2 => cndN_len h1 h2) k h)
  have HL := Lib.hid (fun k (h1 : 1 ≤ k) (h2 : k ≤ 8) => cndN_len h1 h2)
  have OL := Lib.hid (show LA (w.alloc (.cells #[] tL)) w.heap.size (.slice (some ⟨w.heap.size, 0, none⟩) 0 0) ((allG cndN 0).map up) from ⟨[], own_lit w tL [] (by simp [maxLen]), RR.nil _ _, List.Pairwise.nil⟩)
  go_enter Try.func168, Try.ntmps168
  go_wp2_with fail
  go_loopw [1, 2] (fun o x wr => ∃ k : Nat, 1 ≤ k ∧ k ≤ 6 + 1 ∧ x = .int .i64 k ∧ LA wr w.heap.size o ((allG cndN (k - 1)).map up) ∧ Below w.heap.size w wr) (fun _ x _ => 6 + 1 - (intOf x).toNat)
  case atStart => exact ⟨1, Nat.le_refl _, by omega, by go_num, OL.out, below1 _ _⟩
  case round =>
    obtain ⟨k, hk1, hk, rfl, ho, hb⟩ := hrel
    clear OL
    have HB := Lib.hid hb
    obtain ⟨us, hown, hrr, hap⟩ := ho
    have hul := hrr.1
    rw [List.length_map] at hul
    have HUL := Lib.hid (show us.length ≤ 1000 from by have := HG.out (k - 1) (by omega); omega)
    have HO := Lib.hid hown
    have HR := Lib.hid hrr
    have HAP := Lib.hid hap
    have HLT := Lib.hid hrr.lt
    obtain ⟨Ao, co, rfl, -, -⟩ := hown.cells.open_
    clear hb hown hrr hap hul
    by_cases hlt : k < 6 + 1
    · have hle : (k : Int) ≤ (6 : Int) := by omega
      have HS := Lib.hid (show allG cndN (k + 1 - 1) = allG cndN (k - 1) ++ cndN k from by
        have h := allG_succ cndN (k - 1)
        rw [show k - 1 + 1 = k by omega] at h
        rw [Nat.add_sub_cancel]; exact h)
      have HLK := Lib.hid (HL.out k hk1 (by omega))
      have hk8 : k ≤ 8 := by omega
      go_wp2_with (first
        | (go_at_call 99; go_loud (refine (s_l12Free _ k hk1 hk8).mono ?_; rintro e w2 ⟨x2, rfl, hl2, hb2⟩; obtain ⟨vs, hown2, hrr2, hap2⟩ := hl2; have HV := Lib.hid hown2; have HR2 := Lib.hid hrr2; have HAP2 := Lib.hid hap2; have hvl := hrr2.1.trans (List.length_map ..); have HVL := Lib.hid hvl; have HB2 := Lib.hid hb2; have HO2 := Lib.hid (HO.out.below hb2); clear hown2 hrr2 hap2 hb2 hvl))
        | (at_builtin; go_loud (refine wpList_appN T_row HO2.out HV.out.cells (by have h1 := HUL.out; have h2 := HVL.out; have h3 := HLK.out; omega) (Nat.le_trans HB.out.size HB2.out.size) HR2.out.oneCell (by rfl) rfl (by rfl) (by rfl) ?_; intro v5 w5 hown5 hgr5; have HN := Lib.hid hown5; have HGR := Lib.hid hgr5; clear hown5 hgr5)))
      go_roundw
      case rel =>
        refine ⟨k + 1, by omega, by omega, by go_num, ?_, HGR.out.below (HB.out.trans (HB2.out.mono HB.out.size)) (Nat.le_trans HB.out.size HB2.out.size) HO2.out.ge⟩
        rw [HS.out, List.map_append]
        exact LA.app HO2.out (HR.out.below HB2.out) HAP.out HLT.out HR2.out HAP2.out HB.out.size HN.out HGR.out
      case measure => simp [intOf]; omega
    · have hkn : k = 6 + 1 := by omega
      subst hkn
      go_wp2_with fail
      go_ret
      exact ⟨_, rfl, ⟨us, HO.out, by simpa using HR.out, HAP.out⟩, HB.out⟩
end Go.Proofs.Ytbjeibcombjfgaa

set_option maxRecDepth 100000
set_option linter.unusedVariables false
set_option linter.unusedSimpArgs false
namespace Go.Proofs.Ytbjeibcombjfgaa
open Go.RowKit

def evenN (x : Nat) : Bool := Nat.beq (x % 2) 0
def evF (t fr : List Nat) : Nat → List (List Nat) → Bool
  | _, [] => false
  | i, r :: rs => bif eqN r fr then evenN (t.getD i 0) else evF t fr (i + 1) rs
/-- the first root of the free form has an even level -/
def evN (t : List Nat) : Bool := match freeO t, rootedO t with
  | some fr, some rs => evF t fr 0 rs
  | _, _ => false
theorem evF_step {t fr : List Nat} {xs : List (List Nat)} {k : Nat} {q : List Nat} (hq : xs[k]? = some q) (i : Nat) : evF t fr i (xs.drop k) = bif eqN q fr then evenN (t.getD i 0) else evF t fr (i + 1) (xs.drop (k + 1)) := by
  have : xs.drop k = q :: xs.drop (k + 1) := by
    obtain ⟨hk, rfl⟩ := List.getElem?_eq_some_iff.1 hq
    exact List.drop_eq_getElem_cons hk
  rw [this, evF]
theorem even_tmod (a : Nat) : ((a : Int) % 2 == 0) = evenN a := by
  unfold evenN
  cases h : Nat.beq (a % 2) 0 with
  | true => have := Nat.eq_of_beq_eq_true h; simp; omega
  | false => have := Nat.ne_of_beq_eq_false h; simp; omega
theorem eqN_dec2 (q t : List Nat) : eqN q t = decide (up q = up t) := by
  by_cases e : q = t
  · rw [eqN_iff.2 e, e]; exact (decide_eq_true rfl).symm
  · have h1 : eqN q t = false := by
      cases hh : eqN q t with
      | true => exact absurd (eqN_iff.1 hh) e
      | false => rfl
    rw [h1]; exact (decide_eq_false fun h => e (up_inj h)).symm

set_option maxHeartbeats 4000000 in
theorem i_isEvenRoot (w : World) (v : Value) (t fr : List Nat) (rs : List (List Nat)) (ha : Ints w v (up t)) (ht : lvl t = true) (h8 : t.length ≤ 8) (hl : ∀ l ∈ t, l ≤ 1000000) (hfr : freeO t = some fr) (hrs : rootedO t = some rs) (hlen : rs.length = t.length) :
    Calls Try.prog 107 #[v] w fun e w' => e = .returned (.bool (evN t)) ∧ Below w.heap.size w w' := by
  have HA := Lib.hid ha
  have HFF := Lib.hid (fun W h => i_freeForm W v t fr h ht h8 hl hfr)
  have HRT := Lib.hid (fun W h => i_rooted W v t rs h ht h8 hl hrs)
  obtain ⟨EE, hEE⟩ : ∃ EE, EE = evN t := ⟨_, rfl⟩
  rw [← hEE]
  have HEE := Lib.hid (show EE = evF t fr 0 rs from by rw [hEE]; unfold evN; rw [hfr, hrs])
  obtain ⟨A, c, rfl, l1, l2, h3⟩ := ha.open_
  rw [up_len] at l1 h3 HA HFF HRT ⊢
  have H3 := Lib.hid h3
  clear ha ht hl hfr hrs hEE h3
  go_enter Try.func107, Try.ntmps107
  go_wp2_with (first
    | (go_at_call 91; refine (HFF.out _ HA.out).mono ?_; rintro e w1 ⟨x1, rfl, ho1, hb1⟩; obtain ⟨A1, c1, he1, -, -, -⟩ := ho1.ints.open_; rw [up_len] at he1; subst he1; have HO1 := Lib.hid ho1; have HB1 := Lib.hid hb1; clear ho1 hb1)
    | (go_at_call 149; refine (HRT.out _ (HA.out.below HB1.out)).mono ?_; rintro e w2 ⟨x2, rfl, hl2, hb2⟩; obtain ⟨A2, c2, he2, -, -, hr2⟩ := hl2.rows.open_; rw [List.length_map] at he2 hr2; subst he2; have HR2 := Lib.hid hr2; have HO2 := Lib.hid (HO1.out.below hb2); have HB2 := Lib.hid (HB1.out.trans (hb2.mono HB1.out.size)); clear hl2 hb2 hr2))
  go_loopw [11] (fun x wr => ∃ i d : Nat, i ≤ rs.length ∧ x = .int .i64 i ∧ Hid (evF t fr i (rs.drop i) = EE) ∧ wr = w2.drewN d) (fun x _ => rs.length - (intOf x).toNat)
  case atStart => exact ⟨0, 0, Nat.zero_le _, rfl, HEE.out.symm, rfl⟩
  case round =>
    obtain ⟨i, d, hi, rfl, HE, rfl⟩ := hrel
    by_cases hlt : i < rs.length
    · obtain ⟨ad, u, zs, rfl, hz, hu, hc⟩ := HR2.out i hlt
      have hq : rs[i]? = some (rs[i]'hlt) := List.getElem?_eq_getElem _
      have hzb : zs = up (rs[i]'hlt) := by rw [List.getElem?_map, hq] at hz; injection hz with hz; exact hz.symm
      subst hzb
      obtain ⟨at', z, rfl, hz2, -, hct⟩ := H3.out i (by omega)
      obtain ⟨a, hla, rfl⟩ := up_getD hz2
      have hga : t.getD i 0 = a := by simp [List.getD, hla]
      have hcw : w2.cell? (at'.add i) = some (.int .i64 (a : Int)) := keepCell HB2.out hct
      have he := HE.out
      rw [evF_step hq, hga] at he
      have hed := eqN_dec2 (rs[i]'hlt) fr
      generalize rs[i]'hlt = q at *
      obtain ⟨A5, c5, rfl, -, -, -⟩ := hu.open_
      rw [up_len] at hc hu
      have hsm := lib_Equal (w2.drewN d) _ _ (up q) (up fr) (hu.drewN d) (HO2.out.ints.drewN d)
      rw [← hed] at hsm
      have htm := even_tmod a
      have hii : (i : Int) < (rs.length : Int) := by omega
      have hit : (i : Int) < (t.length : Int) := by omega
      clear hed hq hz hz2 hct hla hga hu HE
      cases hb : eqN q fr with
      | true =>
        rw [hb] at he hsm
        have HE := Lib.hid (show EE = ((a : Int) % 2 == 0) from by rw [htm]; exact he.symm)
        have HSM := Lib.hid hsm
        clear he hsm hb htm
        go_wp2_with (go_at_call 140; refine HSM.out.mono ?_; rintro e w6 ⟨rfl, n6, rfl⟩)
        go_ret
        exact ⟨ret_bool HE.out.symm, below_drewN HB2.out _⟩
      | false =>
        rw [hb] at he hsm
        have HE := Lib.hid (show evF t fr (i + 1) (rs.drop (i + 1)) = EE from he)
        have HSM := Lib.hid hsm
        clear he hsm hb htm
        go_wp2_with (go_at_call 140; refine HSM.out.mono ?_; rintro e w6 ⟨rfl, n6, rfl⟩)
        go_roundw
        case rel => exact ⟨i + 1, _, by omega, by go_num, HE.out, by first | rfl | exact World.drewN_drewN ..⟩
        case measure => simp [intOf]; omega
    · have hil : i = rs.length := by omega
      have HF := Lib.hid (show EE = false from by rw [← HE.out, hil, List.drop_length, evF])
      go_wp2_with fail
      go_ret
      exact ⟨ret_bool HF.out.symm, below_drewN HB2.out d⟩

/-- has a node before which the form is come to an even level? -/
def sgF (t fo : List Nat) : Nat → Nat → Option Bool
  | 0, _ => some false
  | f + 1, n => match turV 9 t n with
    | none => none
    | some q => bif eqN q fo && evenN (t.getD n 0) then some true else sgF t fo f (n + 1)
theorem sgF_succ {t fo : List Nat} {f n : Nat} {r : Bool} (h : sgF t fo (f + 1) n = some r) : ∃ q, turV 9 t n = some q ∧ (((eqN q fo && evenN (t.getD n 0)) = true ∧ r = true) ∨ ((eqN q fo && evenN (t.getD n 0)) = false ∧ sgF t fo f (n + 1) = some r)) := by
  rw [sgF] at h
  cases hq : turV 9 t n with
  | none => rw [hq] at h; cases h
  | some q =>
    rw [hq] at h
    simp only at h
    cases hb : (eqN q fo && evenN (t.getD n 0)) with
    | true => rw [hb] at h; injection h with h; exact ⟨q, rfl, .inl ⟨hb, h.symm⟩⟩
    | false => rw [hb] at h; exact ⟨q, rfl, .inr ⟨hb, h⟩⟩
def sgZ (b : Bool) : Int := if b then 1 else -1

set_option maxHeartbeats 8000000 in
theorem s_l12Sign (w : World) (v : Value) (t fo : List Nat) (k : Nat) (ys : List CT) (r : Bool) (ha : Ints w v (up t)) (h8 : t.length ≤ 8) (hr : rooV t t.length = some ((fo, k) :: ys)) (hs : sgF t fo t.length 0 = some r) :
    Calls Try.prog 170 #[v] w fun e w' => e = .returned (.int .i64 (sgZ r)) ∧ Below w.heap.size w w' := by
  have HA := Lib.hid ha
  have HR := Lib.hid (fun W h => s_l04Roots W v t _ h (by omega) hr)
  have HS := Lib.hid hs
  obtain ⟨Z, hZ⟩ : ∃ Z, Z = sgZ r := ⟨_, rfl⟩
  rw [← hZ]
  have HZ := Lib.hid hZ
  obtain ⟨A, c, rfl, l1, l2, h3⟩ := ha.open_
  rw [up_len] at l1 h3 HA HR ⊢
  have H3 := Lib.hid h3
  clear ha hr hs hZ h3
  go_enter Try.func170, Try.ntmps170
  go_wp2_with (go_at_call 87; go_loud (refine (HR.out _ HA.out).mono ?_; rintro e w1 ⟨x1, rfl, ho1, hb1⟩; obtain ⟨g, cap, A1, c1, he, hc1, -, hr1⟩ := ho1.at_ (k := 0) rfl; subst he; have hc1' : w1.cell? ⟨g, 0, none⟩ = some (.slice A1 fo.length c1) := hc1; have HF1 := Lib.hid hr1; have HB1 := Lib.hid hb1; have hp1 : 0 < ((fo, k) :: ys).length := (by simp); clear hc1 ho1 hb1 hr1))
  clear hc1' hp1
  go_loopw [4] (fun x wr => ∃ n : Nat, n ≤ t.length ∧ x = .int .i64 n ∧ Hid (sgF t fo (t.length - n) n = some r) ∧ Below w1.heap.size w1 wr) (fun x _ => t.length - (intOf x).toNat)
  case atStart => exact ⟨0, Nat.zero_le _, rfl, HS.out, Below.refl _ _⟩
  case round =>
    obtain ⟨n, hn, rfl, HD, hb⟩ := hrel
    have HB := Lib.hid hb
    clear hb
    by_cases hlt : n < t.length
    · have hd := HD.out
      rw [show t.length - n = (t.length - (n + 1)) + 1 by omega] at hd
      obtain ⟨q, hq, hcs⟩ := sgF_succ hd
      obtain ⟨ad, z, rfl, hz, -, hc⟩ := H3.out n hlt
      obtain ⟨a, hla, rfl⟩ := up_getD hz
      have hga : t.getD n 0 = a := by simp [List.getD, hla]
      rw [hga, ← even_tmod, eqN_dec2] at hcs
      have HQ := Lib.hid hq
      have HCS := Lib.hid hcs
      have HBW := Lib.hid (HB1.out.trans (HB.out.mono HB1.out.size))
      have HC := Lib.hid hc
      have HSM := Lib.hid (fun W y (hy : Ints W y (up q)) (h : Ints W (.slice A1 fo.length c1) (up fo)) => s_l01Same W y (.slice A1 fo.length c1) (up q) (up fo) hy h)
      have hii : (n : Int) < (t.length : Int) := by omega
      clear hd hq hcs hz hla hga hc HD
      generalize decide (up q = up fo) = dd at HCS HSM
      cases dd with
      | false =>
        have HD := Lib.hid (show sgF t fo (t.length - (n + 1)) (n + 1) = some r from by
          rcases HCS.out with ⟨h, -⟩ | ⟨-, h⟩
          · cases h
          · exact h)
        go_wp2_with (first
          | (go_at_call 143; (with_reducible refine (s_l04Turn 9 _ _ t q n (HA.out.below HBW.out) HQ.out).mono ?_); rintro e w8 ⟨x8, rfl, ho8, hb8⟩; have HO8 := Lib.hid ho8; have HB8 := Lib.hid (HB.out.trans (hb8.mono HB.out.size)); clear ho8 hb8)
          | (go_at_call 86; (with_reducible refine (HSM.out _ _ HO8.out.ints (HF1.out.below HB8.out).ints).mono ?_); rintro e w9 ⟨rfl, n9, rfl⟩))
        go_roundw
        case rel => exact ⟨n + 1, by omega, by go_num, HD.out, below_drewN HB8.out n9⟩
        case measure => simp [intOf]; omega
      | true =>
        rcases HCS.out with ⟨h, hr⟩ | ⟨h, hD⟩
        · have HZ1 := Lib.hid (show Z = 1 from by rw [HZ.out, hr]; rfl)
          have hev : ((a : Int) % 2 == 0) = true := by simpa using h
          clear h hr
          go_wp2_with (first
            | (go_at_call 143; (with_reducible refine (s_l04Turn 9 _ _ t q n (HA.out.below HBW.out) HQ.out).mono ?_); rintro e w8 ⟨x8, rfl, ho8, hb8⟩; have HO8 := Lib.hid ho8; have HB8 := Lib.hid (HB.out.trans (hb8.mono HB.out.size)); clear ho8 hb8)
            | (go_at_call 86; (with_reducible refine (HSM.out _ _ HO8.out.ints (HF1.out.below HB8.out).ints).mono ?_); rintro e w9 ⟨rfl, n9, rfl⟩; have hcw := keepCell (HB1.out.trans (HB8.out.mono HB1.out.size)) HC.out))
          go_ret
          exact ⟨ret_i64 HZ1.out.symm, below_drewN (HB1.out.trans (HB8.out.mono HB1.out.size)) n9⟩
        · have HD := Lib.hid hD
          have hev : ((a : Int) % 2 == 0) = false := by simpa using h
          clear h hD
          go_wp2_with (first
            | (go_at_call 143; (with_reducible refine (s_l04Turn 9 _ _ t q n (HA.out.below HBW.out) HQ.out).mono ?_); rintro e w8 ⟨x8, rfl, ho8, hb8⟩; have HO8 := Lib.hid ho8; have HB8 := Lib.hid (HB.out.trans (hb8.mono HB.out.size)); clear ho8 hb8)
            | (go_at_call 86; (with_reducible refine (HSM.out _ _ HO8.out.ints (HF1.out.below HB8.out).ints).mono ?_); rintro e w9 ⟨rfl, n9, rfl⟩; have hcw := keepCell (HB1.out.trans (HB8.out.mono HB1.out.size)) HC.out))
          go_roundw
          case rel => exact ⟨n + 1, by omega, by go_num, HD.out, below_drewN HB8.out n9⟩
          case measure => simp [intOf]; omega
    · have hnl : n = t.length := by omega
      have HZ1 := Lib.hid (show Z = -1 from by
        have h := HD.out
        rw [hnl, Nat.sub_self, sgF] at h
        injection h with h
        rw [HZ.out, ← h]; rfl)
      go_wp2_with fail
      go_ret
      exact ⟨ret_i64 HZ1.out.symm, HB1.out.trans (HB.out.mono HB1.out.size)⟩
end Go.Proofs.Ytbjeibcombjfgaa

