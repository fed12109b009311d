/- The law FnExactFirstError, walked over the contracts of both. (printed by lawgen3.py) | Walks: plus of the program, l02Add of the reference. | DROP Walks: FirstError of the program and of the reference. | DROP Walk: FirstError of the reference. | The law FnExactFirstError. -/
import Derived.Test.YtdjhfeaimmpmhaaGreatZf2
import Derived.WalkLawsBesides
import Derived.Deep.RegionHeld3
import Derived.Test.YtdjhfeaimmpmhaaGreatZf3
import Derived.Test.YtdjhfeaimmpmhaaGreatZf18
import Derived.Test.YtdjhfeaimmpmhaaGreatZf19
import Derived.Test.YtdjhfeaimmpmhaaGreatZf20
set_option linter.unusedVariables false
set_option linter.unusedSimpArgs false
namespace Go.Proofs.YtdjhfeaimmpmhaaGreat
open Go.RowKit

set_option maxRecDepth 100000 in
set_option maxHeartbeats 8000000 in
theorem law_FnExactFirstError_gen (w : World) (v0 : Value) (zs0 : List Int) (ha0 : Ints w v0 zs0) (r : List Int) (c : Int) (hR : zs0.length ≤ 1048576 → r.length ≤ 1048576)
    (hS : zs0.length ≤ 1048576 → ∀ (W : World) (v0 : Value), Ints W v0 zs0 → Calls Tryz.prog 34 #[v0] W fun e w' => ∃ u, e = .returned (.tuple #[u, .int .i64 c]) ∧ OI w' W.heap.size w'.heap.size tI u r ∧ Below W.heap.size W w')
    (hI : zs0.length ≤ 1048576 → ∀ (W : World) (v0 : Value), Ints W v0 zs0 → Calls Tryz.prog 35 #[v0] W fun e w' => ∃ u, e = .returned (.tuple #[u, .int .i64 c]) ∧ OI w' W.heap.size w'.heap.size tI u r ∧ Below W.heap.size W w') :
    Calls Tryz.prog 7 #[v0] w fun e w' => e = .returned (.bool true) ∧ Below w.heap.size w w' := by
  have B := Lib.hid (Below.refl w.heap.size w)
  have HS := Lib.hid hS
  have HI := Lib.hid hI
  clear hS hI
  have HR := Lib.hid hR
  clear hR
  have HA0 := Lib.hid ha0
  obtain ⟨A0, c0, rfl, -, -, -⟩ := ha0.open_
  clear ha0
  go_enter Tryz.func7, Tryz.ntmps7
  by_cases hbig0 : (1048576 : Int) < (zs0.length : Int)
  · go_wp2_with fail
    go_ret
    exact ⟨rfl, Below.refl _ _⟩
  have hsm0 : zs0.length ≤ 1048576 := by omega
  go_wp2_with fail
  have HS := Lib.hid (HS.out hsm0)
  have HI := Lib.hid (HI.out hsm0)
  have HR := Lib.hid (HR.out hsm0)
  refine (n_to_ints _ _ zs0 (HA0.out.below B.out) (by omega)).mono ?_
  rintro e w1 ⟨xT0, rfl, hT0, b2⟩
  have Z3 := Lib.hid (b2.size)
  have NB := Lib.hid (B.out.trans (b2.mono B.out.size))
  clear B
  have B := NB
  clear NB
  clear b2
  have T0 := Lib.hid hT0
  clear hT0
  go_wp2_with fail
  refine (HS.out _ _ T0.out.ints).mono ?_
  rintro e w4 ⟨xW, rfl, hW, b5⟩
  have Z6 := Lib.hid (b5.size)
  have NT0 := Lib.hid (T0.out.below b5)
  clear T0
  have T0 := NT0
  clear NT0
  have NB := Lib.hid (B.out.trans (b5.mono B.out.size))
  clear B
  have B := NB
  clear NB
  clear b5
  have W := Lib.hid hW
  clear hW
  clear T0
  go_wp2_with fail
  refine (n_to_ints _ _ zs0 (HA0.out.below B.out) (by omega)).mono ?_
  rintro e w7 ⟨xX0, rfl, hX0, b8⟩
  have Z9 := Lib.hid (b8.size)
  have NW := Lib.hid (W.out.below b8)
  clear W
  have W := NW
  clear NW
  have NB := Lib.hid (B.out.trans (b8.mono B.out.size))
  clear B
  have B := NB
  clear NB
  clear b8
  have X0 := Lib.hid hX0
  clear hX0
  go_wp2_with fail
  refine (HI.out _ _ X0.out.ints).mono ?_
  rintro e w10 ⟨xG, rfl, hG, b11⟩
  have Z12 := Lib.hid (b11.size)
  have NW := Lib.hid (W.out.below b11)
  clear W
  have W := NW
  clear NW
  have NX0 := Lib.hid (X0.out.below b11)
  clear X0
  have X0 := NX0
  clear NX0
  have NB := Lib.hid (B.out.trans (b11.mono B.out.size))
  clear B
  have B := NB
  clear NB
  clear b11
  have G := Lib.hid hG
  clear hG
  go_wp2_with fail
  refine (n_eq_ints _ _ _ r G.out.ints W.out.ints).mono ?_
  rintro e w13 ⟨rfl, b14⟩
  have Z15 := Lib.hid (b14.size)
  have NW := Lib.hid (W.out.below b14)
  clear W
  have W := NW
  clear NW
  have NX0 := Lib.hid (X0.out.below b14)
  clear X0
  have X0 := NX0
  clear NX0
  have NG := Lib.hid (G.out.below b14)
  clear G
  have G := NG
  clear NG
  have NB := Lib.hid (B.out.trans (b14.mono B.out.size))
  clear B
  have B := NB
  clear NB
  clear b14
  go_wp2_with fail
  refine (n_to_ints _ _ zs0 (HA0.out.below B.out) (by omega)).mono ?_
  rintro e w16 ⟨xY0, rfl, hY0, b17⟩
  have Z18 := Lib.hid (b17.size)
  have NW := Lib.hid (W.out.below b17)
  clear W
  have W := NW
  clear NW
  have NX0 := Lib.hid (X0.out.below b17)
  clear X0
  have X0 := NX0
  clear NX0
  have NG := Lib.hid (G.out.below b17)
  clear G
  have G := NG
  clear NG
  have NB := Lib.hid (B.out.trans (b17.mono B.out.size))
  clear B
  have B := NB
  clear NB
  clear b17
  have Y0 := Lib.hid hY0
  clear hY0
  go_wp2_with fail
  refine (n_eq_ints _ _ _ zs0 X0.out.ints Y0.out.ints).mono ?_
  rintro e w19 ⟨rfl, b20⟩
  have Z21 := Lib.hid (b20.size)
  have NW := Lib.hid (W.out.below b20)
  clear W
  have W := NW
  clear NW
  have NX0 := Lib.hid (X0.out.below b20)
  clear X0
  have X0 := NX0
  clear NX0
  have NG := Lib.hid (G.out.below b20)
  clear G
  have G := NG
  clear NG
  have NY0 := Lib.hid (Y0.out.below b20)
  clear Y0
  have Y0 := NY0
  clear NY0
  have NB := Lib.hid (B.out.trans (b20.mono B.out.size))
  clear B
  have B := NB
  clear NB
  clear b20
  clear Y0
  go_wp2_with fail
  refine (n_mark_ints _ _ _ _ zs0 (1) X0.out (by omega) (by omega) (by omega)).mono ?_
  rintro e w22 ⟨rfl, -, chw22⟩
  have Z23 := Lib.hid (chw22.size)
  have NW := Lib.hid (W.out.kept chw22 (by have y0 := Z3.out; have y1 := Z6.out; have y2 := Z9.out; have y3 := Z12.out; have y4 := Z15.out; have y5 := Z18.out; have y6 := Z21.out; have y7 := Z23.out; omega))
  clear W
  have W := NW
  clear NW
  have NG := Lib.hid (G.out.kept chw22 (by have y0 := Z3.out; have y1 := Z6.out; have y2 := Z9.out; have y3 := Z12.out; have y4 := Z15.out; have y5 := Z18.out; have y6 := Z21.out; have y7 := Z23.out; omega))
  clear G
  have G := NG
  clear NG
  clear X0
  have NB := Lib.hid (chw22.below B.out (by have y0 := Z3.out; have y1 := Z6.out; have y2 := Z9.out; have y3 := Z12.out; have y4 := Z15.out; have y5 := Z18.out; have y6 := Z21.out; have y7 := Z23.out; omega) B.out.size)
  clear B
  have B := NB
  clear NB
  clear chw22
  have hk0 : (0 : Int) ≤ 1 + (zs0.length : Int) := by omega
  go_wp2_with fail
  clear hk0
  refine (n_eq_ints _ _ _ r G.out.ints W.out.ints).mono ?_
  rintro e w24 ⟨rfl, b25⟩
  have Z26 := Lib.hid (b25.size)
  have NW := Lib.hid (W.out.below b25)
  clear W
  have W := NW
  clear NW
  have NG := Lib.hid (G.out.below b25)
  clear G
  have G := NG
  clear NG
  have NB := Lib.hid (B.out.trans (b25.mono B.out.size))
  clear B
  have B := NB
  clear NB
  clear b25
  go_wp2_with fail
  have hr0 : (0 : Int) ≤ 1 + ((r.length : Nat) : Int) := by omega
  refine (n_mark_ints _ _ _ _ r 1 G.out (by have y := HR.out; omega) (by omega) (by omega)).mono ?_
  rintro e w27 ⟨rfl, hw27, chw27⟩
  have Z28 := Lib.hid (chw27.size)
  have NW := Lib.hid (W.out.kept chw27 (by have y0 := Z3.out; have y1 := Z6.out; have y2 := Z9.out; have y3 := Z12.out; have y4 := Z15.out; have y5 := Z18.out; have y6 := Z21.out; have y7 := Z23.out; have y8 := Z26.out; have y9 := Z28.out; omega))
  clear W
  have W := NW
  clear NW
  have NG := Lib.hid (hw27)
  clear G
  have G := NG
  clear NG
  have NB := Lib.hid (chw27.below B.out (by have y0 := Z3.out; have y1 := Z6.out; have y2 := Z9.out; have y3 := Z12.out; have y4 := Z15.out; have y5 := Z18.out; have y6 := Z21.out; have y7 := Z23.out; have y8 := Z26.out; have y9 := Z28.out; omega) B.out.size)
  clear B
  have B := NB
  clear NB
  clear hw27 chw27
  go_wp2_with fail
  refine (n_held_ints _ _ r.length G.out.ints (by have y := HR.out; omega)).mono ?_
  rintro e w29 ⟨rfl, b30⟩
  have Z31 := Lib.hid (b30.size)
  have NW := Lib.hid (W.out.below b30)
  clear W
  have W := NW
  clear NW
  have NG := Lib.hid (G.out.below b30)
  clear G
  have G := NG
  clear NG
  have NB := Lib.hid (B.out.trans (b30.mono B.out.size))
  clear B
  have B := NB
  clear NB
  clear b30
  go_wp2_with fail
  refine (n_to_ints _ _ zs0 (HA0.out.below B.out) (by omega)).mono ?_
  rintro e w32 ⟨xV0, rfl, hV0, b33⟩
  have Z34 := Lib.hid (b33.size)
  have NW := Lib.hid (W.out.below b33)
  clear W
  have W := NW
  clear NW
  have NG := Lib.hid (G.out.below b33)
  clear G
  have G := NG
  clear NG
  have NB := Lib.hid (B.out.trans (b33.mono B.out.size))
  clear B
  have B := NB
  clear NB
  clear b33
  have V0 := Lib.hid hV0
  clear hV0
  go_wp2_with fail
  refine (HI.out _ _ V0.out.ints).mono ?_
  rintro e w35 ⟨xH, rfl, hH, b36⟩
  have Z37 := Lib.hid (b36.size)
  have NW := Lib.hid (W.out.below b36)
  clear W
  have W := NW
  clear NW
  have NG := Lib.hid (G.out.below b36)
  clear G
  have G := NG
  clear NG
  have NV0 := Lib.hid (V0.out.below b36)
  clear V0
  have V0 := NV0
  clear NV0
  have NB := Lib.hid (B.out.trans (b36.mono B.out.size))
  clear B
  have B := NB
  clear NB
  clear b36
  have H := Lib.hid hH
  clear hH
  clear V0
  go_wp2_with fail
  refine (n_eq_ints _ _ _ r H.out.ints W.out.ints).mono ?_
  rintro e w38 ⟨rfl, b39⟩
  have Z40 := Lib.hid (b39.size)
  have NW := Lib.hid (W.out.below b39)
  clear W
  have W := NW
  clear NW
  have NG := Lib.hid (G.out.below b39)
  clear G
  have G := NG
  clear NG
  have NH := Lib.hid (H.out.below b39)
  clear H
  have H := NH
  clear NH
  have NB := Lib.hid (B.out.trans (b39.mono B.out.size))
  clear B
  have B := NB
  clear NB
  clear b39
  go_wp2_with fail
  refine (n_held_ints _ _ r.length G.out.ints (by have y := HR.out; omega)).mono ?_
  rintro e w41 ⟨rfl, b42⟩
  have Z43 := Lib.hid (b42.size)
  have NW := Lib.hid (W.out.below b42)
  clear W
  have W := NW
  clear NW
  have NG := Lib.hid (G.out.below b42)
  clear G
  have G := NG
  clear NG
  have NH := Lib.hid (H.out.below b42)
  clear H
  have H := NH
  clear NH
  have NB := Lib.hid (B.out.trans (b42.mono B.out.size))
  clear B
  have B := NB
  clear NB
  clear b42
  go_wp2_with fail
  go_ret
  exact ⟨rfl, B.out⟩
end Go.Proofs.YtdjhfeaimmpmhaaGreat

set_option linter.unusedVariables false
set_option linter.unusedSimpArgs false
namespace Go.Proofs.YtdjhfeaimmpmhaaGreat
open Go.RowKit

/-- the first j places of a + k b -/
def addTo (k : Int) (a b : List Int) (j : Nat) : List Int := (List.range j).map fun i => (a.getD i 0 + k * b.getD i 0) % 10007
def addk (k : Int) (a b : List Int) : List Int := addTo k a b a.length
theorem addTo_len (k : Int) (a b : List Int) (j : Nat) : (addTo k a b j).length = j := by simp [addTo]
theorem addTo_succ {k : Int} {a b : List Int} {j : Nat} {x y : Int} (hx : a[j]? = some x) (hy : b[j]? = some y) : addTo k a b (j + 1) = addTo k a b j ++ [(x + k * y) % 10007] := by
  simp [addTo, List.range_succ, List.getD, hx, hy]
theorem addTo_nums (k : Int) (a b : List Int) (j : Nat) : Nums (addTo k a b j) := by
  intro z hz
  obtain ⟨i, _, rfl⟩ := List.mem_map.1 hz
  omega
theorem nums_in {zs : List Int} (h : Nums zs) : ∀ z ∈ zs, In64 z := by
  intro z hz
  have := h z hz
  unfold In64
  omega

set_option maxRecDepth 100000 in
set_option maxHeartbeats 1000000 in
theorem i_plus (w : World) (v v' : Value) (a b : List Int) (k : Int) (ha : Ints w v a) (hb : Ints w v' b) (hA : Nums a) (hB : Nums b) (hl : a.length ≤ b.length) (hn : a.length ≤ 4294967296) (h0 : -4000000000000000000 ≤ k) (h1 : k ≤ 4000000000000000000) :
    Calls Tryz.prog 97 #[v, v', .int .i64 k] w fun e w' => ∃ r, e = .returned r ∧ OwnInts w' w.heap.size tI r (addk (k % 10007) a b) ∧ Below w.heap.size w w' := by
  obtain ⟨A, c, rfl, l1, l2, h3⟩ := ha.open_
  obtain ⟨A', c', rfl, l1', l2', h3'⟩ := hb.open_
  have H3 := Lib.hid h3
  have G3 := Lib.hid h3'
  have HN := Lib.hid hA
  have HM := Lib.hid hB
  clear ha hb h3 h3' hA hB
  have OL := Lib.hid (own_lit w tI [] (by simp [maxLen]))
  go_enter Tryz.func97, Tryz.ntmps97
  go_wp2_with fail
  go_loopw [7, 13] (fun o i wr => ∃ j : Nat, j ≤ a.length ∧ i = .int .i64 j ∧ Own wr w.heap.size tI o (ints (addTo (k % 10007) a b j)) ∧ Below w.heap.size w wr) (fun _ i _ => a.length - (intOf i).toNat)
  case atStart => exact ⟨0, Nat.zero_le _, rfl, by simpa [addTo, ints] using OL.out, (Below.refl _ _).alloc (Nat.le_refl _) _⟩
  case round =>
    obtain ⟨j, hj, rfl, hown, hb⟩ := hrel
    clear OL
    have HO := Lib.hid hown
    have HB := Lib.hid hb
    clear hown hb
    by_cases hlt : j < a.length
    · obtain ⟨ad, x, rfl, hx, -, hcx⟩ := H3.out j hlt
      obtain ⟨ad', y, rfl, hy, -, hcy⟩ := G3.out j (by omega)
      have hc : wr.cell? (ad.add j) = some (.int .i64 x) := by
        rw [HB.out.cell (by rw [block_add]; have := World.block_lt_of_cell? w _ hcx; rwa [block_add] at this)]; exact hcx
      have hc' : wr.cell? (ad'.add j) = some (.int .i64 y) := by
        rw [HB.out.cell (by rw [block_add]; have := World.block_lt_of_cell? w _ hcy; rwa [block_add] at this)]; exact hcy
      have hxn := HN.out x (List.mem_of_getElem? hx)
      have hyn := HM.out y (List.mem_of_getElem? hy)
      have HS := Lib.hid (addTo_succ (k := k % 10007) hx hy)
      have hm0 : 0 ≤ k % 10007 ∧ k % 10007 ≤ 10006 := by omega
      obtain ⟨p1, p2⟩ := mul_bd 10006 10006 hm0.1 hm0.2 hyn.1 hyn.2
      have hjb : (j : Int) < (b.length : Int) := by omega
      have hjb' : j < b.length := by omega
      clear hx hy hcx hcy
      go_wp2_with fail
      have wA : IntKind.i64.wrap (k % 10007 * y) = k % 10007 * y := IntWalk.i64_in _ (by omega)
      have wB : IntKind.i64.wrap (x + k % 10007 * y) = x + k % 10007 * y := IntWalk.i64_in _ (by omega)
      go_region_law (first | (refine step_app1 T_int (B := w.heap.size) (W := wr.drew) (by exact HO.out) (by rw [ints_len, addTo_len]; omega) (by exact HB.out.size) (by rfl) rfl (by rfl) (by rfl) (by rfl) ?_; intro v1 w1 hown1 hgr1) | (go_simp; go_at_call 60; refine (i_num _ _ (by omega) (by omega)).mono ?_; rintro e w' ⟨rfl, rfl⟩))
      all_goals
        go_wp2_with fail
        go_roundw
        case rel =>
          refine ⟨j + 1, by omega, by go_num, ?_, hgr1.below HB.out.drew HB.out.size HO.out.ge⟩
          rw [HS.out]
          simpa [ints] using hown1
        case measure => simp [intOf]; omega
    · have : j = a.length := by omega
      subst this
      go_wp2_with fail
      go_ret
      exact ⟨_, rfl, ⟨HO.out, nums_in (addTo_nums _ _ _ _)⟩, HB.out⟩
end Go.Proofs.YtdjhfeaimmpmhaaGreat

set_option maxRecDepth 100000
set_option linter.unusedVariables false
set_option linter.unusedSimpArgs false
namespace Go.Proofs.YtdjhfeaimmpmhaaGreat
open Go.RowKit

/-- the nodes at which the first error lies -/
def fePr (a : List Int) (n : Nat) : Bool := decide ((n : Int) = agZ a EX + 1)
def feZ (a : List Int) : List Int := kpZ (fePr a) (addk 10006 a EX)
def feR (a : List Int) : List Int := if chrC a = 0 then (if agZ a EX = 6 then [] else feZ a) else []
def feC (a : List Int) : Int := if chrC a = 0 then (if agZ a EX = 6 then 4 else 0) else chrC a
theorem EX_nums' : Nums EX := fun z hz => EX_nums z hz
theorem chr_of {a : List Int} (h : chrC a = 0) : mapB a = true ∧ a.getD 0 0 = 1 := by
  unfold chrC at h
  cases hm : mapB a with
  | false => rw [hm] at h; simp at h
  | true =>
    rw [hm] at h
    refine ⟨rfl, ?_⟩
    by_cases e : a.getD 0 0 = 1
    · exact e
    · rw [if_pos rfl, if_neg e] at h; exact absurd h (by decide)
theorem Frm.opens {w : World} {B : Nat} {v : Value} (h : Frm w B v) : ∃ A c Ay my cy, v = .agg #[.slice A 37 c, .slice Ay my cy] ∧ Rows w (.slice A 37 c) (T6n.map up) := by
  obtain ⟨x, y, us, rfl, h1, h2, -⟩ := h
  obtain ⟨A, c, he, -, -, -⟩ := h1.rows.open_
  rw [List.length_map, T6n_len] at he
  subst he
  obtain ⟨Ay, cy, rfl, -, -⟩ := h2.cells.open_
  exact ⟨A, c, Ay, _, cy, rfl, h1.rows⟩

theorem beq_int (x y : Int) : (x == y) = decide (x = y) := by
  by_cases h : x = y
  · simp [h]
  · simp [h]

set_option maxHeartbeats 400000 in
theorem i_FirstError1 (w : World) (n : Nat) (p : Int) (b : Nat) (hp : -1 ≤ p ∧ p ≤ 6) (hc : w.cell? ⟨b, 0, none⟩ = some (.int .i64 p)) :
    Calls Tryz.prog 98 #[.int .i64 n, .pointer (some ⟨b, 0, none⟩)] w fun e w' => e = .returned (.bool (decide ((n : Int) = p + 1))) ∧ w = w' := by
  obtain ⟨hp0, hp1⟩ := hp
  have HQ := Lib.hid (beq_int (n : Int) (p + 1))
  go_enter Tryz.func98, Tryz.ntmps98
  go_wp2_with fail
  go_ret
  exact ⟨ret_bool HQ.out, rfl⟩

set_option maxHeartbeats 8000000 in
theorem i_FirstError (w : World) (v : Value) (a : List Int) (ha : Ints w v a) :
    Calls Tryz.prog 35 #[v] w fun e w' => ∃ x, e = .returned (.tuple #[x, .int .i64 (feC a)]) ∧ OwnInts w' w.heap.size tI x (feR a) ∧ Below w.heap.size w w' := by
  have HA := Lib.hid ha
  have HCH := Lib.hid (i_checkCharacter w v a ha)
  obtain ⟨A, c, rfl, -, -, -⟩ := ha.open_
  clear ha
  by_cases hc : chrC a = 0
  · rw [hc] at HCH
    obtain ⟨hm, ha0⟩ := chr_of hc
    have hmt := mapB_true hm
    have hl := hmt.1
    have HN := Lib.hid (show Nums a from hmt.2)
    have HL := Lib.hid hl
    rw [hl] at HA HCH ⊢
    have hbd := agZ_bd a EX
    have HCC := Lib.hid hc
    have HG := Lib.hid (fun W v B m d x h1 h2 h3 => i_agreeTo W v (.slice A 38 c) x B m d a EX h1 h2 h3 HL.out EX_len)
    have HPL := Lib.hid (fun W x (h2 : Ints W (.slice A 38 c) a) (h3 : Ints W x EX) => show Calls Tryz.prog 97 #[.slice A 38 c, x, .int .i64 (-1)] W fun e w' => ∃ r, e = .returned r ∧ OwnInts w' W.heap.size tI r (addk 10006 a EX) ∧ Below W.heap.size W w' from by
      have h := i_plus W (.slice A 38 c) x a EX (-1) h2 h3 HN.out EX_nums' (by rw [HL.out, EX_len]; exact Nat.le_refl _) (by rw [HL.out]; omega) (by omega) (by omega)
      rwa [show (-1 : Int) % 10007 = 10006 from by decide] at h)
    clear hc hm ha0 hmt hl
    go_enter Tryz.func35, Tryz.ntmps35
    go_upto_region 7 with (first
      | (go_at_call 74; refine HCH.out.mono ?_; rintro e w0 ⟨rfl, rfl⟩)
      | (go_at_call 65; go_loud (refine (i_newForms _).mono ?_; rintro e w1 ⟨f, rfl, hf, hb1⟩; obtain ⟨Af, cf, Ay, my, cy, rfl, hrf⟩ := hf.opens; have HRF := Lib.hid hrf; have HB1 := Lib.hid hb1; clear hf hrf hb1))
      | (go_at_call 94; go_loud (refine (i_exactMap _ _ Ay my cy (HRF.out.below (below1 w1 _))).mono ?_; rintro e w2 ⟨x2, rfl, ho2, hb2⟩; have HO2 := Lib.hid ho2; have HSZ2 := Lib.hid hb2.size; have HB2 := Lib.hid (((below1 w1 (.cells #[.slice Af 37 cf, .slice Ay my cy] tFo)).trans (hb2.mono (by simp)))); have HK2 := Lib.hid ((Blk.new w1 #[.slice Af 37 cf, .slice Ay my cy] tFo).below hb2 (by simp)); have hf0 : w2.cell? ⟨w1.heap.size, 0, none⟩ = some (.slice Af 37 cf) := HK2.out.cell 0; have hf1 : w2.cell? ⟨w1.heap.size, 1, none⟩ = some (.slice Ay my cy) := HK2.out.cell 1; clear ho2 hb2))
      | (go_at_call 95; go_loud (refine (HG.out _ _ Ay my cy _ (HRF.out.below HB2.out) ((HA.out.below HB1.out).below HB2.out) HO2.out.ints).mono ?_; rintro e w3 ⟨rfl, hb3⟩; have HB23 := Lib.hid hb3; have HB3 := Lib.hid (HB2.out.trans (hb3.mono HB2.out.size)); clear hb3)))
    obtain ⟨W, hW⟩ : ∃ W, W = w3.alloc (.cells #[.int .i64 (agZ a EX)] tI) := ⟨_, rfl⟩
    have hbw : Below w1.heap.size w1 W := by rw [hW]; exact HB3.out.trans ((below1 w3 _).mono HB3.out.size)
    have HBW := Lib.hid hbw
    have HKP := Lib.hid (show Blk W w3.heap.size tI #[.int .i64 (agZ a EX)] from by rw [hW]; exact Blk.new _ _ _)
    have HKF := Lib.hid (show Blk W w1.heap.size tFo #[.slice Af 37 cf, .slice Ay my cy] from by
      rw [hW]; exact (HK2.out.below HB23.out HK2.out.lt).alloc _)
    have HOW := Lib.hid (show OwnInts W _ tI x2 EX from by rw [hW]; exact (HO2.out.below HB23.out).below (below1 w3 _))
    have HAW := Lib.hid ((HA.out.below HB1.out).below hbw)
    have HRW := Lib.hid (HRF.out.below hbw)
    rw [← hW]
    clear hW hbw hf0 hf1
    have hp0 : W.cell? ⟨w3.heap.size, 0, none⟩ = some (.int .i64 (agZ a EX)) := HKP.out.cell 0
    by_cases h6 : agZ a EX = 6
    · have hd : (agZ a EX == 6) = true := by simp [h6]
      have HR := Lib.hid (show feR a = [] from by simp [feR, HCC.out, h6])
      have HC := Lib.hid (show feC a = 4 from by simp [feC, HCC.out, h6])
      clear h6
      go_wp2_with fail
      go_ret2
      rw [HR.out, HC.out]
      exact ⟨_, rfl, OwnInts.nil _ _ _, HB1.out.trans (HBW.out.mono HB1.out.size)⟩
    · have hd : (agZ a EX == 6) = false := by simp [h6]
      have HR := Lib.hid (show feR a = feZ a from by simp [feR, HCC.out, h6])
      have HC := Lib.hid (show feC a = 0 from by simp [feC, HCC.out, h6])
      clear h6
      go_upto_region 9 with fail
      have hf0 : W.cell? ⟨w1.heap.size, 0, none⟩ = some (.slice Af 37 cf) := HKF.out.cell 0
      have hf1 : W.cell? ⟨w1.heap.size, 1, none⟩ = some (.slice Ay my cy) := HKF.out.cell 1
      have HBDD := Lib.hid hbd
      go_region_law (first
        | (go_simp; go_at_call 97; refine (HPL.out _ _ (by exact HAW.out) (by exact HOW.out.ints)).mono ?_; rintro e w5 ⟨r5, rfl, ho5, hb5'⟩; have hb5 : Below W.heap.size W w5 := (by exact below_of_drew hb5'); have HO5 := Lib.hid ho5; have HB5 := Lib.hid hb5; have k1 : w5.cell? ⟨w1.heap.size, 0, none⟩ = some (.slice Af 37 cf) := (HKF.out.below hb5 HKF.out.lt).cell 0; have k2 : w5.cell? ⟨w1.heap.size, 1, none⟩ = some (.slice Ay my cy) := (HKF.out.below hb5 HKF.out.lt).cell 1; clear ho5 hb5')
        | (go_simp; go_at_call 96; refine (i_keep w5 (.slice Af 37 cf) _ Ay my cy 98 (.pointer (some ⟨w3.heap.size, 0, none⟩)) (fePr a) (addk 10006 a EX) (by exact (HRW.out.below HB5.out)) (by exact HO5.out.ints) (by rw [addk, addTo_len]; exact HL.out) (fun _ _ => by kernel_rfl) (fun V n hV => i_FirstError1 V n (agZ a EX) w3.heap.size HBDD.out (((HKP.out.below HB5.out HKP.out.lt).below hV (Nat.lt_of_lt_of_le HKP.out.lt HB5.out.size)).cell 0))).mono ?_; rintro e w7 ⟨x7, rfl, ho7, hb7⟩; have HO7 := Lib.hid ho7; have HB7 := Lib.hid hb7; clear ho7 hb7))
      all_goals
        go_wp2_with fail
        go_ret2
        rw [HR.out, HC.out]
        have hb := HB1.out.trans (HBW.out.mono HB1.out.size)
        exact ⟨_, rfl, HO7.out.mono (Nat.le_trans hb.size HB5.out.size), (hb.trans (HB5.out.mono hb.size)).trans (HB7.out.mono (Nat.le_trans hb.size HB5.out.size))⟩
  · have HC := Lib.hid (show feC a = chrC a from by simp [feC, hc])
    have HR := Lib.hid (show feR a = [] from by simp [feR, hc])
    rw [HR.out, HC.out]
    clear HR HC
    have hd : (chrC a != 0) = true := by simp [hc]
    generalize chrC a = cc at *
    clear hc
    go_enter Tryz.func35, Tryz.ntmps35
    go_wp2_with (go_at_call 74; refine HCH.out.mono ?_; rintro e w0 ⟨rfl, rfl⟩)
    go_ret2
    exact ⟨_, rfl, OwnInts.nil _ _ _, Below.refl _ _⟩
end Go.Proofs.YtdjhfeaimmpmhaaGreat

set_option maxRecDepth 100000
set_option linter.unusedVariables false
set_option linter.unusedSimpArgs false
namespace Go.Proofs.YtdjhfeaimmpmhaaGreat
open Go.RowKit

theorem addk_get {k : Int} {a b : List Int} {j : Nat} {x y : Int} (hx : a[j]? = some x) (hy : b[j]? = some y) : (addk k a b)[j]? = some ((x + k * y) % 10007) := by
  have hj := (List.getElem?_eq_some_iff.1 hx).1
  unfold addk addTo
  rw [List.getElem?_map, List.getElem?_range hj]
  simp only [Option.map_some, List.getD_eq_getElem?_getD, hx, hy, Option.getD_some]

set_option maxHeartbeats 8000000 in
theorem s_FirstError (w : World) (v : Value) (a : List Int) (ha : Ints w v a) :
    Calls Tryz.prog 34 #[v] w fun e w' => ∃ x, e = .returned (.tuple #[x, .int .i64 (feC a)]) ∧ OwnInts w' w.heap.size tI x (feR a) ∧ Below w.heap.size w w' := by
  have HA := Lib.hid ha
  have HCH := Lib.hid (s_l07Code1 w v a ha)
  obtain ⟨A, c, rfl, -, -, -⟩ := ha.open_
  clear ha
  by_cases hc : chrC a = 0
  · rw [hc] at HCH
    obtain ⟨hm, ha0⟩ := chr_of hc
    have hmt := mapB_true hm
    have hl := hmt.1
    have HN := Lib.hid (show Nums a from hmt.2)
    have HL := Lib.hid hl
    rw [hl] at HA HCH ⊢
    have hbd := agZ_bd a EX
    have hbn := agZ_nonneg (a := a) (b := EX) (by rw [ha0]; rfl)
    have HCC := Lib.hid hc
    have HG := Lib.hid (fun W x h2 h3 => s_l07Agree W (.slice A 38 c) x a EX h2 h3 HL.out EX_len)
    clear hc hm ha0 hmt hl
    go_enter Tryz.func34, Tryz.ntmps34
    go_upto_region 6 with (first
      | (go_at_call 76; refine HCH.out.mono ?_; rintro e w0 ⟨rfl, rfl⟩)
      | (go_at_call 70; go_loud (refine (s_l03All _ 6 (by omega)).mono ?_; rintro e w1 ⟨x1, rfl, hx1, hb1⟩; rw [show allG treesN 6 = T6n from rfl] at hx1; obtain ⟨A1, c1, he1, -, -, -⟩ := hx1.rows.open_; rw [List.length_map, T6n_len] at he1; subst he1; have HX1 := Lib.hid hx1.rows; have HB1 := Lib.hid hb1; clear hx1 hb1))
      | (go_at_call 91; go_loud (refine (s_l07Exact _).mono ?_; rintro e w2 ⟨x2, rfl, ho2, hb2⟩; obtain ⟨A2, c2, he2, -, -, -⟩ := ho2.ints.open_; rw [EX_len] at he2; subst he2; have HO2 := Lib.hid ho2.ints; have HB12 := Lib.hid hb2; have HB2 := Lib.hid (HB1.out.trans (hb2.mono HB1.out.size)); clear ho2 hb2))
      | (go_at_call 92; go_loud (refine (HG.out _ _ (HA.out.below HB2.out) HO2.out).mono ?_; rintro e w3 ⟨rfl, hb3⟩; have HB3 := Lib.hid (HB2.out.trans (hb3.mono HB2.out.size)); have HB23 := Lib.hid hb3; clear hb3)))
    have HX3 := Lib.hid ((HX1.out.below HB12.out).below HB23.out)
    have HO3 := Lib.hid (HO2.out.below HB23.out)
    have HA3 := Lib.hid (HA.out.below HB3.out)
    obtain ⟨p, hp⟩ : ∃ p, p = agZ a EX := ⟨_, rfl⟩
    have HPP := Lib.hid hp
    rw [← hp] at hbd hbn ⊢
    by_cases h6 : p = 6
    · have hd : (p == 6) = true := by simp [h6]
      have HR := Lib.hid (show feR a = [] from by rw [feR, if_pos HCC.out, if_pos (by rw [← hp]; exact h6)])
      have HC := Lib.hid (show feC a = 4 from by rw [feC, if_pos HCC.out, if_pos (by rw [← hp]; exact h6)])
      clear h6 hp
      go_wp2_with fail
      go_ret2
      rw [HR.out, HC.out]
      exact ⟨_, rfl, OwnInts.nil _ _ _, HB3.out⟩
    · have hd : (p == 6) = false := by simp [h6]
      have HR := Lib.hid (show feR a = feZ a from by rw [feR, if_pos HCC.out, if_neg (by rw [← hp]; exact h6)])
      have HC := Lib.hid (show feC a = 0 from by rw [feC, if_pos HCC.out, if_neg (by rw [← hp]; exact h6)])
      have HF0 := Lib.hid (show kpT (fePr a) (addk 10006 a EX) 1 = List.replicate 38 0 from by
        rw [kpT_skip (j := 0) (by rw [szN_zero, fePr]; simp only [decide_eq_false_iff_not]; rw [← hp]; omega), kpT_zero])
      clear h6 hp
      go_wp2_with (at_make; refine wpList_mk rfl _ _ _ rfl _ _ _ T_int 38 _ rfl rfl rfl (by omega) _ ?_; intro w4 hown hb hs4; have HOWN := Lib.hid hown; have HB4 := Lib.hid hb; clear hown hb)
      have HO4 := Lib.hid (show OwnInts w4 w3.heap.size tI (.slice (some ⟨w3.heap.size, 0, none⟩) 38 38) (kpT (fePr a) (addk 10006 a EX) (0 + 1)) from by
        rw [HF0.out]
        exact ⟨by simpa [ints] using HOWN.out, fun z hz => by have := List.eq_of_mem_replicate hz; subst this; unfold In64; omega⟩)
      clear HOWN hs4
      go_loopw [9] (fun x wr => ∃ i : Nat, i ≤ 37 ∧ x = .int .i64 i ∧ OwnInts wr w3.heap.size tI (.slice (some ⟨w3.heap.size, 0, none⟩) 38 38) (kpT (fePr a) (addk 10006 a EX) (i + 1)) ∧ Below w3.heap.size w3 wr) (fun x _ => 37 - (intOf x).toNat)
      case atStart => exact ⟨0, Nat.zero_le _, rfl, HO4.out, HB4.out⟩
      case round =>
        obtain ⟨i, hi, rfl, ho, hb⟩ := hrel
        have HO := Lib.hid ho
        have HB := Lib.hid hb
        clear ho hb
        by_cases hlt : i < 37
        · obtain ⟨ad, At, ct, t, rfl, ht, hti, hcr⟩ := (HX3.out.below HB.out).tree hlt
          have hs := szN_succ ht
          have ht6 := (T6n_at (List.mem_of_getElem? ht)).2.2.1
          have hii : (i : Int) < 37 := by omega
          have hwp : wrap64 (p + 1) = p + 1 := by unfold wrap64; omega
          by_cases hn : (t.length : Int) = p + 1
          · have hne : ((t.length : Int) == p + 1) = true := by simp [hn]
            have hpr : fePr a (szN (i + 1)) = true := by rw [hs, fePr, ← HPP.out]; exact decide_eq_true hn
            obtain ⟨A', c', he, -, -, g1⟩ := (HA3.out.below HB.out).open_
            rw [HL.out] at he g1
            simp only [Value.slice.injEq, true_and] at he
            obtain ⟨rfl, rfl⟩ := he
            obtain ⟨a1, x, rfl, hx, -, hcx⟩ := g1 (i + 1) (by omega)
            obtain ⟨A', c', he, -, -, g2⟩ := (HO3.out.below HB.out).open_
            rw [EX_len] at he g2
            simp only [Value.slice.injEq, true_and] at he
            obtain ⟨rfl, rfl⟩ := he
            obtain ⟨a2, y, rfl, hy, -, hcy⟩ := g2 (i + 1) (by omega)
            have hx6 := HN.out x (List.mem_of_getElem? hx)
            have hy6 := EX_nums y (List.mem_of_getElem? hy)
            obtain ⟨z, hz⟩ : ∃ z, z = (x - y) % 10007 := ⟨_, rfl⟩
            obtain ⟨i1, hei⟩ : ∃ i1 : Nat, i1 = i + 1 := ⟨_, rfl⟩
            have HZ := Lib.hid (show (kpT (fePr a) (addk 10006 a EX) (i + 1)).set i1 z = kpT (fePr a) (addk 10006 a EX) (i + 1 + 1) from by
              rw [hei, kpT_take hpr, ints_getD (addk_get hx hy), hz]
              congr 1; omega)
            have HZ6 := Lib.hid (show In64 z from by unfold In64; omega)
            have HSU := Lib.hid (fun W => show Calls Tryz.prog 93 #[.int .i64 x, .int .i64 y] W fun e w' => e = .returned (.int .i64 z) ∧ W = w' from by rw [hz]; exact s_l01Sub x y W (by omega) (by omega) (by omega) (by omega))
            have hwi : IntKind.i64.wrap ((i : Int) + 1) = (i1 : Int) := by rw [hei]; exact IntWalk.i64_in _ (by omega)
            have hi1 : (i1 : Int) < 38 := by omega
            have hi2 : i1 < 38 := by omega
            rw [← hei] at hcx hcy
            obtain ⟨u0, -, hcg, hfg, -, hge, hst, -⟩ := HO.out.1.storeAt (k := i1) (by rw [ints_len, kpT_len]; exact hi2) (.int .i64 z)
            rw [ints_set, HZ.out] at hst
            have HST := Lib.hid hst
            have HEI := Lib.hid hei
            have hge' := hge
            clear ht hti hs g1 g2 hx hy hz hei hst hpr hn
            go_upto_region 13 with fail
            go_region_law (go_simp; go_at_call 93; refine (HSU.out _).mono ?_; rintro e w7 ⟨rfl, rfl⟩)
            all_goals
              go_wp2_with fail
              go_roundw
              case rel =>
                refine ⟨i + 1, by omega, by first | rw [← HEI.out] | go_num, ⟨HST.out, ?_⟩, (HB.out.setCell (p := ⟨w3.heap.size, i1, none⟩) hge' _).drew⟩
                intro q hq
                rw [← HZ.out] at hq
                rcases List.mem_or_eq_of_mem_set hq with hq | hq
                · exact HO.out.2 q hq
                · rw [hq]; exact HZ6.out
              case measure => have := HEI.out; simp [intOf]; omega
          · have hne : ((t.length : Int) == p + 1) = false := by simp [hn]
            have HZ := Lib.hid (show kpT (fePr a) (addk 10006 a EX) (i + 1 + 1) = kpT (fePr a) (addk 10006 a EX) (i + 1) from kpT_skip (by rw [hs, fePr, ← HPP.out]; exact decide_eq_false hn))
            clear ht hti hs hn
            go_wp2_with fail
            go_roundw
            case rel => exact ⟨i + 1, by omega, by go_num, by rw [HZ.out]; exact HO.out, HB.out⟩
            case measure => simp [intOf]; omega
        · have hil : i = 37 := by omega
          have HF := Lib.hid (show kpT (fePr a) (addk 10006 a EX) (i + 1) = feZ a from by rw [hil]; exact kpT_full _ _)
          clear hil
          go_wp2_with fail
          go_ret2
          rw [HR.out, HC.out]
          have h := HO.out
          rw [HF.out] at h
          exact ⟨_, rfl, h.mono HB3.out.size, HB3.out.trans (HB.out.mono HB3.out.size)⟩
  · have HC := Lib.hid (show feC a = chrC a from by simp [feC, hc])
    have HR := Lib.hid (show feR a = [] from by simp [feR, hc])
    rw [HR.out, HC.out]
    clear HR HC
    have hd : (chrC a != 0) = true := by simp [hc]
    generalize chrC a = cc at *
    clear hc
    go_enter Tryz.func34, Tryz.ntmps34
    go_wp2_with (go_at_call 76; refine HCH.out.mono ?_; rintro e w0 ⟨rfl, rfl⟩)
    go_ret2
    exact ⟨_, rfl, OwnInts.nil _ _ _, Below.refl _ _⟩
end Go.Proofs.YtdjhfeaimmpmhaaGreat

set_option maxRecDepth 100000
set_option linter.unusedVariables false
set_option linter.unusedSimpArgs false
namespace Go.Proofs.YtdjhfeaimmpmhaaGreat
open Go.RowKit

theorem feR_len (a : List Int) : (feR a).length ≤ 1048576 := by
  unfold feR feZ
  split
  · split
    · simp
    · rw [kpZ_len]; omega
  · simp
theorem law_FirstError (w : World) (v : Value) (zs : List Int) (ha : Ints w v zs) :
    Calls Tryz.prog 7 #[v] w fun e w' => e = .returned (.bool true) ∧ Below w.heap.size w w' :=
  law_FnExactFirstError_gen w v zs ha (feR zs) (feC zs) (fun _ => feR_len zs)
    (fun _ W v0 h0 => (s_FirstError W v0 zs h0).mono fun e w' h => by obtain ⟨x, he, ho, hb⟩ := h; exact ⟨x, he, OI.of ho, hb⟩)
    (fun _ W v0 h0 => (i_FirstError W v0 zs h0).mono fun e w' h => by obtain ⟨x, he, ho, hb⟩ := h; exact ⟨x, he, OI.of ho, hb⟩)
end Go.Proofs.YtdjhfeaimmpmhaaGreat

