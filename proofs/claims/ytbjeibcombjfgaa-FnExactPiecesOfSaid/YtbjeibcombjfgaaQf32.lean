/- The law FnExactPiecesOf, walked: it returns true. | The law FnExactPiecesOf. -/
import Derived.Test.YtbjeibcombjfgaaQf16
import Derived.Test.YtbjeibcombjfgaaQf12
import Derived.WalkLawsBesides
import Derived.Deep.RegionHeld3
import Derived.Test.YtbjeibcombjfgaaQf27
set_option linter.unusedVariables false
set_option linter.unusedSimpArgs false
namespace Go.Proofs.Ytbjeibcombjfgaa
open Go.RowKit

set_option maxRecDepth 100000 in
set_option maxHeartbeats 8000000 in
theorem law_FnExactPiecesOf_gen (w : World) (v0 : Value) (zs0 : List Int) (ha0 : Ints w v0 zs0) (n1 : Int) (ha1 : In64 n1) (r : List (List Int)) (c : Int) (hR : zs0.length ≤ 1048576 → tot r ≤ 1048576)
    (hS : zs0.length ≤ 1048576 → ∀ (W : World) (v0 : Value), Ints W v0 zs0 → Calls Try.prog 48 #[v0, .int .i64 n1] W fun e w' => ∃ u, e = .returned (.tuple #[u, .int .i64 c]) ∧ OR w' W.heap.size w'.heap.size tL tI u r ∧ Below W.heap.size W w')
    (hI : zs0.length ≤ 1048576 → ∀ (W : World) (v0 : Value), Ints W v0 zs0 → Calls Try.prog 49 #[v0, .int .i64 n1] W fun e w' => ∃ u, e = .returned (.tuple #[u, .int .i64 c]) ∧ OR w' W.heap.size w'.heap.size tL tI u r ∧ Below W.heap.size W w') :
    Calls Try.prog 9 #[v0, .int .i64 n1] w fun e w' => e = .returned (.bool true) ∧ Below w.heap.size w w' := by
  have B := Lib.hid (Below.refl w.heap.size w)
  have HS := Lib.hid hS
  have HI := Lib.hid hI
  clear hS hI
  have HR := Lib.hid hR
  clear hR
  have HA0 := Lib.hid ha0
  obtain ⟨A0, c0, rfl, -, -, -⟩ := ha0.open_
  clear ha0
  go_enter Try.func9, Try.ntmps9
  by_cases hbig0 : (1048576 : Int) < (zs0.length : Int)
  · go_wp2_with fail
    go_ret
    exact ⟨rfl, Below.refl _ _⟩
  have hsm0 : zs0.length ≤ 1048576 := by omega
  go_wp2_with fail
  have HS := Lib.hid (HS.out hsm0)
  have HI := Lib.hid (HI.out hsm0)
  have HR := Lib.hid (HR.out hsm0)
  refine (n_to_ints _ _ zs0 (HA0.out.below B.out) (by omega)).mono ?_
  rintro e w1 ⟨xT0, rfl, hT0, b2⟩
  have Z3 := Lib.hid (b2.size)
  have NB := Lib.hid (B.out.trans (b2.mono B.out.size))
  clear B
  have B := NB
  clear NB
  clear b2
  have T0 := Lib.hid hT0
  clear hT0
  go_wp2_with fail
  refine (HS.out _ _ T0.out.ints).mono ?_
  rintro e w4 ⟨xW, rfl, hW, b5⟩
  have Z6 := Lib.hid (b5.size)
  have NT0 := Lib.hid (T0.out.below b5)
  clear T0
  have T0 := NT0
  clear NT0
  have NB := Lib.hid (B.out.trans (b5.mono B.out.size))
  clear B
  have B := NB
  clear NB
  clear b5
  have W := Lib.hid hW
  clear hW
  clear T0
  go_wp2_with fail
  refine (n_to_ints _ _ zs0 (HA0.out.below B.out) (by omega)).mono ?_
  rintro e w7 ⟨xX0, rfl, hX0, b8⟩
  have Z9 := Lib.hid (b8.size)
  have NW := Lib.hid (W.out.below b8)
  clear W
  have W := NW
  clear NW
  have NB := Lib.hid (B.out.trans (b8.mono B.out.size))
  clear B
  have B := NB
  clear NB
  clear b8
  have X0 := Lib.hid hX0
  clear hX0
  go_wp2_with fail
  refine (HI.out _ _ X0.out.ints).mono ?_
  rintro e w10 ⟨xG, rfl, hG, b11⟩
  have Z12 := Lib.hid (b11.size)
  have NW := Lib.hid (W.out.below b11)
  clear W
  have W := NW
  clear NW
  have NX0 := Lib.hid (X0.out.below b11)
  clear X0
  have X0 := NX0
  clear NX0
  have NB := Lib.hid (B.out.trans (b11.mono B.out.size))
  clear B
  have B := NB
  clear NB
  clear b11
  have G := Lib.hid hG
  clear hG
  go_wp2_with fail
  refine (n_eq_rows _ _ _ r G.out.rows W.out.rows).mono ?_
  rintro e w13 ⟨rfl, b14⟩
  have Z15 := Lib.hid (b14.size)
  have NW := Lib.hid (W.out.below b14)
  clear W
  have W := NW
  clear NW
  have NX0 := Lib.hid (X0.out.below b14)
  clear X0
  have X0 := NX0
  clear NX0
  have NG := Lib.hid (G.out.below b14)
  clear G
  have G := NG
  clear NG
  have NB := Lib.hid (B.out.trans (b14.mono B.out.size))
  clear B
  have B := NB
  clear NB
  clear b14
  go_wp2_with fail
  refine (n_to_ints _ _ zs0 (HA0.out.below B.out) (by omega)).mono ?_
  rintro e w16 ⟨xY0, rfl, hY0, b17⟩
  have Z18 := Lib.hid (b17.size)
  have NW := Lib.hid (W.out.below b17)
  clear W
  have W := NW
  clear NW
  have NX0 := Lib.hid (X0.out.below b17)
  clear X0
  have X0 := NX0
  clear NX0
  have NG := Lib.hid (G.out.below b17)
  clear G
  have G := NG
  clear NG
  have NB := Lib.hid (B.out.trans (b17.mono B.out.size))
  clear B
  have B := NB
  clear NB
  clear b17
  have Y0 := Lib.hid hY0
  clear hY0
  go_wp2_with fail
  refine (n_eq_ints _ _ _ zs0 X0.out.ints Y0.out.ints).mono ?_
  rintro e w19 ⟨rfl, b20⟩
  have Z21 := Lib.hid (b20.size)
  have NW := Lib.hid (W.out.below b20)
  clear W
  have W := NW
  clear NW
  have NX0 := Lib.hid (X0.out.below b20)
  clear X0
  have X0 := NX0
  clear NX0
  have NG := Lib.hid (G.out.below b20)
  clear G
  have G := NG
  clear NG
  have NY0 := Lib.hid (Y0.out.below b20)
  clear Y0
  have Y0 := NY0
  clear NY0
  have NB := Lib.hid (B.out.trans (b20.mono B.out.size))
  clear B
  have B := NB
  clear NB
  clear b20
  clear Y0
  go_wp2_with fail
  refine (n_mark_ints _ _ _ _ zs0 (1) X0.out (by omega) (by omega) (by omega)).mono ?_
  rintro e w22 ⟨rfl, -, chw22⟩
  have Z23 := Lib.hid (chw22.size)
  have NW := Lib.hid (W.out.kept chw22 (by have y0 := Z3.out; have y1 := Z6.out; have y2 := Z9.out; have y3 := Z12.out; have y4 := Z15.out; have y5 := Z18.out; have y6 := Z21.out; have y7 := Z23.out; omega))
  clear W
  have W := NW
  clear NW
  have NG := Lib.hid (G.out.kept chw22 (by have y0 := Z3.out; have y1 := Z6.out; have y2 := Z9.out; have y3 := Z12.out; have y4 := Z15.out; have y5 := Z18.out; have y6 := Z21.out; have y7 := Z23.out; omega))
  clear G
  have G := NG
  clear NG
  clear X0
  have NB := Lib.hid (chw22.below B.out (by have y0 := Z3.out; have y1 := Z6.out; have y2 := Z9.out; have y3 := Z12.out; have y4 := Z15.out; have y5 := Z18.out; have y6 := Z21.out; have y7 := Z23.out; omega) B.out.size)
  clear B
  have B := NB
  clear NB
  clear chw22
  have hk0 : (0 : Int) ≤ 1 + (zs0.length : Int) := by omega
  go_wp2_with fail
  clear hk0
  refine (n_eq_rows _ _ _ r G.out.rows W.out.rows).mono ?_
  rintro e w24 ⟨rfl, b25⟩
  have Z26 := Lib.hid (b25.size)
  have NW := Lib.hid (W.out.below b25)
  clear W
  have W := NW
  clear NW
  have NG := Lib.hid (G.out.below b25)
  clear G
  have G := NG
  clear NG
  have NB := Lib.hid (B.out.trans (b25.mono B.out.size))
  clear B
  have B := NB
  clear NB
  clear b25
  go_wp2_with fail
  have hr0 : (0 : Int) ≤ 1 + ((tot r : Nat) : Int) := by omega
  refine (n_mark_rows _ _ _ _ r 1 G.out (by have y := HR.out; omega) (by omega) (by omega)).mono ?_
  rintro e w27 ⟨rfl, hw27, chw27⟩
  have Z28 := Lib.hid (chw27.size)
  have NW := Lib.hid (W.out.kept chw27 (by have y0 := Z3.out; have y1 := Z6.out; have y2 := Z9.out; have y3 := Z12.out; have y4 := Z15.out; have y5 := Z18.out; have y6 := Z21.out; have y7 := Z23.out; have y8 := Z26.out; have y9 := Z28.out; omega))
  clear W
  have W := NW
  clear NW
  have NG := Lib.hid (hw27)
  clear G
  have G := NG
  clear NG
  have NB := Lib.hid (chw27.below B.out (by have y0 := Z3.out; have y1 := Z6.out; have y2 := Z9.out; have y3 := Z12.out; have y4 := Z15.out; have y5 := Z18.out; have y6 := Z21.out; have y7 := Z23.out; have y8 := Z26.out; have y9 := Z28.out; omega) B.out.size)
  clear B
  have B := NB
  clear NB
  clear hw27 chw27
  go_wp2_with fail
  refine (n_held_rows _ _ r G.out.rows (by have y := HR.out; omega)).mono ?_
  rintro e w29 ⟨rfl, b30⟩
  have Z31 := Lib.hid (b30.size)
  have NW := Lib.hid (W.out.below b30)
  clear W
  have W := NW
  clear NW
  have NG := Lib.hid (G.out.below b30)
  clear G
  have G := NG
  clear NG
  have NB := Lib.hid (B.out.trans (b30.mono B.out.size))
  clear B
  have B := NB
  clear NB
  clear b30
  go_wp2_with fail
  refine (n_to_ints _ _ zs0 (HA0.out.below B.out) (by omega)).mono ?_
  rintro e w32 ⟨xV0, rfl, hV0, b33⟩
  have Z34 := Lib.hid (b33.size)
  have NW := Lib.hid (W.out.below b33)
  clear W
  have W := NW
  clear NW
  have NG := Lib.hid (G.out.below b33)
  clear G
  have G := NG
  clear NG
  have NB := Lib.hid (B.out.trans (b33.mono B.out.size))
  clear B
  have B := NB
  clear NB
  clear b33
  have V0 := Lib.hid hV0
  clear hV0
  go_wp2_with fail
  refine (HI.out _ _ V0.out.ints).mono ?_
  rintro e w35 ⟨xH, rfl, hH, b36⟩
  have Z37 := Lib.hid (b36.size)
  have NW := Lib.hid (W.out.below b36)
  clear W
  have W := NW
  clear NW
  have NG := Lib.hid (G.out.below b36)
  clear G
  have G := NG
  clear NG
  have NV0 := Lib.hid (V0.out.below b36)
  clear V0
  have V0 := NV0
  clear NV0
  have NB := Lib.hid (B.out.trans (b36.mono B.out.size))
  clear B
  have B := NB
  clear NB
  clear b36
  have H := Lib.hid hH
  clear hH
  clear V0
  go_wp2_with fail
  refine (n_eq_rows _ _ _ r H.out.rows W.out.rows).mono ?_
  rintro e w38 ⟨rfl, b39⟩
  have Z40 := Lib.hid (b39.size)
  have NW := Lib.hid (W.out.below b39)
  clear W
  have W := NW
  clear NW
  have NG := Lib.hid (G.out.below b39)
  clear G
  have G := NG
  clear NG
  have NH := Lib.hid (H.out.below b39)
  clear H
  have H := NH
  clear NH
  have NB := Lib.hid (B.out.trans (b39.mono B.out.size))
  clear B
  have B := NB
  clear NB
  clear b39
  go_wp2_with fail
  refine (n_held_rows _ _ r G.out.rows (by have y := HR.out; omega)).mono ?_
  rintro e w41 ⟨rfl, b42⟩
  have Z43 := Lib.hid (b42.size)
  have NW := Lib.hid (W.out.below b42)
  clear W
  have W := NW
  clear NW
  have NG := Lib.hid (G.out.below b42)
  clear G
  have G := NG
  clear NG
  have NH := Lib.hid (H.out.below b42)
  clear H
  have H := NH
  clear NH
  have NB := Lib.hid (B.out.trans (b42.mono B.out.size))
  clear B
  have B := NB
  clear NB
  clear b42
  go_wp2_with fail
  go_ret
  exact ⟨rfl, B.out⟩

end Go.Proofs.Ytbjeibcombjfgaa

set_option maxRecDepth 100000
set_option linter.unusedVariables false
set_option linter.unusedSimpArgs false
namespace Go.Proofs.Ytbjeibcombjfgaa
open Go.RowKit

theorem tot_le8 {xss : List (List Int)} {m : Nat} (h : ∀ zs ∈ xss, zs.length ≤ m) : tot xss ≤ xss.length * m := by
  induction xss with
  | nil => simp [tot]
  | cons zs r ih =>
    rw [tot_cons, List.length_cons, Nat.add_mul]
    have := h zs (by simp)
    have := ih fun x hx => h x (by simp [hx])
    omega
theorem cutsN_len (m : Nat) : ∀ (n i : Nat), (cutsN m n i).length ≤ n
  | 0, i => Nat.le_refl _
  | n + 1, i => by rw [cutsN]; have := cutsN_len m n (i + 1); cases m.testBit i <;> simp <;> omega
theorem pcOf_len (zs : List Int) (m : Int) : tot (pcOf zs m) ≤ 1048576 := by
  by_cases h : maskC zs m = 0
  · obtain ⟨n, t, k, T⟩ := taken h
    have hok := cut_ok T.tlv T.t8 T.tcan T.k2 T.ke
    obtain ⟨pcs, hr⟩ := pcs_some hok
    rw [pcOf_eq T h hr]
    have h8 : ∀ zs ∈ (srtB pcs).map up, zs.length ≤ 8 := fun zs hz => by
      obtain ⟨b, hb, rfl⟩ := List.mem_map.1 hz
      have hb := (srtB_perm pcs).mem_iff.1 hb
      obtain ⟨i, hi, hib⟩ := mapO_all hr b hb
      obtain ⟨h1, h2, -⟩ := cut_parts hok
      rw [← h1] at hi
      rw [up_len, canO_len hib]
      exact (h2 i hi).2.1
    have := tot_le8 h8
    rw [List.length_map, (srtB_perm pcs).length_eq, mapO_len hr, List.length_cons] at this
    have h3 := cutsN_len k (t.length - 1) 1
    have h4 := T.t8
    omega
  · unfold pcOf
    rw [if_neg h]
    simp [tot]

theorem law_PiecesOf (w : World) (v : Value) (zs : List Int) (ha : Ints w v zs) (m : Int) (hm : In64 m) :
    Calls Try.prog 9 #[v, .int .i64 m] w fun e w' => e = .returned (.bool true) ∧ Below w.heap.size w w' :=
  law_FnExactPiecesOf_gen w v zs ha m hm (pcOf zs m) (maskC zs m) (fun _ => pcOf_len _ _) (fun _ W v0 h0 => s_PiecesOf W v0 zs m h0) (fun _ W v0 h0 => i_PiecesOf W v0 zs m h0)
end Go.Proofs.Ytbjeibcombjfgaa

