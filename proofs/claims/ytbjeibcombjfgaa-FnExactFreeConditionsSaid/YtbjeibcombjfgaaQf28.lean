/- The law FnExactFreeConditions, walked: it returns true. | The law FnExactFreeConditions. -/
import Derived.Test.YtbjeibcombjfgaaQf16
import Derived.Test.YtbjeibcombjfgaaQf12
import Derived.WalkLawsBesides
import Derived.Deep.RegionHeld3
import Derived.Test.YtbjeibcombjfgaaQf24
set_option linter.unusedVariables false
set_option linter.unusedSimpArgs false
namespace Go.Proofs.Ytbjeibcombjfgaa
open Go.RowKit

set_option maxRecDepth 100000 in
set_option maxHeartbeats 8000000 in
theorem law_FnExactFreeConditions_gen (w : World) (n0 : Int) (ha0 : In64 n0) (r : List (List Int)) (c : Int) (hR : tot r ≤ 1048576)
    (hS : ∀ (W : World), Calls Try.prog 44 #[.int .i64 n0] W fun e w' => ∃ u, e = .returned (.tuple #[u, .int .i64 c]) ∧ OR w' W.heap.size w'.heap.size tL tI u r ∧ Below W.heap.size W w')
    (hI : ∀ (W : World), Calls Try.prog 33 #[.int .i64 n0] W fun e w' => ∃ u, e = .returned (.tuple #[u, .int .i64 c]) ∧ OR w' W.heap.size w'.heap.size tL tI u r ∧ Below W.heap.size W w') :
    Calls Try.prog 8 #[.int .i64 n0] w fun e w' => e = .returned (.bool true) ∧ Below w.heap.size w w' := by
  have B := Lib.hid (Below.refl w.heap.size w)
  have HS := Lib.hid hS
  have HI := Lib.hid hI
  clear hS hI
  have HR := Lib.hid hR
  clear hR
  go_enter Try.func8, Try.ntmps8
  go_wp2_with fail
  have HS := Lib.hid (HS.out)
  have HI := Lib.hid (HI.out)
  have HR := Lib.hid (HR.out)
  refine (HS.out _  ).mono ?_
  rintro e w1 ⟨xW, rfl, hW, b2⟩
  have Z3 := Lib.hid (b2.size)
  have NB := Lib.hid (B.out.trans (b2.mono B.out.size))
  clear B
  have B := NB
  clear NB
  clear b2
  have W := Lib.hid hW
  clear hW
  go_wp2_with fail
  refine (HI.out _  ).mono ?_
  rintro e w4 ⟨xG, rfl, hG, b5⟩
  have Z6 := Lib.hid (b5.size)
  have NW := Lib.hid (W.out.below b5)
  clear W
  have W := NW
  clear NW
  have NB := Lib.hid (B.out.trans (b5.mono B.out.size))
  clear B
  have B := NB
  clear NB
  clear b5
  have G := Lib.hid hG
  clear hG
  go_wp2_with fail
  refine (n_eq_rows _ _ _ r G.out.rows W.out.rows).mono ?_
  rintro e w7 ⟨rfl, b8⟩
  have Z9 := Lib.hid (b8.size)
  have NW := Lib.hid (W.out.below b8)
  clear W
  have W := NW
  clear NW
  have NG := Lib.hid (G.out.below b8)
  clear G
  have G := NG
  clear NG
  have NB := Lib.hid (B.out.trans (b8.mono B.out.size))
  clear B
  have B := NB
  clear NB
  clear b8
  go_wp2_with fail
  have hr0 : (0 : Int) ≤ 1 + ((tot r : Nat) : Int) := by omega
  refine (n_mark_rows _ _ _ _ r 1 G.out (by have y := HR.out; omega) (by omega) (by omega)).mono ?_
  rintro e w10 ⟨rfl, hw10, chw10⟩
  have Z11 := Lib.hid (chw10.size)
  have NW := Lib.hid (W.out.kept chw10 (by have y0 := Z3.out; have y1 := Z6.out; have y2 := Z9.out; have y3 := Z11.out; omega))
  clear W
  have W := NW
  clear NW
  have NG := Lib.hid (hw10)
  clear G
  have G := NG
  clear NG
  have NB := Lib.hid (chw10.below B.out (by have y0 := Z3.out; have y1 := Z6.out; have y2 := Z9.out; have y3 := Z11.out; omega) B.out.size)
  clear B
  have B := NB
  clear NB
  clear hw10 chw10
  go_wp2_with fail
  refine (n_held_rows _ _ r G.out.rows (by have y := HR.out; omega)).mono ?_
  rintro e w12 ⟨rfl, b13⟩
  have Z14 := Lib.hid (b13.size)
  have NW := Lib.hid (W.out.below b13)
  clear W
  have W := NW
  clear NW
  have NG := Lib.hid (G.out.below b13)
  clear G
  have G := NG
  clear NG
  have NB := Lib.hid (B.out.trans (b13.mono B.out.size))
  clear B
  have B := NB
  clear NB
  clear b13
  go_wp2_with fail
  refine (HI.out _  ).mono ?_
  rintro e w15 ⟨xH, rfl, hH, b16⟩
  have Z17 := Lib.hid (b16.size)
  have NW := Lib.hid (W.out.below b16)
  clear W
  have W := NW
  clear NW
  have NG := Lib.hid (G.out.below b16)
  clear G
  have G := NG
  clear NG
  have NB := Lib.hid (B.out.trans (b16.mono B.out.size))
  clear B
  have B := NB
  clear NB
  clear b16
  have H := Lib.hid hH
  clear hH
  go_wp2_with fail
  refine (n_eq_rows _ _ _ r H.out.rows W.out.rows).mono ?_
  rintro e w18 ⟨rfl, b19⟩
  have Z20 := Lib.hid (b19.size)
  have NW := Lib.hid (W.out.below b19)
  clear W
  have W := NW
  clear NW
  have NG := Lib.hid (G.out.below b19)
  clear G
  have G := NG
  clear NG
  have NH := Lib.hid (H.out.below b19)
  clear H
  have H := NH
  clear NH
  have NB := Lib.hid (B.out.trans (b19.mono B.out.size))
  clear B
  have B := NB
  clear NB
  clear b19
  go_wp2_with fail
  refine (n_held_rows _ _ r G.out.rows (by have y := HR.out; omega)).mono ?_
  rintro e w21 ⟨rfl, b22⟩
  have Z23 := Lib.hid (b22.size)
  have NW := Lib.hid (W.out.below b22)
  clear W
  have W := NW
  clear NW
  have NG := Lib.hid (G.out.below b22)
  clear G
  have G := NG
  clear NG
  have NH := Lib.hid (H.out.below b22)
  clear H
  have H := NH
  clear NH
  have NB := Lib.hid (B.out.trans (b22.mono B.out.size))
  clear B
  have B := NB
  clear NB
  clear b22
  go_wp2_with fail
  go_ret
  exact ⟨rfl, B.out⟩
end Go.Proofs.Ytbjeibcombjfgaa

set_option maxRecDepth 100000
set_option linter.unusedVariables false
set_option linter.unusedSimpArgs false
namespace Go.Proofs.Ytbjeibcombjfgaa
open Go.RowKit

theorem tot_le8' {xss : List (List Int)} {m : Nat} (h : ∀ zs ∈ xss, zs.length ≤ m) : tot xss ≤ xss.length * m := by
  induction xss with
  | nil => simp [tot]
  | cons zs r ih =>
    rw [tot_cons, List.length_cons, Nat.add_mul]
    have := h zs (by simp)
    have := ih fun x hx => h x (by simp [hx])
    omega
theorem fcR_tot (n : Int) : tot (fcR n) ≤ 1048576 := by
  unfold fcR
  split
  · rename_i h
    have h2 := inR_iff.1 h
    obtain ⟨k, rfl⟩ : ∃ k : Nat, n = (k : Int) := ⟨n.toNat, by omega⟩
    rw [Int.toNat_natCast]
    obtain ⟨h3, h4⟩ := treesN_at (n := k) (by omega) (by omega)
    have hl : (cndN k).length ≤ 115 := by rw [cndN_eq]; exact Nat.le_trans (List.length_filter_le _ _) h3
    have h8 : ∀ zs ∈ (cndN k).map up, zs.length ≤ 8 := fun zs hz => by
      obtain ⟨b, hb, rfl⟩ := List.mem_map.1 hz
      rw [cndN_eq] at hb
      rw [up_len, (h4 b (List.mem_filter.1 hb).1).1]; omega
    have := tot_le8' h8
    rw [List.length_map] at this
    omega
  · simp [tot]

theorem law_FreeConditions (w : World) (n : Int) (hn : In64 n) :
    Calls Try.prog 8 #[.int .i64 n] w fun e w' => e = .returned (.bool true) ∧ Below w.heap.size w w' :=
  law_FnExactFreeConditions_gen w n hn (fcR n) (fcC n) (fcR_tot n) (fun W => s_FreeConditions W n hn) (fun W => i_FreeConditions W n hn)
end Go.Proofs.Ytbjeibcombjfgaa

