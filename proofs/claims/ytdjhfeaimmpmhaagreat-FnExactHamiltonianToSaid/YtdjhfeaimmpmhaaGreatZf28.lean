/- The law FnExactHamiltonianTo, walked over the contracts of both. (printed by lawgen3.py) | The law FnExactHamiltonianTo. -/
import Derived.Test.YtdjhfeaimmpmhaaGreatZf2
import Derived.WalkLawsBesides
import Derived.Deep.RegionHeld3
import Derived.Test.YtdjhfeaimmpmhaaGreatZf26
set_option linter.unusedVariables false
set_option linter.unusedSimpArgs false
namespace Go.Proofs.YtdjhfeaimmpmhaaGreat
open Go.RowKit

set_option maxRecDepth 100000 in
set_option maxHeartbeats 8000000 in
theorem law_FnExactHamiltonianTo_gen (w : World) (v0 : Value) (zs0 : List Int) (ha0 : Ints w v0 zs0) (r : Int) (c : Int) 
    (hS : zs0.length ≤ 1048576 → ∀ (W : World) (v0 : Value), Ints W v0 zs0 → Calls Tryz.prog 33 #[v0] W fun e w' => e = .returned (.tuple #[.int .i64 r, .int .i64 c]) ∧ Below W.heap.size W w')
    (hI : zs0.length ≤ 1048576 → ∀ (W : World) (v0 : Value), Ints W v0 zs0 → Calls Tryz.prog 13 #[v0] W fun e w' => e = .returned (.tuple #[.int .i64 r, .int .i64 c]) ∧ Below W.heap.size W w') :
    Calls Tryz.prog 6 #[v0] w fun e w' => e = .returned (.bool true) ∧ Below w.heap.size w w' := by
  have B := Lib.hid (Below.refl w.heap.size w)
  have HS := Lib.hid hS
  have HI := Lib.hid hI
  clear hS hI
  have HA0 := Lib.hid ha0
  obtain ⟨A0, c0, rfl, -, -, -⟩ := ha0.open_
  clear ha0
  go_enter Tryz.func6, Tryz.ntmps6
  by_cases hbig0 : (1048576 : Int) < (zs0.length : Int)
  · go_wp2_with fail
    go_ret
    exact ⟨rfl, Below.refl _ _⟩
  have hsm0 : zs0.length ≤ 1048576 := by omega
  go_wp2_with fail
  have HS := Lib.hid (HS.out hsm0)
  have HI := Lib.hid (HI.out hsm0)
  refine (n_to_ints _ _ zs0 (HA0.out.below B.out) (by omega)).mono ?_
  rintro e w1 ⟨xT0, rfl, hT0, b2⟩
  have Z3 := Lib.hid (b2.size)
  have NB := Lib.hid (B.out.trans (b2.mono B.out.size))
  clear B
  have B := NB
  clear NB
  clear b2
  have T0 := Lib.hid hT0
  clear hT0
  go_wp2_with fail
  refine (HS.out _ _ T0.out.ints).mono ?_
  rintro e w4 ⟨rfl, b5⟩
  have Z6 := Lib.hid (b5.size)
  have NT0 := Lib.hid (T0.out.below b5)
  clear T0
  have T0 := NT0
  clear NT0
  have NB := Lib.hid (B.out.trans (b5.mono B.out.size))
  clear B
  have B := NB
  clear NB
  clear b5
  clear T0
  go_wp2_with fail
  refine (n_to_ints _ _ zs0 (HA0.out.below B.out) (by omega)).mono ?_
  rintro e w7 ⟨xX0, rfl, hX0, b8⟩
  have Z9 := Lib.hid (b8.size)
  have NB := Lib.hid (B.out.trans (b8.mono B.out.size))
  clear B
  have B := NB
  clear NB
  clear b8
  have X0 := Lib.hid hX0
  clear hX0
  go_wp2_with fail
  refine (HI.out _ _ X0.out.ints).mono ?_
  rintro e w10 ⟨rfl, b11⟩
  have Z12 := Lib.hid (b11.size)
  have NX0 := Lib.hid (X0.out.below b11)
  clear X0
  have X0 := NX0
  clear NX0
  have NB := Lib.hid (B.out.trans (b11.mono B.out.size))
  clear B
  have B := NB
  clear NB
  clear b11
  go_wp2_with fail
  refine (n_to_ints _ _ zs0 (HA0.out.below B.out) (by omega)).mono ?_
  rintro e w13 ⟨xY0, rfl, hY0, b14⟩
  have Z15 := Lib.hid (b14.size)
  have NX0 := Lib.hid (X0.out.below b14)
  clear X0
  have X0 := NX0
  clear NX0
  have NB := Lib.hid (B.out.trans (b14.mono B.out.size))
  clear B
  have B := NB
  clear NB
  clear b14
  have Y0 := Lib.hid hY0
  clear hY0
  go_wp2_with fail
  refine (n_eq_ints _ _ _ zs0 X0.out.ints Y0.out.ints).mono ?_
  rintro e w16 ⟨rfl, b17⟩
  have Z18 := Lib.hid (b17.size)
  have NX0 := Lib.hid (X0.out.below b17)
  clear X0
  have X0 := NX0
  clear NX0
  have NY0 := Lib.hid (Y0.out.below b17)
  clear Y0
  have Y0 := NY0
  clear NY0
  have NB := Lib.hid (B.out.trans (b17.mono B.out.size))
  clear B
  have B := NB
  clear NB
  clear b17
  clear Y0
  go_wp2_with fail
  go_ret
  exact ⟨rfl, B.out⟩
end Go.Proofs.YtdjhfeaimmpmhaaGreat

set_option maxRecDepth 100000
set_option linter.unusedVariables false
set_option linter.unusedSimpArgs false
namespace Go.Proofs.YtdjhfeaimmpmhaaGreat
open Go.RowKit

theorem law_HamiltonianTo (w : World) (v : Value) (zs : List Int) (ha : Ints w v zs) :
    Calls Tryz.prog 6 #[v] w fun e w' => e = .returned (.bool true) ∧ Below w.heap.size w w' :=
  law_FnExactHamiltonianTo_gen w v zs ha (htoR zs) (infC zs) (fun _ W v0 h0 => s_HamiltonianTo W v0 zs h0) (fun _ W v0 h0 => i_HamiltonianTo W v0 zs h0)
end Go.Proofs.YtdjhfeaimmpmhaaGreat

