/- Walks: the orders of the simplifying assumptions, of the program. -/
import Derived.Test.YtbjeibcombjfgaaQt33
import Derived.Test.YtbjeibcombjfgaaQt13
import Derived.WalkLawsBesides
set_option maxRecDepth 100000
set_option linter.unusedVariables false
set_option linter.unusedSimpArgs false
namespace Go.Proofs.Ytbjeibcombjfgaa
open Go.RowKit

theorem impO_val (p q r : Nat) : (if (q : Int) + (r : Int) + 1 < (if 2 * (q : Int) + 2 < (if (p : Int) < 6 then (p : Int) else 6) then 2 * (q : Int) + 2 else (if (p : Int) < 6 then (p : Int) else 6)) then (q : Int) + (r : Int) + 1 else (if 2 * (q : Int) + 2 < (if (p : Int) < 6 then (p : Int) else 6) then 2 * (q : Int) + 2 else (if (p : Int) < 6 then (p : Int) else 6))) = ((impO p q r : Nat) : Int) := by
  unfold impO
  split <;> split <;> split <;> omega
theorem run_min4 {P : Program} (p q r : Nat) (W : World) (ts : Array TypeId) (t : TypeId) : (Builtin.min_ ts t #[.int .i64 6, .int .i64 (p : Int), .int .i64 (2 * (q : Int) + 2), .int .i64 ((q : Int) + (r : Int) + 1)]).run P W = .ok (.int .i64 ((impO p q r : Nat) : Int)) W := by
  rw [← impO_val]
  simp [Builtin.min_, Builtin.min2]
/-- what the three orders answer -/
def oMR (A : List (List Int)) (Bs : List Int) (kind : Int) : Int := if tabB A Bs then (oM A Bs kind : Nat) else 0
set_option maxHeartbeats 4000000 in
theorem i_conditionResult (w : World) (va : Value) (A : List (List Int)) (Bs : List Int) (kind : Int) (k0 : 0 ≤ kind) (k2 : kind ≤ 2) (ha : TabArg w va A Bs) :
    Calls Try.prog 82 #[va, .int .i64 kind] w fun e w' => e = .returned (.tuple #[.int .i64 (oMR A Bs kind), .int .i64 (tabC A Bs)]) ∧ Below w.heap.size w w' := by
  obtain ⟨va1, vb1, rfl, ha1, ha2⟩ := ha
  obtain ⟨A1, c1, rfl, -, -, -⟩ := ha1.open_
  obtain ⟨A2, c2, rfl, -, -, -⟩ := ha2.open_
  obtain ⟨W, hW⟩ : ∃ W, W = w.alloc (.cells #[.slice A1 A.length c1, .slice A2 Bs.length c2] tTbA) := ⟨_, rfl⟩
  obtain ⟨hbw, hk, hta, hro, hbi⟩ := boxA ha1 ha2 hW
  have HBW := Lib.hid hbw
  have HK := Lib.hid hk
  have HTA := Lib.hid hta
  have HIT := Lib.hid (i_IsTableau W _ A Bs hta)
  have q0 : W.cell? ⟨w.heap.size, 0, none⟩ = some (.slice A1 A.length c1) := hk.cell 0
  have q1 : W.cell? ⟨w.heap.size, 1, none⟩ = some (.slice A2 Bs.length c2) := hk.cell 1
  clear ha1 ha2 hbw hk hta hbi hro
  go_enter Try.func82, Try.ntmps82
  go_upto_region 1 with fail
  rw [← hW]
  clear hW
  cases hb : tabB A Bs with
  | false =>
    have HR := Lib.hid (show oMR A Bs kind = 0 from by simp [oMR, hb])
    have HC := Lib.hid (show tabC A Bs = 1 from by simp [tabC, hb])
    rw [hb] at HIT
    clear hb
    go_wp2_with (go_at_call 61; go_loud (refine HIT.out.mono ?_; rintro e w2 ⟨rfl, hb2⟩; have HB2 := Lib.hid hb2; clear hb2))
    go_ret2
    rw [HR.out, HC.out]
    exact ⟨rfl, HBW.out.trans (HB2.out.mono HBW.out.size)⟩
  | true =>
    have hI := isTab_of hb
    have HR := Lib.hid (show oMR A Bs kind = ((oM A Bs kind : Nat) : Int) from by simp [oMR, hb])
    have HC := Lib.hid (show tabC A Bs = 0 from by simp [tabC, hb])
    have HO := Lib.hid (fun X (hX : Below W.heap.size W X) => im_conditionOrder hI kind k0 k2 X _ (HTA.out.below hX))
    rw [hb] at HIT
    clear hb hI
    go_wp2_with (first
      | (go_at_call 61; go_loud (refine HIT.out.mono ?_; rintro e w2 ⟨rfl, hb2⟩; have HB2 := Lib.hid hb2; have m1 : w2.cell? ⟨w.heap.size, 0, none⟩ = some (.slice A1 A.length c1) := (HK.out.below hb2 HK.out.lt).cell 0; have m2 : w2.cell? ⟨w.heap.size, 1, none⟩ = some (.slice A2 Bs.length c2) := (HK.out.below hb2 HK.out.lt).cell 1; clear hb2))
      | (go_at_call 80; go_loud (refine (HO.out _ HB2.out).mono ?_; rintro e w3 ⟨rfl, hb3⟩; have HB3 := Lib.hid (HB2.out.trans (hb3.mono HB2.out.size)); clear hb3)))
    go_ret2
    rw [HR.out, HC.out]
    exact ⟨rfl, HBW.out.trans (HB3.out.mono HBW.out.size)⟩
set_option maxHeartbeats 2000000 in
theorem i_QuadratureOrder (w : World) (va : Value) (A : List (List Int)) (Bs : List Int) (ha : TabArg w va A Bs) :
    Calls Try.prog 26 #[va] w fun e w' => e = .returned (.tuple #[.int .i64 (oMR A Bs 0), .int .i64 (tabC A Bs)]) ∧ Below w.heap.size w w' := by
  obtain ⟨va1, vb1, rfl, ha1, ha2⟩ := ha
  obtain ⟨A1, c1, rfl, -, -, -⟩ := ha1.open_
  obtain ⟨A2, c2, rfl, -, -, -⟩ := ha2.open_
  obtain ⟨W, hW⟩ : ∃ W, W = w.alloc (.cells #[.slice A1 A.length c1, .slice A2 Bs.length c2] tTbA) := ⟨_, rfl⟩
  obtain ⟨hbw, hk, hta, hro, hbi⟩ := boxA ha1 ha2 hW
  have HBW := Lib.hid hbw
  have HC := Lib.hid (i_conditionResult W _ A Bs 0 (by omega) (by omega) hta)
  have q0 : W.cell? ⟨w.heap.size, 0, none⟩ = some (.slice A1 A.length c1) := hk.cell 0
  have q1 : W.cell? ⟨w.heap.size, 1, none⟩ = some (.slice A2 Bs.length c2) := hk.cell 1
  clear ha1 ha2 hbw hk hta hbi hro
  go_enter Try.func26, Try.ntmps26
  go_upto_region 1 with fail
  rw [← hW]
  clear hW
  go_wp2_with (go_at_call 82; go_loud (refine HC.out.mono ?_; rintro e w2 ⟨rfl, hb2⟩; have HB2 := Lib.hid hb2; clear hb2))
  go_ret2
  exact ⟨rfl, HBW.out.trans (HB2.out.mono HBW.out.size)⟩
set_option maxHeartbeats 2000000 in
theorem i_StageOrderOf (w : World) (va : Value) (A : List (List Int)) (Bs : List Int) (ha : TabArg w va A Bs) :
    Calls Try.prog 27 #[va] w fun e w' => e = .returned (.tuple #[.int .i64 (oMR A Bs 1), .int .i64 (tabC A Bs)]) ∧ Below w.heap.size w w' := by
  obtain ⟨va1, vb1, rfl, ha1, ha2⟩ := ha
  obtain ⟨A1, c1, rfl, -, -, -⟩ := ha1.open_
  obtain ⟨A2, c2, rfl, -, -, -⟩ := ha2.open_
  obtain ⟨W, hW⟩ : ∃ W, W = w.alloc (.cells #[.slice A1 A.length c1, .slice A2 Bs.length c2] tTbA) := ⟨_, rfl⟩
  obtain ⟨hbw, hk, hta, hro, hbi⟩ := boxA ha1 ha2 hW
  have HBW := Lib.hid hbw
  have HC := Lib.hid (i_conditionResult W _ A Bs 1 (by omega) (by omega) hta)
  have q0 : W.cell? ⟨w.heap.size, 0, none⟩ = some (.slice A1 A.length c1) := hk.cell 0
  have q1 : W.cell? ⟨w.heap.size, 1, none⟩ = some (.slice A2 Bs.length c2) := hk.cell 1
  clear ha1 ha2 hbw hk hta hbi hro
  go_enter Try.func27, Try.ntmps27
  go_upto_region 1 with fail
  rw [← hW]
  clear hW
  go_wp2_with (go_at_call 82; go_loud (refine HC.out.mono ?_; rintro e w2 ⟨rfl, hb2⟩; have HB2 := Lib.hid hb2; clear hb2))
  go_ret2
  exact ⟨rfl, HBW.out.trans (HB2.out.mono HBW.out.size)⟩
set_option maxHeartbeats 2000000 in
theorem i_ColumnOrder (w : World) (va : Value) (A : List (List Int)) (Bs : List Int) (ha : TabArg w va A Bs) :
    Calls Try.prog 28 #[va] w fun e w' => e = .returned (.tuple #[.int .i64 (oMR A Bs 2), .int .i64 (tabC A Bs)]) ∧ Below w.heap.size w w' := by
  obtain ⟨va1, vb1, rfl, ha1, ha2⟩ := ha
  obtain ⟨A1, c1, rfl, -, -, -⟩ := ha1.open_
  obtain ⟨A2, c2, rfl, -, -, -⟩ := ha2.open_
  obtain ⟨W, hW⟩ : ∃ W, W = w.alloc (.cells #[.slice A1 A.length c1, .slice A2 Bs.length c2] tTbA) := ⟨_, rfl⟩
  obtain ⟨hbw, hk, hta, hro, hbi⟩ := boxA ha1 ha2 hW
  have HBW := Lib.hid hbw
  have HC := Lib.hid (i_conditionResult W _ A Bs 2 (by omega) (by omega) hta)
  have q0 : W.cell? ⟨w.heap.size, 0, none⟩ = some (.slice A1 A.length c1) := hk.cell 0
  have q1 : W.cell? ⟨w.heap.size, 1, none⟩ = some (.slice A2 Bs.length c2) := hk.cell 1
  clear ha1 ha2 hbw hk hta hbi hro
  go_enter Try.func28, Try.ntmps28
  go_upto_region 1 with fail
  rw [← hW]
  clear hW
  go_wp2_with (go_at_call 82; go_loud (refine HC.out.mono ?_; rintro e w2 ⟨rfl, hb2⟩; have HB2 := Lib.hid hb2; clear hb2))
  go_ret2
  exact ⟨rfl, HBW.out.trans (HB2.out.mono HBW.out.size)⟩
set_option maxHeartbeats 4000000 in
theorem i_MeetsAssumption {A : List (List Int)} {Bs : List Int} (hb : tabB A Bs = true) (kind n : Int) (k0 : 0 ≤ kind) (k2 : kind ≤ 2) (n0 : 0 ≤ n) (n16 : n ≤ 16) (w : World) (va : Value) (ha : TabArg w va A Bs) :
    Calls Try.prog 29 #[va, .int .i64 kind, .int .i64 n] w fun e w' => e = .returned (.tuple #[.bool (decide (n ≤ (oM A Bs kind : Nat))), .int .i64 0]) ∧ Below w.heap.size w w' := by
  obtain ⟨va1, vb1, rfl, ha1, ha2⟩ := ha
  obtain ⟨A1, c1, rfl, -, -, -⟩ := ha1.open_
  obtain ⟨A2, c2, rfl, -, -, -⟩ := ha2.open_
  obtain ⟨W, hW⟩ : ∃ W, W = w.alloc (.cells #[.slice A1 A.length c1, .slice A2 Bs.length c2] tTbA) := ⟨_, rfl⟩
  obtain ⟨hbw, hk, hta, hro, hbi⟩ := boxA ha1 ha2 hW
  have HBW := Lib.hid hbw
  have HK := Lib.hid hk
  have HTA := Lib.hid hta
  have HIT := Lib.hid (i_IsTableau W _ A Bs hta)
  rw [hb] at HIT
  have hI := isTab_of hb
  have HO := Lib.hid (fun X (hX : Below W.heap.size W X) => im_conditionOrder hI kind k0 k2 X _ (HTA.out.below hX))
  have q0 : W.cell? ⟨w.heap.size, 0, none⟩ = some (.slice A1 A.length c1) := hk.cell 0
  have q1 : W.cell? ⟨w.heap.size, 1, none⟩ = some (.slice A2 Bs.length c2) := hk.cell 1
  have hr1 : inR kind 0 2 = true := by rw [inR_iff]; omega
  have hr2 : inR n 0 16 = true := by rw [inR_iff]; omega
  have HN1 := Lib.hid (fun X => i_inRange kind 0 2 X)
  have HN2 := Lib.hid (fun X => i_inRange n 0 16 X)
  simp only [hr1] at HN1
  simp only [hr2] at HN2
  clear ha1 ha2 hbw hk hta hbi hro hb hI hr1 hr2
  generalize oM A Bs kind = om at *
  go_enter Try.func29, Try.ntmps29
  go_upto_region 1 with fail
  rw [← hW]
  clear hW
  go_wp2_with (first
    | (go_at_call 61; go_loud (refine HIT.out.mono ?_; rintro e w2 ⟨rfl, hb2⟩; have HB2 := Lib.hid hb2; have m1 : w2.cell? ⟨w.heap.size, 0, none⟩ = some (.slice A1 A.length c1) := (HK.out.below hb2 HK.out.lt).cell 0; have m2 : w2.cell? ⟨w.heap.size, 1, none⟩ = some (.slice A2 Bs.length c2) := (HK.out.below hb2 HK.out.lt).cell 1; clear hb2))
    | (go_at_call 62; (with_reducible refine (HN1.out _).mono ?_); rintro e w2 ⟨rfl, rfl⟩)
    | (go_at_call 62; (with_reducible refine (HN2.out _).mono ?_); rintro e w2 ⟨rfl, rfl⟩)
    | (go_at_call 80; go_loud (refine (HO.out _ HB2.out).mono ?_; rintro e w3 ⟨rfl, hb3⟩; have HB3 := Lib.hid (HB2.out.trans (hb3.mono HB2.out.size)); clear hb3)))
  go_ret2
  refine ⟨?_, HBW.out.trans (HB3.out.mono HBW.out.size)⟩
  simp
/-- what ImpliedOrder answers -/
def impR (A : List (List Int)) (Bs : List Int) : Int := if tabB A Bs then (impM A Bs : Nat) else 0
set_option maxHeartbeats 8000000 in
theorem i_ImpliedOrder (w : World) (va : Value) (A : List (List Int)) (Bs : List Int) (ha : TabArg w va A Bs) :
    Calls Try.prog 24 #[va] w fun e w' => e = .returned (.tuple #[.int .i64 (impR A Bs), .int .i64 (tabC A Bs)]) ∧ Below w.heap.size w w' := by
  obtain ⟨va1, vb1, rfl, ha1, ha2⟩ := ha
  obtain ⟨A1, c1, rfl, -, -, -⟩ := ha1.open_
  obtain ⟨A2, c2, rfl, -, -, -⟩ := ha2.open_
  obtain ⟨W, hW⟩ : ∃ W, W = w.alloc (.cells #[.slice A1 A.length c1, .slice A2 Bs.length c2] tTbA) := ⟨_, rfl⟩
  obtain ⟨hbw, hk, hta, hro, hbi⟩ := boxA ha1 ha2 hW
  have HBW := Lib.hid hbw
  have HK := Lib.hid hk
  have HTA := Lib.hid hta
  have HIT := Lib.hid (i_IsTableau W _ A Bs hta)
  have q0 : W.cell? ⟨w.heap.size, 0, none⟩ = some (.slice A1 A.length c1) := hk.cell 0
  have q1 : W.cell? ⟨w.heap.size, 1, none⟩ = some (.slice A2 Bs.length c2) := hk.cell 1
  clear ha1 ha2 hbw hk hta hbi hro
  go_enter Try.func24, Try.ntmps24
  go_upto_region 1 with fail
  rw [← hW]
  clear hW
  cases hb : tabB A Bs with
  | false =>
    have HR := Lib.hid (show impR A Bs = 0 from by simp [impR, hb])
    have HC := Lib.hid (show tabC A Bs = 1 from by simp [tabC, hb])
    rw [hb] at HIT
    clear hb
    go_wp2_with (go_at_call 61; go_loud (refine HIT.out.mono ?_; rintro e w2 ⟨rfl, hb2⟩; have HB2 := Lib.hid hb2; clear hb2))
    go_ret2
    rw [HR.out, HC.out]
    exact ⟨rfl, HBW.out.trans (HB2.out.mono HBW.out.size)⟩
  | true =>
    have hI := isTab_of hb
    have HR := Lib.hid (show impR A Bs = ((impO (oM A Bs 0) (oM A Bs 1) (oM A Bs 2) : Nat) : Int) from by simp [impR, hb, impM])
    have HC := Lib.hid (show tabC A Bs = 0 from by simp [tabC, hb])
    have HO0 := Lib.hid (fun X (hX : Below W.heap.size W X) => im_conditionOrder hI 0 (by omega) (by omega) X _ (HTA.out.below hX))
    have HO1 := Lib.hid (fun X (hX : Below W.heap.size W X) => im_conditionOrder hI 1 (by omega) (by omega) X _ (HTA.out.below hX))
    have HO2 := Lib.hid (fun X (hX : Below W.heap.size W X) => im_conditionOrder hI 2 (by omega) (by omega) X _ (HTA.out.below hX))
    have hb0 := oM_le A Bs 0
    have hb1 := oM_le A Bs 1
    have hb2 := oM_le A Bs 2
    rw [hb] at HIT
    clear hb hI
    generalize oM A Bs 0 = p at *
    generalize oM A Bs 1 = q at *
    generalize oM A Bs 2 = r at *
    have HMN := fun X ts t => run_min4 (P := Try.prog) p q r X ts t
    generalize ((impO p q r : Nat) : Int) = mm at *
    have hw1 : wrap64 (2 * (q : Int)) = 2 * (q : Int) := w64_in' _ (by omega)
    have hw2 : IntKind.i64.wrap (2 * (q : Int)) = 2 * (q : Int) := IntWalk.i64_in _ (by omega)
    have hw3 : wrap64 (2 * (q : Int) + 2) = 2 * (q : Int) + 2 := w64_in' _ (by omega)
    have hw4 : IntKind.i64.wrap (2 * (q : Int) + 2) = 2 * (q : Int) + 2 := IntWalk.i64_in _ (by omega)
    have hw5 : wrap64 ((q : Int) + (r : Int)) = (q : Int) + (r : Int) := w64_in' _ (by omega)
    have hw6 : IntKind.i64.wrap ((q : Int) + (r : Int)) = (q : Int) + (r : Int) := IntWalk.i64_in _ (by omega)
    have hw7 : wrap64 ((q : Int) + (r : Int) + 1) = (q : Int) + (r : Int) + 1 := w64_in' _ (by omega)
    have hw8 : IntKind.i64.wrap ((q : Int) + (r : Int) + 1) = (q : Int) + (r : Int) + 1 := IntWalk.i64_in _ (by omega)
    go_upto_region 4 with (first
      | (go_at_call 61; go_loud (refine HIT.out.mono ?_; rintro e w2 ⟨rfl, hb2⟩; have HB2 := Lib.hid hb2; have m1 : w2.cell? ⟨w.heap.size, 0, none⟩ = some (.slice A1 A.length c1) := (HK.out.below hb2 HK.out.lt).cell 0; have m2 : w2.cell? ⟨w.heap.size, 1, none⟩ = some (.slice A2 Bs.length c2) := (HK.out.below hb2 HK.out.lt).cell 1; clear hb2))
      | (go_at_call 80; go_loud (refine (HO1.out _ HB2.out).mono ?_; rintro e w3 ⟨rfl, hb3⟩; have HB3 := Lib.hid (HB2.out.trans (hb3.mono HB2.out.size)); clear hb3)))
    obtain ⟨S, hS1, hS2⟩ : ∃ S : World → Prop, (∀ Wx, S Wx → Below W.heap.size W Wx) ∧ (∀ Wx, Below W.heap.size W Wx → S Wx) := ⟨fun Wx => Below W.heap.size W Wx, fun _ h => h, fun _ h => h⟩
    have HSE := Lib.hid (show ∀ x : GW S, Below W.heap.size W x.w from fun x => hS1 _ x.h)
    have HSI := Lib.hid (show S w3.drew from hS2 _ HB3.out.drew)
    have hx0 : ∀ x : GW S, x.w.cell? ⟨w.heap.size, 0, none⟩ = some (.slice A1 A.length c1) := fun x => (HK.out.below (HSE.out x) HK.out.lt).cell 0
    have hx1 : ∀ x : GW S, x.w.cell? ⟨w.heap.size, 1, none⟩ = some (.slice A2 Bs.length c2) := fun x => (HK.out.below (HSE.out x) HK.out.lt).cell 1
    have HP0 := Lib.hid (show ∀ x : GW S, Calls Try.prog 80 #[.agg #[.slice A1 A.length c1, .slice A2 Bs.length c2], .int .i64 0] x.w (fun e w' => e = .returned (.int .i64 (p : Int)) ∧ S w') from fun x => (HO0.out x.w (HSE.out x)).mono (by rintro e w7 ⟨rfl, hb7⟩; exact ⟨rfl, hS2 _ ((HSE.out x).trans (hb7.mono (HSE.out x).size))⟩))
    have HP2 := Lib.hid (show ∀ x : GW S, Calls Try.prog 80 #[.agg #[.slice A1 A.length c1, .slice A2 Bs.length c2], .int .i64 2] x.w (fun e w' => e = .returned (.int .i64 (r : Int)) ∧ S w') from fun x => (HO2.out x.w (HSE.out x)).mono (by rintro e w7 ⟨rfl, hb7⟩; exact ⟨rfl, hS2 _ ((HSE.out x).trans (hb7.mono (HSE.out x).size))⟩))
    clear hS1 hS2 q0 q1
    refine wp_region_grow S (by kernel_rfl) (by kernel_rfl) HSI.out (fun hne => ?_)
    repeat (go_big_quiet_step ((first
      | (go_at_call 80; (with_reducible exact grow_call (HP0.out _)))
      | (go_at_call 80; (with_reducible exact grow_call (HP2.out _))))))
    refine wpQuiet_nil ?_
    rintro _ ⟨xq, rfl⟩
    clear hx0 hx1
    go_wp2_with fail
    go_ret2
    rw [HR.out, HC.out]
    exact ⟨rfl, HBW.out.trans ((HSE.out xq).mono HBW.out.size)⟩
end Go.Proofs.Ytbjeibcombjfgaa

