/- Monomials: words of memory; walks of isMonomial of the program and l13Degree of the reference. -/
import Derived.Test.YtgnmnpjbmdifbaaFld1
import Derived.Test.YtgnmnpjbmdifbaaB
import Derived.Test.YtgnmnpjbmdifbaaLen
set_option maxRecDepth 100000
set_option linter.unusedVariables false
set_option linter.unusedSimpArgs false
namespace Go.Proofs.Ytgnmnpjbmdifbaa
open Go.RowKit

/-- a monomial: the factor and the powers -/
abbrev Mono := Int × List Int
/-- a monomial that can be read -/
def MonoArg (w : World) (v : Value) (m : Mono) : Prop := ∃ u, v = .agg #[.int .i64 m.1, u] ∧ In64 m.1 ∧ Ints w u m.2
theorem MonoArg.below {w w' : World} {v : Value} {m : Mono} (h : MonoArg w v m) (hb : Below w.heap.size w w') : MonoArg w' v m := by
  obtain ⟨u, rfl, h1, h2⟩ := h
  exact ⟨u, rfl, h1, h2.below hb⟩

def powOk (ps : List Int) : Bool := ps.all fun e => inR e 0 3
def degOk (ps : List Int) : Bool := powOk ps && decide (sumF id ps ≤ 3)
/-- is m a monomial of n variables? -/
def monoB (n : Int) (m : Mono) : Bool := degOk m.2 && (!decide (m.1 = 0) && (isNum m.1 && decide ((m.2.length : Int) = n)))
theorem powOk_take {ps : List Int} {j : Nat} (h : ∀ i y, i < j → ps[i]? = some y → inR y 0 3 = true) : ∀ x ∈ ps.take j, 0 ≤ x ∧ x ≤ 3 := by
  intro x hx
  obtain ⟨i, hi, rfl⟩ := List.getElem_of_mem hx
  have hl : i < j ∧ i < ps.length := by simp at hi; omega
  have := h i _ hl.1 (by rw [List.getElem?_eq_getElem hl.2])
  rw [List.getElem_take]
  exact inR_iff.1 this
theorem powOk_all {ps : List Int} (h : ∀ i y, i < ps.length → ps[i]? = some y → inR y 0 3 = true) : powOk ps = true := by
  unfold powOk
  rw [List.all_eq_true]
  intro x hx
  obtain ⟨i, hi, rfl⟩ := List.getElem_of_mem hx
  exact h i _ hi (List.getElem?_eq_getElem hi)
theorem powOk_no {ps : List Int} {j : Nat} {x : Int} (hx : ps[j]? = some x) (h : inR x 0 3 = false) : powOk ps = false := by
  unfold powOk
  rw [List.all_eq_false]
  exact ⟨x, List.mem_of_getElem? hx, by rw [h]; simp⟩

set_option maxHeartbeats 2000000 in
theorem i_isMonomial (w : World) (v : Value) (m : Mono) (n : Int) (ha : MonoArg w v m) (hn : m.2.length ≤ 4294967296) :
    Calls Try.prog 63 #[v, .int .i64 n] w fun e w' => e = .returned (.bool (monoB n m)) ∧ Below w.heap.size w w' := by
  obtain ⟨f, ps⟩ := m
  obtain ⟨u, rfl, hf64, hu⟩ := ha
  obtain ⟨A, c, rfl, l1, l2, h3⟩ := hu.open_
  have HU := Lib.hid hu
  simp only at hn l1 h3 HU ⊢
  have H3 := Lib.hid h3
  clear hu h3 hf64
  have B0 := Lib.hid (below1 w (.cells #[.int .i64 f, .slice A ps.length c] 80))
  have K0 := Lib.hid (Blk.new w #[.int .i64 f, .slice A ps.length c] 80)
  go_enter Try.func63, Try.ntmps63
  go_wp2_with fail
  generalize (w.alloc (.cells #[.int .i64 f, .slice A ps.length c] 80)) = w1 at B0 K0 ⊢
  go_loopw [5, 11] (fun s i wr => ∃ j : Nat, j ≤ ps.length ∧ i = .int .i64 j ∧ s = .int .i64 (sumF id (ps.take j)) ∧ wr = w1 ∧ Hid (∀ i y, i < j → ps[i]? = some y → inR y 0 3 = true)) (fun _ i _ => ps.length - (intOf i).toNat)
  case atStart => exact ⟨0, Nat.zero_le _, rfl, rfl, rfl, fun i y h => by omega⟩
  case round =>
    obtain ⟨j, hj, rfl, rfl, rfl, hI⟩ := hrel
    have hsb := sumF_bd id 3 (ps.take j) (fun x hx => powOk_take hI.out x hx)
    have hsl : ((ps.take j).length : Int) ≤ 4294967296 := by rw [List.length_take]; omega
    by_cases hlt : j < ps.length
    · obtain ⟨ad, x, rfl, hx, -, hc0⟩ := H3.out j hlt
      have hc : wr.cell? (ad.add j) = some (.int .i64 x) := by
        rw [B0.out.cell (by rw [block_add]; have := World.block_lt_of_cell? w _ hc0; rwa [block_add] at this)]; exact hc0
      have HX := Lib.hid hx
      have HS := Lib.hid (sumF_take id hx)
      clear hx hc0
      cases hr : inR x 0 3 with
      | false =>
        have HP := Lib.hid (powOk_no HX.out hr)
        go_wp2_with (go_at_call 61; refine (i_inRange _ _ _ _).mono ?_; rintro e w' ⟨rfl, rfl⟩; rw [hr])
        go_ret
        exact ⟨ret_bool (by simp [monoB, degOk, HP.out]), B0.out⟩
      | true =>
        have hxb := inR_iff.1 hr
        have HR := Lib.hid hr
        generalize sumF id (ps.take j) = s at hsb HS
        generalize (ps.take j).length = q at hsb hsl
        go_wp2_with (go_at_call 61; refine (i_inRange _ _ _ _).mono ?_; rintro e w' ⟨rfl, rfl⟩; rw [hr])
        go_roundw
        case rel =>
          refine ⟨j + 1, by omega, by go_num, by rw [HS.out]; rfl, trivial, fun i y hi hy => ?_⟩
          by_cases e : i = j
          · subst e
            rw [HX.out] at hy
            cases hy
            exact HR.out
          · exact hI.out i y (by omega) hy
        case measure => simp [intOf]; omega
    · have : j = ps.length := by omega
      subst this
      have HP := Lib.hid (powOk_all hI.out)
      rw [List.take_length]
      have k0 : wr.cell? ⟨w.heap.size, 0, none⟩ = some (.int .i64 f) := K0.out.cell 0
      have k1 : wr.cell? ⟨w.heap.size, 1, none⟩ = some (.slice A ps.length c) := K0.out.cell 1
      have HSM := Lib.hid (show degOk ps = decide (sumF id ps ≤ 3) by simp [degOk, HP.out])
      have HUW := Lib.hid (HU.out.below B0.out)
      clear hsb hsl
      generalize sumF id ps = s at HSM
      by_cases h0 : f = 0
      · subst h0
        go_wp2_with fail
        go_ret
        exact ⟨ret_bool (by simp [monoB]), B0.out⟩
      · cases hnum : isNum f with
        | false =>
          go_wp2_with (go_at_call 114; refine (i_IsNumber _ _).mono ?_; rintro e w' ⟨rfl, rfl⟩; rw [hnum])
          go_ret
          exact ⟨ret_bool (by simp [monoB, hnum]), B0.out⟩
        | true =>
          by_cases hl : (ps.length : Int) = n
          · subst hl
            by_cases hd : s ≤ 3
            · have HD := Lib.hid (show degOk ps = true by rw [HSM.out]; simpa using hd)
              have HM := Lib.hid (show monoB (ps.length : Int) (f, ps) = true by simp [monoB, HD.out, h0, hnum])
              go_wp2_with (first | (go_at_call 114; refine (i_IsNumber _ _).mono ?_; rintro e w' ⟨rfl, rfl⟩; rw [hnum]) | (go_at_call 107; refine (lib_lengthI _ _ _ HUW.out).mono ?_; rintro e w' ⟨rfl, rfl⟩))
              go_ret
              exact ⟨ret_bool HM.out.symm, B0.out⟩
            · have HD := Lib.hid (show degOk ps = false by rw [HSM.out]; simpa using hd)
              have HM := Lib.hid (show monoB (ps.length : Int) (f, ps) = false by simp [monoB, HD.out])
              go_wp2_with (first | (go_at_call 114; refine (i_IsNumber _ _).mono ?_; rintro e w' ⟨rfl, rfl⟩; rw [hnum]) | (go_at_call 107; refine (lib_lengthI _ _ _ HUW.out).mono ?_; rintro e w' ⟨rfl, rfl⟩))
              go_ret
              exact ⟨ret_bool (by rw [HM.out]; simpa using hd), B0.out⟩
          · have HM := Lib.hid (show monoB n (f, ps) = false by simp [monoB, hl])
            go_wp2_with (first | (go_at_call 114; refine (i_IsNumber _ _).mono ?_; rintro e w' ⟨rfl, rfl⟩; rw [hnum]) | (go_at_call 107; refine (lib_lengthI _ _ _ HUW.out).mono ?_; rintro e w' ⟨rfl, rfl⟩))
            go_ret
            exact ⟨ret_bool HM.out.symm, B0.out⟩

/-- the degree that the reference reckons -/
def degV (ps : List Int) : Int := if ps.all (fun e => inR e 0 100) then sumF id ps else 1000
theorem sumF_nonneg {ps : List Int} (h : ∀ x ∈ ps, 0 ≤ x) : 0 ≤ sumF id ps ∧ ∀ x ∈ ps, x ≤ sumF id ps := by
  induction ps with
  | nil => simp [sumF]
  | cons y r ih =>
    have h1 := ih (fun x hx => h x (List.mem_cons_of_mem _ hx))
    have h2 := h y List.mem_cons_self
    have e : sumF id (y :: r) = y + sumF id r := by simp [sumF]
    rw [e]
    refine ⟨by omega, fun x hx => ?_⟩
    rcases List.mem_cons.1 hx with rfl | hx
    · omega
    · have := h1.2 x hx; omega
theorem degV_ok (ps : List Int) : decide (degV ps ≤ 3) = degOk ps := by
  unfold degV degOk
  cases ha : ps.all (fun e => inR e 0 100) with
  | true =>
    rw [if_pos rfl]
    have h0 : ∀ x ∈ ps, 0 ≤ x := fun x hx => (inR_iff.1 (List.all_eq_true.1 ha x hx)).1
    have h1 := sumF_nonneg h0
    by_cases hs : sumF id ps ≤ 3
    · have hp : powOk ps = true := by
        unfold powOk
        rw [List.all_eq_true]
        intro x hx
        exact inR_iff.2 ⟨h0 x hx, by have := h1.2 x hx; omega⟩
      simp [hs, hp]
    · simp [hs]
  | false =>
    rw [if_neg (by simp)]
    have hp : powOk ps = false := by
      rw [List.all_eq_false] at ha
      obtain ⟨x, hx, hn⟩ := ha
      unfold powOk
      rw [List.all_eq_false]
      refine ⟨x, hx, ?_⟩
      simp only [Bool.not_eq_true] at hn ⊢
      have := inR_not.1 hn
      exact inR_not.2 (by omega)
    simp [hp]
theorem cent_no {ps : List Int} {j : Nat} {x : Int} (hx : ps[j]? = some x) (h : x < 0 ∨ 100 < x) : degV ps = 1000 := by
  unfold degV
  rw [if_neg]
  rw [Bool.not_eq_true, List.all_eq_false]
  exact ⟨x, List.mem_of_getElem? hx, by rw [Bool.not_eq_true]; exact inR_not.2 h⟩
theorem cent_all {ps : List Int} (h : ∀ i y, i < ps.length → ps[i]? = some y → 0 ≤ y ∧ y ≤ 100) : degV ps = sumF id ps := by
  unfold degV
  rw [if_pos]
  rw [List.all_eq_true]
  intro x hx
  obtain ⟨i, hi, rfl⟩ := List.getElem_of_mem hx
  exact inR_iff.2 (h i _ hi (List.getElem?_eq_getElem hi))

set_option maxHeartbeats 1000000 in
theorem s_l13Degree (w : World) (v : Value) (ps : List Int) (ha : Ints w v ps) (hn : ps.length ≤ 4294967296) :
    Calls Try.prog 111 #[v] w fun e w' => e = .returned (.int .i64 (degV ps)) ∧ w = w' := by
  obtain ⟨A, c, rfl, l1, l2, h3⟩ := ha.open_
  have H3 := Lib.hid h3
  clear ha h3
  go_enter Try.func111, Try.ntmps111
  go_wp2_with fail
  go_loop [3, 4] (fun s i => ∃ j : Nat, j ≤ ps.length ∧ i = .int .i64 j ∧ s = .int .i64 (sumF id (ps.take j)) ∧ Hid (∀ i y, i < j → ps[i]? = some y → 0 ≤ y ∧ y ≤ 100)) (fun _ i => ps.length - (intOf i).toNat)
  case atStart => exact ⟨0, Nat.zero_le _, rfl, rfl, fun i y h => by omega⟩
  case round =>
    obtain ⟨j, hj, rfl, rfl, hI⟩ := hrel
    have hsb := sumF_bd id 100 (ps.take j) (fun x hx => by
      obtain ⟨i, hi, rfl⟩ := List.getElem_of_mem hx
      have hl : i < j ∧ i < ps.length := by simp at hi; omega
      have := hI.out i _ hl.1 (List.getElem?_eq_getElem hl.2)
      rw [List.getElem_take]
      exact this)
    have hsl : ((ps.take j).length : Int) ≤ 4294967296 := by rw [List.length_take]; omega
    by_cases hlt : j < ps.length
    · obtain ⟨ad, x, rfl, hx, -, hc⟩ := H3.out j hlt
      have HX := Lib.hid hx
      have HS := Lib.hid (sumF_take id hx)
      have hji : (j : Int) < (ps.length : Int) := by omega
      clear hx
      by_cases h0 : x < 0
      · have HP := Lib.hid (cent_no HX.out (.inl h0))
        go_wp2_with fail
        go_ret
        exact ⟨ret_int HP.out.symm, rfl⟩
      · by_cases h1 : 100 < x
        · have HP := Lib.hid (cent_no HX.out (.inr h1))
          go_wp2_with fail
          go_ret
          exact ⟨ret_int HP.out.symm, rfl⟩
        · generalize sumF id (ps.take j) = s at hsb HS
          generalize (ps.take j).length = q at hsb hsl
          go_wp2_with fail
          go_round
          case rel =>
            refine ⟨j + 1, by omega, by go_num, by rw [HS.out]; rfl, fun i y hi hy => ?_⟩
            by_cases e : i = j
            · subst e
              rw [HX.out] at hy
              cases hy
              omega
            · exact hI.out i y (by omega) hy
          case measure => simp [intOf]; omega
    · have : j = ps.length := by omega
      subst this
      have HP := Lib.hid (cent_all hI.out)
      rw [List.take_length]
      go_wp2_with fail
      go_ret
      exact ⟨ret_int HP.out.symm, rfl⟩
end Go.Proofs.Ytgnmnpjbmdifbaa
