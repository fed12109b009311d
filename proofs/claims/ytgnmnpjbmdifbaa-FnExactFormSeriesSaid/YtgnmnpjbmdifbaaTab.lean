/- Walks: is it a tableau (the program's and the reference's test). -/
import Derived.Test.YtgnmnpjbmdifbaaRows
import Derived.Test.YtgnmnpjbmdifbaaMem
import Derived.Test.YtgnmnpjbmdifbaaMem2
import Derived.Test.YtgnmnpjbmdifbaaNum
import Derived.Test.YtgnmnpjbmdifbaaA
import Derived.Test.YtgnmnpjbmdifbaaB
import Derived.Test.YtgnmnpjbmdifbaaLen
import Derived.Test.YtgnmnpjbmdifbaaLR
import Derived.WalkLawsBesides
import Derived.BigGuardPart
set_option linter.unusedVariables false
set_option linter.unusedSimpArgs false
namespace Go.Proofs.Ytgnmnpjbmdifbaa
open Go.RowKit

def rowB (n : Nat) (row : List Int) : Bool := decide (row.length = n) && nums row
def tabB (A : List (List Int)) (Bs : List Int) : Bool := inR Bs.length 1 8 && decide (A.length = Bs.length) && nums Bs && A.all (rowB Bs.length)

set_option maxHeartbeats 400000 in
theorem lib_IndexFuncR (w : World) (v : Value) (xss : List (List Int)) (g : Nat) (c0 : Value) (p : List Int → Bool) (ha : Rows w v xss)
    (hcf : ∀ (args : Array Value) (w : World), Sem.run Try.prog (callFunc g args) w = .ok (.enter g args) w)
    (hp : ∀ (u : Value) (zs : List Int), Ints w u zs → Calls Try.prog g #[u, c0] w fun e w' => e = .returned (.bool (p zs)) ∧ w = w') :
    Calls Try.prog 165 #[v, .func (.func g) #[] #[c0]] w fun e w' => e = .returned (.int .i64 (idxF p xss)) ∧ w = w' := by
  obtain ⟨A, c, rfl, h1, h2, h3⟩ := ha.open_
  clear ha
  have H3 := Lib.hid h3
  have HP := Lib.hid hp
  clear h3 hp
  go_enter Try.func165, Try.ntmps165
  go_wp2_with fail
  go_loop [8] (fun i => ∃ k : Nat, k ≤ xss.length ∧ i = .int .i64 k ∧ Hid (∀ i y, i < k → xss[i]? = some y → p y = false)) (fun i => xss.length - (intOf i).toNat)
  case atStart => exact ⟨0, Nat.zero_le _, rfl, fun i y h => by omega⟩
  case round =>
    obtain ⟨k, hk, rfl, hI⟩ := hrel
    by_cases hlt : k < xss.length
    · obtain ⟨ad, u, zs, rfl, hz, hu, hc⟩ := H3.out k hlt
      have HZ := Lib.hid hz
      have HU := Lib.hid hu
      clear hz hu
      go_wp2_with fail
      refine (HP.out u zs HU.out).mono ?_
      rintro e w' ⟨rfl, rfl⟩
      go_wp2_with fail
      · have hpz : p zs = true := by assumption
        go_ret
        exact ⟨ret_int (idxF_hit hI.out HZ.out hpz).symm, rfl⟩
      · have hpz : p zs = false := by assumption
        go_round
        case rel =>
          refine ⟨k + 1, by omega, by go_num, fun i y hi hy => ?_⟩
          by_cases e : i = k
          · subst e
            rw [HZ.out] at hy
            cases hy
            exact hpz
          · exact hI.out i y (by omega) hy
        case measure => simp [intOf]; omega
    · have : k = xss.length := by omega
      subst this
      go_wp2_with fail
      go_ret
      exact ⟨ret_int (idxF_miss hI.out).symm, rfl⟩

set_option maxHeartbeats 400000 in
theorem lib_ContainsFuncR (w : World) (v : Value) (xss : List (List Int)) (g : Nat) (c0 : Value) (p : List Int → Bool) (ha : Rows w v xss)
    (hcf : ∀ (args : Array Value) (w : World), Sem.run Try.prog (callFunc g args) w = .ok (.enter g args) w)
    (hp : ∀ (u : Value) (zs : List Int), Ints w u zs → Calls Try.prog g #[u, c0] w fun e w' => e = .returned (.bool (p zs)) ∧ w = w') :
    Calls Try.prog 108 #[v, .func (.func g) #[] #[c0]] w fun e w' => e = .returned (.bool (xss.any p)) ∧ w = w' := by
  have HA := Lib.hid ha
  have HP := Lib.hid hp
  clear ha hp
  go_enter Try.func108, Try.ntmps108
  go_wp2_with (go_at_call 165; refine (lib_IndexFuncR _ _ _ _ _ _ HA.out hcf HP.out).mono ?_; rintro e w' ⟨rfl, rfl⟩)
  go_ret
  exact ⟨ret_bool (idxF_nonneg p xss), rfl⟩

set_option maxHeartbeats 400000 in
theorem i_IsTableau1 (w : World) (v : Value) (zs : List Int) (a : Addr) (n : Nat) (ha : Ints w v zs) (hc : w.cell? a = some (.int .i64 (n : Int))) :
    Calls Try.prog 109 #[v, .pointer (some a)] w fun e w' => e = .returned (.bool (!rowB n zs)) ∧ w = w' := by
  have HA := Lib.hid ha
  obtain ⟨A, c, rfl, h1, h2, h3⟩ := ha.open_
  clear ha h3
  by_cases hl : zs.length = n
  · have HF := Lib.hid (show (!rowB n zs) = !nums zs by simp [rowB, hl])
    have hd : (((zs.length : Nat) : Int) != (n : Int)) = false := by simp [hl]
    clear hl
    go_enter Try.func109, Try.ntmps109
    go_wp2_with (go_at_call 95; refine (i_areNumbers _ _ _ HA.out).mono ?_; rintro e w' ⟨rfl, rfl⟩)
    go_ret
    exact ⟨ret_bool HF.out.symm, rfl⟩
  · have HF := Lib.hid (show (!rowB n zs) = true by simp [rowB, hl])
    have hd : (((zs.length : Nat) : Int) != (n : Int)) = true := by simp; omega
    clear hl
    go_enter Try.func109, Try.ntmps109
    go_wp2_with (go_at_call 95; refine (i_areNumbers _ _ _ HA.out).mono ?_; rintro e w' ⟨rfl, rfl⟩)
    go_ret
    exact ⟨ret_bool HF.out.symm, rfl⟩

theorem any_not_all {α : Type} (p : α → Bool) (l : List α) : (l.any fun x => !p x) = !l.all p := by
  induction l with
  | nil => rfl
  | cons x l ih => simp only [List.any_cons, List.all_cons, ih]; cases p x <;> simp

set_option maxHeartbeats 1000000 in
theorem i_IsTableau (w : World) (v : Value) (A : List (List Int)) (Bs : List Int) (ha : TabArg w v A Bs) :
    Calls Try.prog 55 #[v] w fun e w' => e = .returned (.bool (tabB A Bs)) ∧ Below w.heap.size w w' := by
  obtain ⟨va, vb, rfl, ha1, ha2⟩ := ha
  have BB := Lib.hid (below2 w (.cells #[va, vb] 29) (.cells #[.int .i64 (Bs.length : Int)] 3))
  have H1 := Lib.hid (ha1.below BB.out)
  have H2 := Lib.hid (ha2.below BB.out)
  obtain ⟨A1, c1, rfl, g1, g2, _⟩ := ha1.open_
  obtain ⟨A2, c2, rfl, k1, k2, _⟩ := ha2.open_
  clear ha1 ha2
  cases hr : inR Bs.length 1 8 with
  | false =>
    have HF := Lib.hid (show tabB A Bs = false by simp [tabB, hr])
    go_enter Try.func55, Try.ntmps55
    go_wp2_with (first | (go_at_call 107; refine (lib_lengthI _ _ _ H2.out).mono ?_; rintro e w' ⟨rfl, rfl⟩) | (go_at_call 61; refine (i_inRange _ _ _ _).mono ?_; rintro e w' ⟨rfl, rfl⟩))
    go_ret
    exact ⟨ret_bool HF.out.symm, BB.out⟩
  | true =>
    by_cases hl : A.length = Bs.length
    · have hd : (((A.length : Nat) : Int) != (Bs.length : Int)) = false := by simp [hl]
      cases hn : nums Bs with
      | false =>
        have HF := Lib.hid (show tabB A Bs = false by simp [tabB, hn])
        clear hl
        go_enter Try.func55, Try.ntmps55
        go_wp2_with (first | (go_at_call 107; refine (lib_lengthI _ _ _ H2.out).mono ?_; rintro e w' ⟨rfl, rfl⟩) | (go_at_call 61; refine (i_inRange _ _ _ _).mono ?_; rintro e w' ⟨rfl, rfl⟩) | (go_at_call 95; refine (i_areNumbers _ _ _ H2.out).mono ?_; rintro e w' ⟨rfl, rfl⟩))
        go_ret
        exact ⟨ret_bool HF.out.symm, BB.out⟩
      | true =>
        have HF := Lib.hid (show tabB A Bs = A.all (rowB Bs.length) by simp [tabB, hr, hl, hn])
        clear hl
        go_enter Try.func55, Try.ntmps55
        go_wp2_with (first | (go_at_call 107; refine (lib_lengthI _ _ _ H2.out).mono ?_; rintro e w' ⟨rfl, rfl⟩) | (go_at_call 61; refine (i_inRange _ _ _ _).mono ?_; rintro e w' ⟨rfl, rfl⟩) | (go_at_call 95; refine (i_areNumbers _ _ _ H2.out).mono ?_; rintro e w' ⟨rfl, rfl⟩))
        refine (lib_ContainsFuncR _ _ _ _ _ (fun row => !rowB Bs.length row) H1.out (fun _ _ => by kernel_rfl) (fun u zs hu => i_IsTableau1 _ _ _ _ _ hu (by simp))).mono ?_
        rintro e w' ⟨rfl, rfl⟩
        go_wp2_with fail
        go_ret
        exact ⟨ret_bool (by rw [HF.out, any_not_all, Bool.not_not]), BB.out⟩
    · have hd : (((A.length : Nat) : Int) != (Bs.length : Int)) = true := by simp; omega
      have HF := Lib.hid (show tabB A Bs = false by simp [tabB, hl])
      clear hl
      go_enter Try.func55, Try.ntmps55
      go_wp2_with (first | (go_at_call 107; refine (lib_lengthI _ _ _ H2.out).mono ?_; rintro e w' ⟨rfl, rfl⟩) | (go_at_call 61; refine (i_inRange _ _ _ _).mono ?_; rintro e w' ⟨rfl, rfl⟩))
      go_ret
      exact ⟨ret_bool HF.out.symm, BB.out⟩

theorem all_rows {n : Nat} {A : List (List Int)} (h : ∀ i y, i < A.length → A[i]? = some y → rowB n y = true) : A.all (rowB n) = true := by
  rw [List.all_eq_true]
  intro x hx
  obtain ⟨i, hi, rfl⟩ := List.getElem_of_mem hx
  exact h i _ hi (List.getElem?_eq_getElem hi)
theorem not_all_rows {n k : Nat} {A : List (List Int)} {zs : List Int} (h : A[k]? = some zs) (hz : rowB n zs = false) : A.all (rowB n) = false := by
  rw [List.all_eq_false]
  exact ⟨zs, List.mem_of_getElem? h, by simp [hz]⟩

set_option maxHeartbeats 1000000 in
theorem s_l09Is (w : World) (v : Value) (A : List (List Int)) (Bs : List Int) (ha : TabArg w v A Bs) :
    Calls Try.prog 53 #[v] w fun e w' => e = .returned (.bool (tabB A Bs)) ∧ Below w.heap.size w w' := by
  obtain ⟨va, vb, rfl, ha1, ha2⟩ := ha
  have BB := Lib.hid (below1 w (.cells #[va, vb] 29))
  have H1 := Lib.hid (ha1.below BB.out)
  have H2 := Lib.hid (ha2.below BB.out)
  obtain ⟨A1, c1, hva, g1, g2, g3⟩ := H1.out.open_
  obtain ⟨A2, c2, hvb, k1, k2, _⟩ := ha2.open_
  subst hva
  subst hvb
  have G3 := Lib.hid g3
  clear ha1 ha2 g3
  by_cases q1 : (Bs.length : Int) < (1 : Int)
  · have HF := Lib.hid (show tabB A Bs = false by simp [tabB, inR]; omega)
    go_enter Try.func53, Try.ntmps53
    go_wp2_with (go_at_call 93; refine (s_l01Numbers _ _ _ H2.out).mono ?_; rintro e w' ⟨rfl, rfl⟩)
    go_ret
    exact ⟨ret_bool HF.out.symm, BB.out⟩
  · by_cases q2 : (8 : Int) < (Bs.length : Int)
    · have HF := Lib.hid (show tabB A Bs = false by simp [tabB, inR]; omega)
      go_enter Try.func53, Try.ntmps53
      go_wp2_with (go_at_call 93; refine (s_l01Numbers _ _ _ H2.out).mono ?_; rintro e w' ⟨rfl, rfl⟩)
      go_ret
      exact ⟨ret_bool HF.out.symm, BB.out⟩
    · have hr : inR Bs.length 1 8 = true := by rw [inR_iff]; omega
      by_cases hl : A.length = Bs.length
      · have hd : (((A.length : Nat) : Int) != (Bs.length : Int)) = false := by simp [hl]
        have hle : A.length ≤ Bs.length := by omega
        have hle' : Bs.length ≤ A.length := by omega
        cases hn : nums Bs with
        | false =>
          have HF := Lib.hid (show tabB A Bs = false by simp [tabB, hn])
          clear hl hr
          go_enter Try.func53, Try.ntmps53
          go_wp2_with (go_at_call 93; refine (s_l01Numbers _ _ _ H2.out).mono ?_; rintro e w' ⟨rfl, rfl⟩)
          go_ret
          exact ⟨ret_bool HF.out.symm, BB.out⟩
        | true =>
          have HF := Lib.hid (show tabB A Bs = A.all (rowB Bs.length) by simp [tabB, hr, hl, hn])
          clear hl hr
          go_enter Try.func53, Try.ntmps53
          go_wp2_with (go_at_call 93; refine (s_l01Numbers _ _ _ H2.out).mono ?_; rintro e w' ⟨rfl, rfl⟩)
          go_loop [4] (fun i => ∃ k : Nat, k ≤ Bs.length ∧ i = .int .i64 k ∧ Hid (∀ i y, i < k → A[i]? = some y → rowB Bs.length y = true)) (fun i => Bs.length - (intOf i).toNat)
          case atStart => exact ⟨0, Nat.zero_le _, rfl, fun i y h => by omega⟩
          case round =>
            obtain ⟨k, hk, rfl, hI⟩ := hrel
            by_cases hlt : k < Bs.length
            · obtain ⟨ad, u, zs, rfl, hz, hu, hc⟩ := G3.out k (by omega)
              have HU := Lib.hid hu
              obtain ⟨A3, c3, rfl, _, _, _⟩ := hu.open_
              have HZ := Lib.hid hz
              have hka : (k : Int) < (A.length : Int) := by omega
              clear hz hu
              by_cases hl2 : zs.length = Bs.length
              · have hd2 : (((zs.length : Nat) : Int) != (Bs.length : Int)) = false := by simp [hl2]
                have HL2 := Lib.hid hl2
                clear hl2
                cases hn2 : nums zs with
                | false =>
                  go_wp2_with (go_at_call 93; refine (s_l01Numbers _ _ _ HU.out).mono ?_; rintro e w' ⟨rfl, rfl⟩)
                  go_ret
                  exact ⟨ret_bool (by rw [HF.out, not_all_rows HZ.out (by simp [rowB, hn2])]), BB.out⟩
                | true =>
                  go_wp2_with (go_at_call 93; refine (s_l01Numbers _ _ _ HU.out).mono ?_; rintro e w' ⟨rfl, rfl⟩)
                  go_round
                  case rel =>
                    refine ⟨k + 1, by omega, by go_num, fun i y hi hy => ?_⟩
                    by_cases e : i = k
                    · subst e
                      rw [HZ.out] at hy
                      cases hy
                      simp [rowB, hn2, HL2.out]
                    · exact hI.out i y (by omega) hy
                  case measure => simp [intOf]; omega
              · have hd2 : (((zs.length : Nat) : Int) != (Bs.length : Int)) = true := by simp; omega
                have HL2 := Lib.hid hl2
                clear hl2
                go_wp2_with (go_at_call 93; refine (s_l01Numbers _ _ _ HU.out).mono ?_; rintro e w' ⟨rfl, rfl⟩)
                go_ret
                exact ⟨ret_bool (by rw [HF.out, not_all_rows HZ.out (by simp [rowB]; intro h; exact absurd h HL2.out)]), BB.out⟩
            · have : k = Bs.length := by omega
              subst this
              go_wp2_with fail
              go_ret
              exact ⟨ret_bool (by rw [HF.out]; exact (all_rows fun i y hi hy => hI.out i y (by omega) hy).symm), BB.out⟩
      · have hd : (((A.length : Nat) : Int) != (Bs.length : Int)) = true := by simp; omega
        have HF := Lib.hid (show tabB A Bs = false by simp [tabB, hl])
        clear hl
        go_enter Try.func53, Try.ntmps53
        go_wp2_with (go_at_call 93; refine (s_l01Numbers _ _ _ H2.out).mono ?_; rintro e w' ⟨rfl, rfl⟩)
        go_ret
        exact ⟨ret_bool HF.out.symm, BB.out⟩
end Go.Proofs.Ytgnmnpjbmdifbaa
