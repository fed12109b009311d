/- Walks: matrices, squares and forms of both. -/
import Derived.Test.YtgnmnpjbmdifbaaVec2
import Derived.Test.YtgnmnpjbmdifbaaGrowQ
set_option maxRecDepth 100000
set_option linter.unusedVariables false
set_option linter.unusedSimpArgs false
namespace Go.Proofs.Ytgnmnpjbmdifbaa
open Go.RowKit

def rowOk (m : Nat) (zs : List Int) : Bool := decide (zs.length = m) && nums zs
/-- is it a matrix? -/
def matB (a : List (List Int)) : Bool := decide (1 ≤ a.length ∧ a.length ≤ 8 ∧ 1 ≤ (a.headD []).length ∧ (a.headD []).length ≤ 8) && a.all (rowOk (a.headD []).length)
theorem matB_size {a : List (List Int)} (h : ¬ (1 ≤ a.length ∧ a.length ≤ 8)) : matB a = false := by
  unfold matB; rw [decide_eq_false (fun h' => h ⟨h'.1, h'.2.1⟩)]; rfl
theorem matB_cols {a : List (List Int)} (h : ¬ (1 ≤ (a.headD []).length ∧ (a.headD []).length ≤ 8)) : matB a = false := by
  unfold matB; rw [decide_eq_false (fun h' => h h'.2.2)]; rfl
theorem matB_row {a : List (List Int)} {k : Nat} {zs : List Int} (hz : a[k]? = some zs) (h : rowOk (a.headD []).length zs = false) : matB a = false := by
  have : a.all (rowOk (a.headD []).length) = false := by rw [List.all_eq_false]; exact ⟨zs, List.mem_of_getElem? hz, by rw [h]; simp⟩
  unfold matB; rw [this, Bool.and_false]
theorem matB_yes {a : List (List Int)} (h1 : 1 ≤ a.length ∧ a.length ≤ 8) (h2 : 1 ≤ (a.headD []).length ∧ (a.headD []).length ≤ 8) (h : ∀ i zs, i < a.length → a[i]? = some zs → rowOk (a.headD []).length zs = true) : matB a = true := by
  have : a.all (rowOk (a.headD []).length) = true := by
    rw [List.all_eq_true]
    intro zs hz
    obtain ⟨i, hi, rfl⟩ := List.getElem_of_mem hz
    exact h i _ hi (List.getElem?_eq_getElem hi)
  unfold matB; rw [this, decide_eq_true ⟨h1.1, h1.2, h2.1, h2.2⟩]; rfl
/-- what is known of a matrix -/
structure MatOk (a : List (List Int)) (m : Nat) : Prop where
  l1 : 1 ≤ a.length
  l8 : a.length ≤ 8
  m1 : 1 ≤ m
  m8 : m ≤ 8
  row : ∀ zs ∈ a, zs.length = m ∧ Nums zs
theorem matOk {a : List (List Int)} (h : matB a = true) : MatOk a (a.headD []).length := by
  simp only [matB, Bool.and_eq_true, decide_eq_true_eq, List.all_eq_true] at h
  refine ⟨h.1.1, h.1.2.1, h.1.2.2.1, h.1.2.2.2, fun zs hz => ?_⟩
  have := h.2 zs hz
  simp only [rowOk, Bool.and_eq_true, decide_eq_true_eq] at this
  exact ⟨this.1, nums_iff.1 this.2⟩
theorem head_of {a : List (List Int)} {zs : List Int} (h : a[0]? = some zs) : a.headD [] = zs := by
  cases a with
  | nil => simp at h
  | cons x r => simpa using h

set_option maxHeartbeats 400000 in
theorem lib_lengthR (w : World) (v : Value) (xss : List (List Int)) (ha : Rows w v xss) : Calls Try.prog 172 #[v] w fun e w' => e = .returned (.int .i64 xss.length) ∧ w = w' := by
  obtain ⟨A, c, rfl, h1, h2, h3⟩ := ha.open_
  clear ha h3
  go_enter Try.func172, Try.ntmps172
  go_wp2
  go_ret
  exact ⟨rfl, rfl⟩

set_option maxHeartbeats 2000000 in
theorem i_isMatrix (w : World) (v : Value) (a : List (List Int)) (ha : Rows w v a) :
    Calls Try.prog 171 #[v] w fun e w' => e = .returned (.bool (matB a)) ∧ w = w' := by
  have HA := Lib.hid ha
  obtain ⟨A, c, rfl, h1, h2, h3⟩ := ha.open_
  have H3 := Lib.hid h3
  clear ha h3
  go_enter Try.func171, Try.ntmps171
  by_cases hn : 1 ≤ a.length ∧ a.length ≤ 8
  · have hir : inR (a.length : Int) 1 8 = true := inR_iff.2 (by omega)
    obtain ⟨hn1, hn8⟩ := hn
    obtain ⟨ad, u0, zs0, rfl, hz0, hu0, hc0⟩ := H3.out 0 (by omega)
    obtain ⟨A0, d0, rfl, -, -, -⟩ := hu0.open_
    have HH := Lib.hid (head_of hz0)
    have hc00 : w.cell? ad = some (.slice A0 zs0.length d0) := hc0
    clear hz0 hu0 hc0
    go_wp2_with (first | (go_at_call 172; refine (lib_lengthR _ _ a HA.out).mono ?_; rintro e w' ⟨rfl, rfl⟩) | (go_at_call 61; refine (i_inRange _ _ _ _).mono ?_; rintro e w' ⟨rfl, rfl⟩; rw [hir]))
    go_loop [11] (fun i => ∃ k : Nat, k ≤ a.length ∧ i = .int .i64 k ∧ Hid (∀ i zs, i < k → a[i]? = some zs → rowOk zs0.length zs = true ∧ 1 ≤ zs.length ∧ zs.length ≤ 8)) (fun i => a.length - (intOf i).toNat)
    case atStart => exact ⟨0, Nat.zero_le _, rfl, fun i y h => by omega⟩
    case round =>
      obtain ⟨k, hk, rfl, hI⟩ := hrel
      by_cases hlt : k < a.length
      · obtain ⟨ad', u, zs, he, hz, hu, hc⟩ := H3.out k hlt
        simp only [Option.some.injEq] at he
        subst he
        have HU := Lib.hid hu
        obtain ⟨A5, c5, rfl, -, -, -⟩ := hu.open_
        have HZ := Lib.hid hz
        clear hz hu
        by_cases hl : zs.length = zs0.length
        · have hd : ((zs.length : Int) != (zs0.length : Int)) = false := by simp [hl]
          have HL := Lib.hid hl
          clear hl
          by_cases hr : 1 ≤ zs.length ∧ zs.length ≤ 8
          · have hir2 : inR (zs.length : Int) 1 8 = true := inR_iff.2 (by omega)
            have HRR := Lib.hid hr
            clear hr
            cases hb : nums zs with
            | true =>
              have HOK := Lib.hid (show rowOk zs0.length zs = true by simp [rowOk, HL.out, hb])
              go_wp2_with (first | (go_at_call 107; refine (lib_lengthI _ _ zs HU.out).mono ?_; rintro e w' ⟨rfl, rfl⟩) | (go_at_call 61; refine (i_inRange _ _ _ _).mono ?_; rintro e w' ⟨rfl, rfl⟩; rw [hir2]) | (go_at_call 95; refine (i_areNumbers _ _ zs HU.out).mono ?_; rintro e w' ⟨rfl, rfl⟩; rw [hb]))
              go_round
              case rel =>
                refine ⟨k + 1, by omega, by go_num, fun i y hi hy => ?_⟩
                by_cases e : i = k
                · subst e
                  have e2 := HZ.out.symm.trans hy
                  injection e2 with e2
                  subst e2
                  exact ⟨HOK.out, HRR.out.1, HRR.out.2⟩
                · exact hI.out i y (by omega) hy
              case measure => simp [intOf]; omega
            | false =>
              have HF := Lib.hid (matB_row HZ.out (by rw [HH.out]; simp [rowOk, hb]))
              go_wp2_with (first | (go_at_call 107; refine (lib_lengthI _ _ zs HU.out).mono ?_; rintro e w' ⟨rfl, rfl⟩) | (go_at_call 61; refine (i_inRange _ _ _ _).mono ?_; rintro e w' ⟨rfl, rfl⟩; rw [hir2]) | (go_at_call 95; refine (i_areNumbers _ _ zs HU.out).mono ?_; rintro e w' ⟨rfl, rfl⟩; rw [hb]))
              go_ret
              exact ⟨ret_bool HF.out.symm, rfl⟩
          · have hir2 : inR (zs.length : Int) 1 8 = false := by rw [inR_not]; omega
            have HF := Lib.hid (matB_cols (by rw [HH.out, ← HL.out]; exact hr))
            clear hr
            go_wp2_with (first | (go_at_call 107; refine (lib_lengthI _ _ zs HU.out).mono ?_; rintro e w' ⟨rfl, rfl⟩) | (go_at_call 61; refine (i_inRange _ _ _ _).mono ?_; rintro e w' ⟨rfl, rfl⟩; rw [hir2]))
            go_ret
            exact ⟨ret_bool HF.out.symm, rfl⟩
        · have hd : ((zs.length : Int) != (zs0.length : Int)) = true := by simp; omega
          have HF := Lib.hid (matB_row HZ.out (by rw [HH.out]; simp [rowOk, hl]))
          clear hl
          go_wp2_with fail
          go_ret
          exact ⟨ret_bool HF.out.symm, rfl⟩
      · have : k = a.length := by omega
        subst this
        have HF := Lib.hid (show matB a = true from by
          have h0 := hI.out 0 zs0 (by omega) (by
            obtain ⟨ad2, u2, zs2, _, hz2, _, _⟩ := H3.out 0 (by omega)
            rw [hz2, ← HH.out, head_of hz2])
          exact matB_yes ⟨hn1, hn8⟩ (by rw [HH.out]; exact h0.2) (by rw [HH.out]; exact fun i zs hi hz => (hI.out i zs hi hz).1))
        go_wp2_with fail
        go_ret
        exact ⟨ret_bool HF.out.symm, rfl⟩
  · have HF := Lib.hid (matB_size hn)
    have hir : inR (a.length : Int) 1 8 = false := by rw [inR_not]; omega
    clear hn
    go_wp2_with (first | (go_at_call 172; refine (lib_lengthR _ _ a HA.out).mono ?_; rintro e w' ⟨rfl, rfl⟩) | (go_at_call 61; refine (i_inRange _ _ _ _).mono ?_; rintro e w' ⟨rfl, rfl⟩; rw [hir]))
    go_ret
    exact ⟨ret_bool HF.out.symm, rfl⟩

/-- the code of a matrix -/
def matC (a : List (List Int)) : Int := if matB a then 0 else 1

set_option maxHeartbeats 2000000 in
theorem s_l01Matrix (w : World) (v : Value) (a : List (List Int)) (ha : Rows w v a) :
    Calls Try.prog 170 #[v] w fun e w' => e = .returned (.int .i64 (matC a)) ∧ Below w.heap.size w w' := by
  have HA := Lib.hid ha
  obtain ⟨A, c, rfl, h1, h2, h3⟩ := ha.open_
  have H3 := Lib.hid h3
  clear ha h3
  go_enter Try.func170, Try.ntmps170
  by_cases hn : 1 ≤ a.length ∧ a.length ≤ 8
  · obtain ⟨hn1, hn8⟩ := hn
    obtain ⟨ad, u0, zs0, rfl, hz0, hu0, hc0⟩ := H3.out 0 (by omega)
    obtain ⟨A0, d0, rfl, -, -, -⟩ := hu0.open_
    have HH := Lib.hid (head_of hz0)
    have HZ0 := Lib.hid hz0
    have hc00 : w.cell? ad = some (.slice A0 zs0.length d0) := hc0
    have HAB := Lib.hid (World.block_lt_of_cell? w _ hc00)
    clear hz0 hu0 hc0
    have t1 : ¬ (a.length : Int) < 1 := by omega
    have t2 : ¬ (8 : Int) < (a.length : Int) := by omega
    have t3 : (0 : Int) < (a.length : Int) := by omega
    by_cases hr : 1 ≤ zs0.length ∧ zs0.length ≤ 8
    · have t4 : ¬ (zs0.length : Int) < 1 := by omega
      have t5 : ¬ (8 : Int) < (zs0.length : Int) := by omega
      have HRR := Lib.hid hr
      clear hr
      go_wp2_with fail
      go_loopw [3] (fun i wr => ∃ k : Nat, k ≤ a.length ∧ i = .int .i64 k ∧ Hid (∀ i zs, i < k → a[i]? = some zs → rowOk zs0.length zs = true) ∧ Below w.heap.size w wr) (fun i _ => a.length - (intOf i).toNat)
      case atStart => exact ⟨0, Nat.zero_le _, rfl, fun i y h => by omega, Below.refl _ _⟩
      case round =>
        obtain ⟨k, hk, rfl, hI, hb⟩ := hrel
        have HB := Lib.hid hb
        clear hb
        by_cases hlt : k < a.length
        · obtain ⟨ad', u, zs, he, hz, hu, hc⟩ := H3.out k hlt
          simp only [Option.some.injEq] at he
          subst he
          obtain ⟨A5, c5, rfl, -, -, -⟩ := hu.open_
          have HU := Lib.hid hu
          have HZ := Lib.hid hz
          have q0 : wr.cell? ad = some (.slice A0 zs0.length d0) := by rw [HB.out.cell (by exact HAB.out)]; exact hc00
          have q1 : wr.cell? (ad.add k) = some (.slice A5 zs.length c5) := by rw [HB.out.cell (by rw [block_add]; exact HAB.out)]; exact hc
          have hki : (k : Int) < (a.length : Int) := by omega
          clear hz hu hc
          have HNM : ∀ W, Below w.heap.size w W → Calls Try.prog 93 #[.slice A5 zs.length c5] W (fun e w' => e = .returned (.bool (nums zs)) ∧ W = w') := fun W hW => s_l01Numbers W _ zs (HU.out.below hW)
          by_cases hl : zs.length = zs0.length
          · have hd : ((zs.length : Int) != (zs0.length : Int)) = false := by simp [hl]
            have HL := Lib.hid hl
            clear hl
            cases hb : nums zs with
            | true =>
              have HOK := Lib.hid (show rowOk zs0.length zs = true by simp [rowOk, HL.out, hb])
              rw [hb] at HNM
              go_wp2_with fail
              go_quiet ((go_at_call 93; first | exact quiet_same0 (HNM _ (below_drewN HB.out _)) | exact quiet_same (HNM _ (below_drewN HB.out _))))
              clear q0 q1 HNM
              go_wp2_with fail
              go_roundw
              case rel =>
                refine ⟨k + 1, by omega, by go_num, fun i y hi hy => ?_, below_drewN HB.out _⟩
                by_cases e : i = k
                · subst e
                  have e2 := HZ.out.symm.trans hy
                  injection e2 with e2
                  subst e2
                  exact HOK.out
                · exact hI.out i y (by omega) hy
              case measure => simp [intOf]; omega
            | false =>
              have HF := Lib.hid (matB_row HZ.out (by rw [HH.out]; simp [rowOk, hb]))
              rw [hb] at HNM
              go_wp2_with fail
              go_quiet ((go_at_call 93; first | exact quiet_same0 (HNM _ (below_drewN HB.out _)) | exact quiet_same (HNM _ (below_drewN HB.out _))))
              clear q0 q1 HNM
              go_wp2_with fail
              go_ret
              exact ⟨ret_int (by unfold matC; rw [HF.out]; rfl), below_drewN HB.out _⟩
          · have hd : ((zs.length : Int) != (zs0.length : Int)) = true := by simp; omega
            have HF := Lib.hid (matB_row HZ.out (by rw [HH.out]; simp [rowOk, hl]))
            clear hl
            go_wp2_with fail
            go_quiet (fail)
            clear q0 q1 HNM
            go_wp2_with fail
            go_ret
            exact ⟨ret_int (by unfold matC; rw [HF.out]; rfl), below_drewN HB.out _⟩
        · have : k = a.length := by omega
          subst this
          have HF := Lib.hid (show matB a = true from matB_yes ⟨hn1, hn8⟩ (by rw [HH.out]; exact HRR.out) (by rw [HH.out]; exact hI.out))
          go_wp2_with fail
          go_ret
          exact ⟨ret_int (by unfold matC; rw [HF.out]; rfl), HB.out⟩
    · have HF := Lib.hid (matB_cols (by rw [HH.out]; exact hr))
      by_cases t4 : (zs0.length : Int) < 1
      · clear hr
        go_wp2_with fail
        go_ret
        exact ⟨ret_int (by unfold matC; rw [HF.out]; rfl), Below.refl _ _⟩
      · have t5 : (8 : Int) < (zs0.length : Int) := by omega
        clear hr
        go_wp2_with fail
        go_ret
        exact ⟨ret_int (by unfold matC; rw [HF.out]; rfl), Below.refl _ _⟩
  · have HF := Lib.hid (matB_size hn)
    by_cases t1 : (a.length : Int) < 1
    · clear hn
      go_wp2_with fail
      go_ret
      exact ⟨ret_int (by unfold matC; rw [HF.out]; rfl), Below.refl _ _⟩
    · have t2 : (8 : Int) < (a.length : Int) := by omega
      clear hn
      go_wp2_with fail
      go_ret
      exact ⟨ret_int (by unfold matC; rw [HF.out]; rfl), Below.refl _ _⟩
end Go.Proofs.Ytgnmnpjbmdifbaa
