/- Walks: squares and forms of both. -/
import Derived.Test.YtgnmnpjbmdifbaaFrm1
set_option maxRecDepth 100000
set_option linter.unusedVariables false
set_option linter.unusedSimpArgs false
namespace Go.Proofs.Ytgnmnpjbmdifbaa
open Go.RowKit

/-- is it a square matrix with n rows? -/
def frameB (n : Int) (a : List (List Int)) : Bool := matB a && decide ((a.length : Int) = n ∧ ((a.headD []).length : Int) = n)
theorem frameB_mat {n : Int} {a : List (List Int)} (h : matB a = false) : frameB n a = false := by simp [frameB, h]
theorem frameB_len {n : Int} {a : List (List Int)} (h : (a.length : Int) ≠ n) : frameB n a = false := by simp [frameB, h]
theorem frameB_col {n : Int} {a : List (List Int)} (h : ((a.headD []).length : Int) ≠ n) : frameB n a = false := by
  unfold frameB; rw [decide_eq_false (fun h' => h h'.2), Bool.and_false]
theorem frameB_yes {n : Int} {a : List (List Int)} (h : matB a = true) (h1 : (a.length : Int) = n) (h2 : ((a.headD []).length : Int) = n) : frameB n a = true := by
  unfold frameB; rw [h, decide_eq_true ⟨h1, h2⟩]; rfl

set_option maxHeartbeats 1000000 in
theorem s_l13Square (w : World) (n : Int) (v : Value) (a : List (List Int)) (ha : Rows w v a) :
    Calls Try.prog 120 #[.int .i64 n, v] w fun e w' => e = .returned (.bool (frameB n a)) ∧ Below w.heap.size w w' := by
  have HA := Lib.hid ha
  obtain ⟨A, c, rfl, h1, h2, h3⟩ := ha.open_
  have H3 := Lib.hid h3
  clear ha h3
  go_enter Try.func120, Try.ntmps120
  cases hm : matB a with
  | false =>
    have HF := Lib.hid (frameB_mat (n := n) hm)
    have hc : matC a = 1 := by simp [matC, hm]
    clear hm
    go_wp2_with (go_at_call 170; refine (s_l01Matrix _ _ a HA.out).mono ?_; rintro e w1 ⟨rfl, hb1⟩; rw [hc])
    go_ret
    exact ⟨ret_bool HF.out.symm, hb1⟩
  | true =>
    have hM := matOk hm
    have hc : matC a = 0 := by simp [matC, hm]
    have hn1 := hM.l1
    obtain ⟨ad, u0, zs0, rfl, hz0, hu0, hc0⟩ := H3.out 0 (by omega)
    obtain ⟨A0, d0, rfl, -, -, -⟩ := hu0.open_
    have HH := Lib.hid (head_of hz0)
    have HAB := Lib.hid (World.block_lt_of_cell? w _ hc0)
    have HC0 := Lib.hid (show w.cell? ad = some (.slice A0 zs0.length d0) from hc0)
    have HM := Lib.hid hm
    have t3 : (0 : Int) < (a.length : Int) := by omega
    clear hz0 hu0 hc0 hm hM
    by_cases hl : (a.length : Int) = n
    · have hd : ((a.length : Int) == n) = true := by simp [hl]
      have HL := Lib.hid hl
      clear hl
      by_cases hl2 : (zs0.length : Int) = n
      · have hd2 : ((zs0.length : Int) == n) = true := by simp [hl2]
        have HF := Lib.hid (frameB_yes HM.out HL.out (by rw [HH.out]; exact hl2))
        clear hl2
        go_wp2_with (go_at_call 170; refine (s_l01Matrix _ _ a HA.out).mono ?_; rintro e w1 ⟨rfl, hb1⟩; rw [hc]; have q0 : w1.cell? ad = some (.slice A0 zs0.length d0) := by rw [hb1.cell (by exact HAB.out)]; exact HC0.out)
        go_ret
        exact ⟨ret_bool HF.out.symm, hb1⟩
      · have hd2 : ((zs0.length : Int) == n) = false := by simp [hl2]
        have HF := Lib.hid (frameB_col (n := n) (a := a) (by rw [HH.out]; exact hl2))
        clear hl2
        go_wp2_with (go_at_call 170; refine (s_l01Matrix _ _ a HA.out).mono ?_; rintro e w1 ⟨rfl, hb1⟩; rw [hc]; have q0 : w1.cell? ad = some (.slice A0 zs0.length d0) := by rw [hb1.cell (by exact HAB.out)]; exact HC0.out)
        go_ret
        exact ⟨ret_bool HF.out.symm, hb1⟩
    · have hd : ((a.length : Int) == n) = false := by simp [hl]
      have HF := Lib.hid (frameB_len (n := n) (a := a) hl)
      clear hl
      go_wp2_with (go_at_call 170; refine (s_l01Matrix _ _ a HA.out).mono ?_; rintro e w1 ⟨rfl, hb1⟩; rw [hc])
      go_ret
      exact ⟨ret_bool HF.out.symm, hb1⟩

set_option maxHeartbeats 2000000 in
theorem im_isFrame (w : World) (n : Int) (u v : Value) (a : List (List Int)) (hu : ∃ A l c, u = .slice A l c) (ha : Rows w v a) :
    Calls Try.prog 124 #[.agg #[.int .i64 n, u], v] w fun e w' => e = .returned (.bool (frameB n a)) ∧ Below w.heap.size w w' := by
  obtain ⟨Au, lu, cu, rfl⟩ := hu
  have HA := Lib.hid ha
  obtain ⟨A, c, rfl, h1, h2, h3⟩ := ha.open_
  have H3 := Lib.hid h3
  have B0 := Lib.hid (below1 w (.cells #[.int .i64 n, .slice Au lu cu] 40))
  have K0 := Lib.hid (Blk.new w #[.int .i64 n, .slice Au lu cu] 40)
  clear ha h3
  go_enter Try.func124, Try.ntmps124
  go_wp2_with fail
  generalize (w.alloc (.cells #[.int .i64 n, .slice Au lu cu] 40)) = w1 at B0 K0 ⊢
  have g0 : w1.cell? ⟨w.heap.size, 0, none⟩ = some (.int .i64 n) := K0.out.cell 0
  have HIM : ∀ W, Below w.heap.size w W → Calls Try.prog 171 #[.slice A a.length c] W (fun e w' => e = .returned (.bool (matB a)) ∧ W = w') := fun W hW => i_isMatrix W _ a (HA.out.below hW)
  have HLR : ∀ W, Below w.heap.size w W → Calls Try.prog 172 #[.slice A a.length c] W (fun e w' => e = .returned (.int .i64 a.length) ∧ W = w') := fun W hW => lib_lengthR W _ a (HA.out.below hW)
  cases hm : matB a with
  | false =>
    have HF := Lib.hid (frameB_mat (n := n) hm)
    rw [hm] at HIM
    clear hm
    go_quiet ((first | (go_at_call 171; first | exact quiet_same0 (HIM _ (below_drewN B0.out _)) | exact quiet_same (HIM _ (below_drewN B0.out _)))))
    go_wp2_with fail
    go_ret
    exact ⟨ret_bool HF.out.symm, below_drewN B0.out _⟩
  | true =>
    rw [hm] at HIM
    have hM := matOk hm
    have hn1 := hM.l1
    obtain ⟨ad, u0, zs0, rfl, hz0, hu0, hc0⟩ := H3.out 0 (by omega)
    obtain ⟨A0, d0, rfl, -, -, -⟩ := hu0.open_
    have HH := Lib.hid (head_of hz0)
    have q0 : w1.cell? ad = some (.slice A0 zs0.length d0) := by rw [B0.out.cell (by exact World.block_lt_of_cell? w _ hc0)]; exact hc0
    have HU0 := Lib.hid hu0
    have HM := Lib.hid hm
    have t3 : (0 : Int) < (a.length : Int) := by omega
    have HLI : ∀ W, Below w.heap.size w W → Calls Try.prog 107 #[.slice A0 zs0.length d0] W (fun e w' => e = .returned (.int .i64 zs0.length) ∧ W = w') := fun W hW => lib_lengthI W _ zs0 (HU0.out.below hW)
    clear hz0 hu0 hc0 hm hM
    by_cases hl : (a.length : Int) = n
    · have hd : ((a.length : Int) == n) = true := by simp [hl]
      have HL := Lib.hid hl
      clear hl
      by_cases hl2 : (zs0.length : Int) = n
      · have hd2 : ((zs0.length : Int) == n) = true := by simp [hl2]
        have HF := Lib.hid (frameB_yes HM.out HL.out (by rw [HH.out]; exact hl2))
        clear hl2
        go_quiet ((first | (go_at_call 171; first | exact quiet_same0 (HIM _ (below_drewN B0.out _)) | exact quiet_same (HIM _ (below_drewN B0.out _))) | (go_at_call 172; first | exact quiet_same0 (HLR _ (below_drewN B0.out _)) | exact quiet_same (HLR _ (below_drewN B0.out _))) | (go_at_call 107; first | exact quiet_same0 (HLI _ (below_drewN B0.out _)) | exact quiet_same (HLI _ (below_drewN B0.out _)))))
        go_wp2_with fail
        go_ret
        exact ⟨ret_bool HF.out.symm, below_drewN B0.out _⟩
      · have hd2 : ((zs0.length : Int) == n) = false := by simp [hl2]
        have HF := Lib.hid (frameB_col (n := n) (a := a) (by rw [HH.out]; exact hl2))
        clear hl2
        go_quiet ((first | (go_at_call 171; first | exact quiet_same0 (HIM _ (below_drewN B0.out _)) | exact quiet_same (HIM _ (below_drewN B0.out _))) | (go_at_call 172; first | exact quiet_same0 (HLR _ (below_drewN B0.out _)) | exact quiet_same (HLR _ (below_drewN B0.out _))) | (go_at_call 107; first | exact quiet_same0 (HLI _ (below_drewN B0.out _)) | exact quiet_same (HLI _ (below_drewN B0.out _)))))
        go_wp2_with fail
        go_ret
        exact ⟨ret_bool HF.out.symm, below_drewN B0.out _⟩
    · have hd : ((a.length : Int) == n) = false := by simp [hl]
      have HF := Lib.hid (frameB_len (n := n) (a := a) hl)
      clear hl
      go_quiet ((first | (go_at_call 171; first | exact quiet_same0 (HIM _ (below_drewN B0.out _)) | exact quiet_same (HIM _ (below_drewN B0.out _))) | (go_at_call 172; first | exact quiet_same0 (HLR _ (below_drewN B0.out _)) | exact quiet_same (HLR _ (below_drewN B0.out _)))))
      go_wp2_with fail
      go_ret
      exact ⟨ret_bool HF.out.symm, below_drewN B0.out _⟩

def ent (a : List (List Int)) (i k : Nat) : Int := (a.getD i []).getD k 0
/-- is it a form with n rows? -/
def formB (n : Int) (a : List (List Int)) : Bool := frameB n a && (List.range a.length).all fun i => (List.range a.length).all fun k => decide (ent a i k = ent a k i)
theorem formB_frame {n : Int} {a : List (List Int)} (h : frameB n a = false) : formB n a = false := by simp [formB, h]
theorem formB_no {n : Int} {a : List (List Int)} {i k : Nat} (hi : i < a.length) (hk : k < a.length) (h : ent a i k ≠ ent a k i) : formB n a = false := by
  have : ((List.range a.length).all fun i => (List.range a.length).all fun k => decide (ent a i k = ent a k i)) = false := by
    rw [List.all_eq_false]
    refine ⟨i, List.mem_range.2 hi, ?_⟩
    rw [Bool.not_eq_true, List.all_eq_false]
    exact ⟨k, List.mem_range.2 hk, by simpa using h⟩
  unfold formB; rw [this, Bool.and_false]
theorem formB_yes {n : Int} {a : List (List Int)} (h : frameB n a = true) (hs : ∀ i, i < a.length → ∀ k, k < a.length → ent a i k = ent a k i) : formB n a = true := by
  have : ((List.range a.length).all fun i => (List.range a.length).all fun k => decide (ent a i k = ent a k i)) = true := by
    rw [List.all_eq_true]
    intro i hi
    rw [List.all_eq_true]
    intro k hk
    exact decide_eq_true (hs i (List.mem_range.1 hi) k (List.mem_range.1 hk))
  unfold formB; rw [this, h]; rfl
theorem frameOk {n : Int} {a : List (List Int)} (h : frameB n a = true) : MatOk a a.length ∧ (a.length : Int) = n := by
  simp only [frameB, Bool.and_eq_true, decide_eq_true_eq] at h
  have hM := matOk h.1
  have e : (a.headD []).length = a.length := by omega
  rw [e] at hM
  exact ⟨hM, h.2.1⟩
theorem ent_of {a : List (List Int)} {i k : Nat} {zs : List Int} {x : Int} (hz : a[i]? = some zs) (hx : zs[k]? = some x) : ent a i k = x := by simp [ent, List.getD, hz, hx]

set_option maxHeartbeats 2000000 in
theorem s_l13Form (w : World) (n : Int) (v : Value) (a : List (List Int)) (ha : Rows w v a) :
    Calls Try.prog 74 #[.int .i64 n, v] w fun e w' => e = .returned (.bool (formB n a)) ∧ Below w.heap.size w w' := by
  have HA := Lib.hid ha
  obtain ⟨A, c, rfl, h1, h2, h3⟩ := ha.open_
  have H3 := Lib.hid h3
  clear ha h3
  go_enter Try.func74, Try.ntmps74
  cases hm : frameB n a with
  | false =>
    have HF := Lib.hid (formB_frame hm)
    go_wp2_with (go_at_call 120; refine (s_l13Square _ n _ a HA.out).mono ?_; rintro e w1 ⟨rfl, hb1⟩; rw [hm])
    go_ret
    exact ⟨ret_bool HF.out.symm, hb1⟩
  | true =>
    have HMO := Lib.hid (frameOk hm).1
    go_wp2_with fail
    refine (s_l13Square _ n _ a HA.out).mono ?_
    rintro e w1 ⟨rfl, hb1⟩
    rw [hm]
    have B1 := Lib.hid hb1
    have HM := Lib.hid hm
    clear hb1 hm
    go_wp2_with fail
    go_loopw [5, 6] (fun i s6 wr => ∃ j : Nat, j ≤ a.length ∧ i = .int .i64 j ∧ Hid (∀ i, i < j → ∀ k, k < a.length → ent a i k = ent a k i) ∧ Below w.heap.size w wr) (fun i _ _ => a.length - (intOf i).toNat)
    case atStart => exact ⟨0, Nat.zero_le _, rfl, fun i h => by omega, B1.out⟩
    case round =>
      obtain ⟨j, hj, rfl, hI, hb⟩ := hrel
      clear B1
      have HB := Lib.hid hb
      clear hb
      by_cases hlt : j < a.length
      · obtain ⟨ad, u, zs, rfl, hz, hu, hc⟩ := H3.out j hlt
        have HZ := Lib.hid hz
        obtain ⟨A5, c5, rfl, -, -, hu3⟩ := hu.open_
        have HU3 := Lib.hid hu3
        have HAB := Lib.hid (show ad.block < w.heap.size by have := World.block_lt_of_cell? w _ hc; rwa [block_add] at this)
        have HC := Lib.hid hc
        have HZL := Lib.hid (HMO.out.row zs (List.mem_of_getElem? hz)).1
        clear hz hu hc hu3
        go_wp2_with fail
        obtain ⟨wo, rfl⟩ : ∃ wo : World, wo = wr := ⟨_, rfl⟩
        go_loopw [6] (fun i wi => ∃ k : Nat, k ≤ a.length ∧ i = .int .i64 k ∧ Hid (∀ q, q < k → ent a j q = ent a q j) ∧ Below w.heap.size w wi) (fun i _ => a.length - (intOf i).toNat)
        case atStart => exact ⟨0, Nat.zero_le _, rfl, fun q h => by omega, HB.out⟩
        case round =>
          obtain ⟨k, hk, rfl, hJ, hb⟩ := hrel
          clear HB
          have HB := Lib.hid hb
          clear hb
          by_cases hlt2 : k < a.length
          · obtain ⟨ad', u2, ys, he, hy, hu2, hc2⟩ := H3.out k hlt2
            simp only [Option.some.injEq] at he
            subst he
            obtain ⟨A6, c6, rfl, -, -, hu4⟩ := hu2.open_
            have hyl := (HMO.out.row ys (List.mem_of_getElem? hy)).1
            obtain ⟨adx, x, rfl, hx, -, hcx⟩ := HU3.out k (by rw [HZL.out]; exact hlt2)
            obtain ⟨ady, y, rfl, hyy, -, hcy⟩ := hu4 j (by rw [hyl]; exact hlt)
            have q0 : wr.cell? (ad.add j) = some (.slice (some adx) zs.length c5) := by rw [HB.out.cell (by rw [block_add]; exact HAB.out)]; exact HC.out
            have q1 : wr.cell? (ad.add k) = some (.slice (some ady) ys.length c6) := by rw [HB.out.cell (by rw [block_add]; exact HAB.out)]; exact hc2
            have q2 : wr.cell? (adx.add k) = some (.int .i64 x) := by rw [HB.out.cell (by rw [block_add]; have := World.block_lt_of_cell? w _ hcx; rwa [block_add] at this)]; exact hcx
            have q3 : wr.cell? (ady.add j) = some (.int .i64 y) := by rw [HB.out.cell (by rw [block_add]; have := World.block_lt_of_cell? w _ hcy; rwa [block_add] at this)]; exact hcy
            have i0 : (j : Int) < (a.length : Int) := by omega
            have i1 : (k : Int) < (a.length : Int) := by omega
            have i2 : (k : Int) < (zs.length : Int) := by rw [HZL.out]; omega
            have i3 : (j : Int) < (ys.length : Int) := by omega
            have HX := Lib.hid (ent_of HZ.out hx)
            have HY := Lib.hid (ent_of hy hyy)
            clear hy hu2 hc2 hu4 hyl hx hyy hcx hcy
            by_cases hxy : x = y
            · have hd : (x != y) = false := by simp [hxy]
              have HE := Lib.hid hxy
              clear hxy
              go_wp2_with fail
              go_quiet (fail)
              clear q0 q1 q2 q3
              go_wp2_with fail
              go_roundw
              case rel =>
                refine ⟨k + 1, by omega, by go_num, fun q hq => ?_, below_drewN HB.out _⟩
                by_cases e : q = k
                · subst e; rw [HX.out, HY.out, HE.out]
                · exact hJ.out q (by omega)
              case measure => simp [intOf]; omega
            · have hd : (x != y) = true := by simp [hxy]
              have HF := Lib.hid (formB_no (n := n) hlt hlt2 (by rw [HX.out, HY.out]; exact hxy))
              clear hxy
              go_wp2_with fail
              go_quiet (fail)
              clear q0 q1 q2 q3
              go_wp2_with fail
              go_ret
              exact ⟨ret_bool HF.out.symm, below_drewN HB.out _⟩
          · have : k = a.length := by omega
            subst this
            have HJ := Lib.hid hJ.out
            go_wp2_with fail
            go_roundw
            case rel =>
              refine ⟨j + 1, by omega, by go_num, fun i hi k hk => ?_, HB.out⟩
              by_cases e : i = j
              · subst e; exact HJ.out k hk
              · exact hI.out i (by omega) k hk
            case measure => simp [intOf]; omega
      · have : j = a.length := by omega
        subst this
        have HF := Lib.hid (formB_yes HM.out hI.out)
        go_wp2_with fail
        go_ret
        exact ⟨ret_bool HF.out.symm, HB.out⟩

set_option maxHeartbeats 2000000 in
theorem im_isForm (w : World) (n : Int) (u v : Value) (a : List (List Int)) (hu : ∃ A l c, u = .slice A l c) (ha : Rows w v a) :
    Calls Try.prog 79 #[.agg #[.int .i64 n, u], v] w fun e w' => e = .returned (.bool (formB n a)) ∧ Below w.heap.size w w' := by
  have HUU := Lib.hid hu
  obtain ⟨Au, lu, cu, rfl⟩ := hu
  have HA := Lib.hid ha
  obtain ⟨A, c, rfl, h1, h2, h3⟩ := ha.open_
  have H3 := Lib.hid h3
  have B0 := Lib.hid (below1 w (.cells #[.int .i64 n, .slice Au lu cu] 40))
  clear ha h3
  go_enter Try.func79, Try.ntmps79
  cases hm : frameB n a with
  | false =>
    have HF := Lib.hid (formB_frame hm)
    go_wp2_with (go_at_call 124; refine (im_isFrame _ n _ _ a HUU.out (HA.out.below B0.out)).mono ?_; rintro e w1 ⟨rfl, hb1⟩; rw [hm])
    go_ret
    exact ⟨ret_bool HF.out.symm, B0.out.trans (hb1.mono B0.out.size)⟩
  | true =>
    have HMO := Lib.hid (frameOk hm).1
    go_wp2_with fail
    refine (im_isFrame _ n _ _ a HUU.out (HA.out.below B0.out)).mono ?_
    rintro e w1 ⟨rfl, hb1⟩
    rw [hm]
    have B1 := Lib.hid (B0.out.trans (hb1.mono B0.out.size))
    have HM := Lib.hid hm
    clear hb1 hm
    go_wp2_with fail
    go_loopw [13] (fun i wr => ∃ j : Nat, j ≤ a.length ∧ i = .int .i64 j ∧ Hid (∀ i, i < j → ∀ k, k < a.length → ent a i k = ent a k i) ∧ Below w.heap.size w wr) (fun i _ => a.length - (intOf i).toNat)
    case atStart => exact ⟨0, Nat.zero_le _, rfl, fun i h => by omega, B1.out⟩
    case round =>
      obtain ⟨j, hj, rfl, hI, hb⟩ := hrel
      clear B1
      have HB := Lib.hid hb
      clear hb
      by_cases hlt : j < a.length
      · obtain ⟨ad, u, zs, rfl, hz, hu, hc⟩ := H3.out j hlt
        have HZ := Lib.hid hz
        obtain ⟨A5, c5, rfl, -, -, hu3⟩ := hu.open_
        have HU3 := Lib.hid hu3
        have HAB := Lib.hid (show ad.block < w.heap.size by have := World.block_lt_of_cell? w _ hc; rwa [block_add] at this)
        have HC := Lib.hid hc
        have HZL := Lib.hid (HMO.out.row zs (List.mem_of_getElem? hz)).1
        clear hz hu hc hu3
        go_wp2_with fail
        obtain ⟨wo, rfl⟩ : ∃ wo : World, wo = wr := ⟨_, rfl⟩
        go_loopw [18] (fun i wi => ∃ k : Nat, k ≤ a.length ∧ i = .int .i64 k ∧ Hid (∀ q, q < k → ent a j q = ent a q j) ∧ Below w.heap.size w wi) (fun i _ => a.length - (intOf i).toNat)
        case atStart => exact ⟨0, Nat.zero_le _, rfl, fun q h => by omega, HB.out⟩
        case round =>
          obtain ⟨k, hk, rfl, hJ, hb⟩ := hrel
          clear HB
          have HB := Lib.hid hb
          clear hb
          by_cases hlt2 : k < a.length
          · obtain ⟨ad', u2, ys, he, hy, hu2, hc2⟩ := H3.out k hlt2
            simp only [Option.some.injEq] at he
            subst he
            obtain ⟨A6, c6, rfl, -, -, hu4⟩ := hu2.open_
            have hyl := (HMO.out.row ys (List.mem_of_getElem? hy)).1
            obtain ⟨adx, x, rfl, hx, -, hcx⟩ := HU3.out k (by rw [HZL.out]; exact hlt2)
            obtain ⟨ady, y, rfl, hyy, -, hcy⟩ := hu4 j (by rw [hyl]; exact hlt)
            have q0 : wr.cell? (ad.add j) = some (.slice (some adx) zs.length c5) := by rw [HB.out.cell (by rw [block_add]; exact HAB.out)]; exact HC.out
            have q1 : wr.cell? (ad.add k) = some (.slice (some ady) ys.length c6) := by rw [HB.out.cell (by rw [block_add]; exact HAB.out)]; exact hc2
            have q2 : wr.cell? (adx.add k) = some (.int .i64 x) := by rw [HB.out.cell (by rw [block_add]; have := World.block_lt_of_cell? w _ hcx; rwa [block_add] at this)]; exact hcx
            have q3 : wr.cell? (ady.add j) = some (.int .i64 y) := by rw [HB.out.cell (by rw [block_add]; have := World.block_lt_of_cell? w _ hcy; rwa [block_add] at this)]; exact hcy
            have i0 : (j : Int) < (a.length : Int) := by omega
            have i1 : (k : Int) < (a.length : Int) := by omega
            have i2 : (k : Int) < (zs.length : Int) := by rw [HZL.out]; omega
            have i3 : (j : Int) < (ys.length : Int) := by omega
            have HX := Lib.hid (ent_of HZ.out hx)
            have HY := Lib.hid (ent_of hy hyy)
            clear hy hu2 hc2 hu4 hyl hx hyy hcx hcy
            by_cases hxy : x = y
            · have hd : (x != y) = false := by simp [hxy]
              have HE := Lib.hid hxy
              clear hxy
              go_wp2_with fail
              go_quiet (fail)
              clear q0 q1 q2 q3
              go_wp2_with fail
              go_roundw
              case rel =>
                refine ⟨k + 1, by omega, by go_num, fun q hq => ?_, below_drewN HB.out _⟩
                by_cases e : q = k
                · subst e; rw [HX.out, HY.out, HE.out]
                · exact hJ.out q (by omega)
              case measure => simp [intOf]; omega
            · have hd : (x != y) = true := by simp [hxy]
              have HF := Lib.hid (formB_no (n := n) hlt hlt2 (by rw [HX.out, HY.out]; exact hxy))
              clear hxy
              go_wp2_with fail
              go_quiet (fail)
              clear q0 q1 q2 q3
              go_wp2_with fail
              go_ret
              exact ⟨ret_bool HF.out.symm, below_drewN HB.out _⟩
          · have : k = a.length := by omega
            subst this
            have HJ := Lib.hid hJ.out
            go_wp2_with fail
            go_roundw
            case rel =>
              refine ⟨j + 1, by omega, by go_num, fun i hi k hk => ?_, HB.out⟩
              by_cases e : i = j
              · subst e; exact HJ.out k hk
              · exact hI.out i (by omega) k hk
            case measure => simp [intOf]; omega
      · have : j = a.length := by omega
        subst this
        have HF := Lib.hid (formB_yes HM.out hI.out)
        go_wp2_with fail
        go_ret
        exact ⟨ret_bool HF.out.symm, HB.out⟩
end Go.Proofs.Ytgnmnpjbmdifbaa
