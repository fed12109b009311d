/- Walks: vectors and vector series of fields. -/
import Derived.Test.YtgnmnpjbmdifbaaFld3
import Derived.Test.YtgnmnpjbmdifbaaFld7
import Derived.Test.YtgnmnpjbmdifbaaTab
import Derived.Test.YtgnmnpjbmdifbaaLen
import Derived.Test.YtgnmnpjbmdifbaaLR
set_option maxRecDepth 100000
set_option linter.unusedVariables false
set_option linter.unusedSimpArgs false
namespace Go.Proofs.Ytgnmnpjbmdifbaa
open Go.RowKit

set_option maxHeartbeats 400000 in
theorem lib_IndexFuncRB (w : World) (v : Value) (xss : List (List Int)) (g : Nat) (c0 : Value) (p : List Int → Bool) (ha : Rows w v xss)
    (hcf : ∀ (args : Array Value) (w : World), Sem.run Try.prog (callFunc g args) w = .ok (.enter g args) w)
    (hp : ∀ (W : World) (u : Value) (zs : List Int), Below w.heap.size w W → Ints w u zs → Calls Try.prog g #[u, c0] W fun e w' => e = .returned (.bool (p zs)) ∧ Below W.heap.size W w') :
    Calls Try.prog 165 #[v, .func (.func g) #[] #[c0]] w fun e w' => e = .returned (.int .i64 (idxF p xss)) ∧ Below w.heap.size w w' := by
  obtain ⟨A, c, rfl, h1, h2, h3⟩ := ha.open_
  clear ha
  have H3 := Lib.hid h3
  have HP := Lib.hid hp
  clear h3 hp
  go_enter Try.func165, Try.ntmps165
  go_wp2_with fail
  go_loopw [8] (fun i wr => ∃ k : Nat, k ≤ xss.length ∧ i = .int .i64 k ∧ Hid (∀ i y, i < k → xss[i]? = some y → p y = false) ∧ Below w.heap.size w wr) (fun i _ => xss.length - (intOf i).toNat)
  case atStart => exact ⟨0, Nat.zero_le _, rfl, fun i y h => by omega, Below.refl _ _⟩
  case round =>
    obtain ⟨k, hk, rfl, hI, hb⟩ := hrel
    have HB := Lib.hid hb
    clear hb
    by_cases hlt : k < xss.length
    · obtain ⟨ad, u, zs, rfl, hz, hu, hc0⟩ := H3.out k hlt
      have hc : wr.cell? (ad.add k) = some u := by
        rw [HB.out.cell (by rw [block_add]; have := World.block_lt_of_cell? w _ hc0; rwa [block_add] at this)]; exact hc0
      have HZ := Lib.hid hz
      have HU := Lib.hid hu
      clear hz hu hc0
      go_wp2_with fail
      refine (HP.out _ u zs HB.out HU.out).mono ?_
      rintro e w' ⟨rfl, hb2⟩
      have HB2 := Lib.hid (HB.out.trans (hb2.mono HB.out.size))
      clear hb2 hc
      go_wp2_with fail
      · have hpz : p zs = true := by assumption
        go_ret
        exact ⟨ret_int (idxF_hit hI.out HZ.out hpz).symm, HB2.out⟩
      · have hpz : p zs = false := by assumption
        go_roundw
        case rel =>
          refine ⟨k + 1, by omega, by go_num, fun i y hi hy => ?_, HB2.out⟩
          by_cases e : i = k
          · subst e
            rw [HZ.out] at hy
            cases hy
            exact hpz
          · exact hI.out i y (by omega) hy
        case measure => simp [intOf]; omega
    · have : k = xss.length := by omega
      subst this
      go_wp2_with fail
      go_ret
      exact ⟨ret_int (idxF_miss hI.out).symm, HB.out⟩

set_option maxHeartbeats 400000 in
theorem lib_ContainsFuncRB (w : World) (v : Value) (xss : List (List Int)) (g : Nat) (c0 : Value) (p : List Int → Bool) (ha : Rows w v xss)
    (hcf : ∀ (args : Array Value) (w : World), Sem.run Try.prog (callFunc g args) w = .ok (.enter g args) w)
    (hp : ∀ (W : World) (u : Value) (zs : List Int), Below w.heap.size w W → Ints w u zs → Calls Try.prog g #[u, c0] W fun e w' => e = .returned (.bool (p zs)) ∧ Below W.heap.size W w') :
    Calls Try.prog 108 #[v, .func (.func g) #[] #[c0]] w fun e w' => e = .returned (.bool (xss.any p)) ∧ Below w.heap.size w w' := by
  have HA := Lib.hid ha
  have HP := Lib.hid hp
  clear ha hp
  go_enter Try.func108, Try.ntmps108
  go_wp2_with (go_at_call 165; refine (lib_IndexFuncRB _ _ _ _ _ _ HA.out hcf HP.out).mono ?_; rintro e w' ⟨rfl, hb⟩)
  go_ret
  exact ⟨ret_bool (idxF_nonneg p xss), hb⟩

/-- is the list a vector of a field of that size? -/
def vecB (n : Int) (zs : List Int) : Bool := decide ((zs.length : Int) = n) && nums zs
/-- are they a vector series? -/
def serB (n : Int) (xss : List (List Int)) : Bool := decide (xss.length = 7) && xss.all (vecB n)

set_option maxHeartbeats 1000000 in
theorem im_isVector (w : World) (n : Int) (u : Value) (v : Value) (zs : List Int) (hu : ∃ A l c, u = .slice A l c) (ha : Ints w v zs) :
    Calls Try.prog 126 #[.agg #[.int .i64 n, u], v] w fun e w' => e = .returned (.bool (vecB n zs)) ∧ Below w.heap.size w w' := by
  obtain ⟨Au, lu, cu, rfl⟩ := hu
  have HA := Lib.hid (ha.below (below1 w (.cells #[.int .i64 n, .slice Au lu cu] 40)))
  have B0 := Lib.hid (below1 w (.cells #[.int .i64 n, .slice Au lu cu] 40))
  have K0 := Lib.hid (Blk.new w #[.int .i64 n, .slice Au lu cu] 40)
  obtain ⟨A, c, rfl, -, -, -⟩ := ha.open_
  clear ha
  go_enter Try.func126, Try.ntmps126
  go_wp2_with fail
  generalize (w.alloc (.cells #[.int .i64 n, .slice Au lu cu] 40)) = w1 at HA B0 K0 ⊢
  have g0 : w1.cell? ⟨w.heap.size, 0, none⟩ = some (.int .i64 n) := K0.out.cell 0
  have HLN : ∀ W, Below w1.heap.size w1 W → Calls Try.prog 107 #[.slice A zs.length c] W (fun e w' => e = .returned (.int .i64 zs.length) ∧ W = w') := fun W hW => lib_lengthI W _ zs (HA.out.below hW)
  have HAN : ∀ W, Below w1.heap.size w1 W → Calls Try.prog 95 #[.slice A zs.length c] W (fun e w' => e = .returned (.bool (nums zs)) ∧ W = w') := fun W hW => i_areNumbers W _ zs (HA.out.below hW)
  by_cases hl : (zs.length : Int) = n
  · have HF := Lib.hid (show vecB n zs = nums zs by simp [vecB, hl])
    have hd : ((zs.length : Int) == n) = true := by simp [hl]
    have HL := Lib.hid hl
    clear hl
    generalize nums zs = b at HAN HF
    go_quiet ((first | (go_at_call 107; first | exact quiet_same0 (HLN _ (below_drewN (Below.refl _ _) _)) | exact quiet_same (HLN _ (below_drewN (Below.refl _ _) _))) | (go_at_call 95; first | exact quiet_same0 (HAN _ (below_drewN (Below.refl _ _) _)) | exact quiet_same (HAN _ (below_drewN (Below.refl _ _) _)))))
    go_wp2_with fail
    go_ret
    exact ⟨ret_bool HF.out.symm, below_drewN B0.out _⟩
  · have HF := Lib.hid (show vecB n zs = false by simp [vecB, hl])
    have hd : ((zs.length : Int) == n) = false := by simp [hl]
    clear hl
    go_quiet ((first | (go_at_call 107; first | exact quiet_same0 (HLN _ (below_drewN (Below.refl _ _) _)) | exact quiet_same (HLN _ (below_drewN (Below.refl _ _) _))) | (go_at_call 95; first | exact quiet_same0 (HAN _ (below_drewN (Below.refl _ _) _)) | exact quiet_same (HAN _ (below_drewN (Below.refl _ _) _)))))
    go_wp2_with fail
    go_ret
    exact ⟨ret_bool HF.out.symm, below_drewN B0.out _⟩

set_option maxHeartbeats 400000 in
theorem i_isVectorSeries1 (w : World) (n : Int) (u v : Value) (zs : List Int) (b : Nat) (hu : ∃ A l c, u = .slice A l c) (ha : Ints w v zs) (hk : Blk w b 40 #[.int .i64 n, u]) :
    Calls Try.prog 125 #[v, .pointer (some ⟨b, 0, none⟩)] w fun e w' => e = .returned (.bool (!vecB n zs)) ∧ Below w.heap.size w w' := by
  have HU := Lib.hid hu
  obtain ⟨Au, lu, cu, rfl⟩ := hu
  have HA := Lib.hid ha
  have g0 : w.cell? ⟨b, 0, none⟩ = some (.int .i64 n) := hk.cell 0
  have g1 : w.cell? ⟨b, 1, none⟩ = some (.slice Au lu cu) := hk.cell 1
  clear ha hk
  go_enter Try.func125, Try.ntmps125
  go_wp2_with (go_at_call 126; refine (im_isVector _ n _ _ zs HU.out HA.out).mono ?_; rintro e w' ⟨rfl, hb⟩)
  go_ret
  exact ⟨rfl, hb⟩

set_option maxHeartbeats 1000000 in
theorem im_isVectorSeries (w : World) (n : Int) (u v : Value) (xss : List (List Int)) (hu : ∃ A l c, u = .slice A l c) (ha : Rows w v xss) :
    Calls Try.prog 80 #[.agg #[.int .i64 n, u], v] w fun e w' => e = .returned (.bool (serB n xss)) ∧ Below w.heap.size w w' := by
  have HU := Lib.hid hu
  obtain ⟨Au, lu, cu, rfl⟩ := hu
  have HA := Lib.hid (ha.below (below1 w (.cells #[.int .i64 n, .slice Au lu cu] 40)))
  have B0 := Lib.hid (below1 w (.cells #[.int .i64 n, .slice Au lu cu] 40))
  have K0 := Lib.hid (Blk.new w #[.int .i64 n, .slice Au lu cu] 40)
  obtain ⟨A, c, rfl, -, -, -⟩ := ha.open_
  clear ha
  by_cases hl : xss.length = 7
  · have HF := Lib.hid (show serB n xss = !(xss.any fun zs => !vecB n zs) by rw [any_not_all]; simp [serB, hl])
    have hd : ((xss.length : Int) == 7) = true := by simp [hl]
    have HL := Lib.hid hl
    clear hl
    go_enter Try.func80, Try.ntmps80
    go_wp2_with (go_at_call 108; refine (lib_ContainsFuncRB _ _ xss 125 (.pointer (some ⟨w.heap.size, 0, none⟩)) (fun zs => !vecB n zs) HA.out (fun _ _ => by kernel_rfl) (fun W u zs hW hz => i_isVectorSeries1 W n _ u zs w.heap.size HU.out (hz.below hW) (K0.out.below hW K0.out.lt))).mono ?_; rintro e w2 ⟨rfl, hb⟩)
    go_ret
    exact ⟨ret_bool HF.out.symm, B0.out.trans (hb.mono B0.out.size)⟩
  · have HF := Lib.hid (show serB n xss = false by simp [serB, hl])
    have hd : ((xss.length : Int) == 7) = false := by simp; omega
    clear hl
    go_enter Try.func80, Try.ntmps80
    go_wp2_with fail
    go_ret
    exact ⟨ret_bool HF.out.symm, B0.out⟩

/-- the code of a field, a vector series and a number -/
def chkSN (n : Int) (pss : List (List Mono)) (xss : List (List Int)) (k : Int) : Int := if fieldB n pss then (if serB n xss && isNum k then 0 else 2) else 1

set_option maxHeartbeats 1000000 in
theorem i_checkSeriesNumber (w : World) (v : Value) (n : Int) (pss : List (List Mono)) (u : Value) (xss : List (List Int)) (k : Int) (hf : FieldArg w v n pss) (hs : ∀ ms ∈ pss, ∀ m ∈ ms, m.2.length ≤ 4294967296) (ha : Rows w u xss) :
    Calls Try.prog 68 #[v, u, .int .i64 k] w fun e w' => e = .returned (.int .i64 (chkSN n pss xss k)) ∧ Below w.heap.size w w' := by
  have HF := Lib.hid hf
  have HA := Lib.hid ha
  have HS := Lib.hid hs
  obtain ⟨vp, rfl, hn64, hP⟩ := hf
  obtain ⟨A, c, rfl, -, -, -⟩ := hP.open_
  obtain ⟨A', c', rfl, -, -, -⟩ := ha.open_
  have B0 := Lib.hid (below1 w (.cells #[.int .i64 n, .slice A pss.length c] 40))
  have K0 := Lib.hid (Blk.new w #[.int .i64 n, .slice A pss.length c] 40)
  clear ha hP hs
  go_enter Try.func68, Try.ntmps68
  cases hfb : fieldB n pss with
  | false =>
    have HR := Lib.hid (show chkSN n pss xss k = 1 by simp [chkSN, hfb])
    go_wp2_with (go_at_call 21; refine (i_IsField _ _ n pss (HF.out.below B0.out) HS.out).mono ?_; rintro e w1 ⟨rfl, hb1⟩; rw [hfb])
    go_ret
    exact ⟨ret_int HR.out.symm, B0.out.trans (hb1.mono B0.out.size)⟩
  | true =>
    go_wp2_with fail
    refine (i_IsField _ _ n pss (HF.out.below B0.out) HS.out).mono ?_
    rintro e w1 ⟨rfl, hb1⟩
    rw [hfb]
    have B1 := Lib.hid (B0.out.trans (hb1.mono B0.out.size))
    have K1 := Lib.hid (K0.out.below hb1 K0.out.lt)
    have g0 : w1.cell? ⟨w.heap.size, 0, none⟩ = some (.int .i64 n) := K1.out.cell 0
    have g1 : w1.cell? ⟨w.heap.size, 1, none⟩ = some (.slice A pss.length c) := K1.out.cell 1
    clear hb1 K0 B0
    go_wp2_with fail
    refine (im_isVectorSeries _ n _ _ xss ⟨_, _, _, rfl⟩ (HA.out.below B1.out)).mono ?_
    rintro e w2 ⟨rfl, hb2⟩
    have B2 := Lib.hid (B1.out.trans (hb2.mono B1.out.size))
    clear hb2 g0 g1
    cases hsb : serB n xss with
    | false =>
      have HR := Lib.hid (show chkSN n pss xss k = 2 by simp [chkSN, hfb, hsb])
      clear hfb hsb
      go_wp2_with fail
      go_ret
      exact ⟨ret_int HR.out.symm, B2.out⟩
    | true =>
      cases hkb : isNum k with
      | false =>
        have HR := Lib.hid (show chkSN n pss xss k = 2 by simp [chkSN, hfb, hsb, hkb])
        clear hfb hsb
        go_wp2_with (go_at_call 114; refine (i_IsNumber _ _).mono ?_; rintro e w' ⟨rfl, rfl⟩; rw [hkb])
        go_ret
        exact ⟨ret_int HR.out.symm, B2.out⟩
      | true =>
        have HR := Lib.hid (show chkSN n pss xss k = 0 by simp [chkSN, hfb, hsb, hkb])
        clear hfb hsb
        go_wp2_with (go_at_call 114; refine (i_IsNumber _ _).mono ?_; rintro e w' ⟨rfl, rfl⟩; rw [hkb])
        go_ret
        exact ⟨ret_int HR.out.symm, B2.out⟩
end Go.Proofs.Ytgnmnpjbmdifbaa
