/- Walks: ScaleVectors of both. -/
import Derived.Test.YtgnmnpjbmdifbaaVec
import Derived.Test.YtgnmnpjbmdifbaaTwo
import Derived.Test.YtgnmnpjbmdifbaaScaleP
set_option maxRecDepth 100000
set_option linter.unusedVariables false
set_option linter.unusedSimpArgs false
namespace Go.Proofs.Ytgnmnpjbmdifbaa
open Go.RowKit

set_option maxHeartbeats 400000 in
theorem s_l13Point (w : World) (n : Int) (v : Value) (zs : List Int) (ha : Ints w v zs) :
    Calls Try.prog 121 #[.int .i64 n, v] w fun e w' => e = .returned (.bool (vecB n zs)) ∧ w = w' := by
  have HA := Lib.hid ha
  obtain ⟨A, c, rfl, -, -, -⟩ := ha.open_
  clear ha
  by_cases hl : (zs.length : Int) = n
  · have HF := Lib.hid (show vecB n zs = nums zs by simp [vecB, hl])
    have hd : ((zs.length : Int) == n) = true := by simp [hl]
    have HL := Lib.hid hl
    clear hl
    go_enter Try.func121, Try.ntmps121
    go_wp2_with (go_at_call 93; refine (s_l01Numbers _ _ zs HA.out).mono ?_; rintro e w' ⟨rfl, rfl⟩)
    go_ret
    exact ⟨ret_bool HF.out.symm, rfl⟩
  · have HF := Lib.hid (show vecB n zs = false by simp [vecB, hl])
    have hd : ((zs.length : Int) == n) = false := by simp [hl]
    clear hl
    go_enter Try.func121, Try.ntmps121
    go_wp2_with fail
    go_ret
    exact ⟨ret_bool HF.out.symm, rfl⟩

theorem serB_no {n : Int} {xss : List (List Int)} {k : Nat} {zs : List Int} (h : xss[k]? = some zs) (hz : vecB n zs = false) : serB n xss = false := by
  have : xss.all (vecB n) = false := by rw [List.all_eq_false]; exact ⟨zs, List.mem_of_getElem? h, by rw [hz]; simp⟩
  simp [serB, this]
theorem serB_yes {n : Int} {xss : List (List Int)} (hl : xss.length = 7) (h : ∀ i zs, i < xss.length → xss[i]? = some zs → vecB n zs = true) : serB n xss = true := by
  have : xss.all (vecB n) = true := by
    rw [List.all_eq_true]
    intro zs hz
    obtain ⟨i, hi, rfl⟩ := List.getElem_of_mem hz
    exact h i _ hi (List.getElem?_eq_getElem hi)
  simp only [serB, this, hl, decide_true, Bool.and_self]

set_option maxHeartbeats 1000000 in
theorem s_l14Series (w : World) (n : Int) (v : Value) (xss : List (List Int)) (ha : Rows w v xss) :
    Calls Try.prog 75 #[.int .i64 n, v] w fun e w' => e = .returned (.bool (serB n xss)) ∧ w = w' := by
  obtain ⟨A, c, rfl, h1, h2, h3⟩ := ha.open_
  have H3 := Lib.hid h3
  clear ha h3
  by_cases hl : xss.length = 7
  · have hd : ((xss.length : Int) != 7) = false := by simp [hl]
    have HL := Lib.hid hl
    clear hl
    go_enter Try.func75, Try.ntmps75
    go_wp2_with fail
    go_loop [5] (fun i => ∃ k : Nat, k ≤ xss.length ∧ i = .int .i64 k ∧ Hid (∀ i y, i < k → xss[i]? = some y → vecB n y = true)) (fun i => xss.length - (intOf i).toNat)
    case atStart => exact ⟨0, Nat.zero_le _, rfl, fun i y h => by omega⟩
    case round =>
      obtain ⟨k, hk, rfl, hI⟩ := hrel
      by_cases hlt : k < xss.length
      · obtain ⟨ad, u, zs, rfl, hz, hu, hc⟩ := H3.out k hlt
        have HZ := Lib.hid hz
        have HU := Lib.hid hu
        clear hz hu
        cases hvb : vecB n zs with
        | false =>
          have HF := Lib.hid (serB_no HZ.out hvb)
          go_wp2_with (go_at_call 121; refine (s_l13Point _ n _ zs HU.out).mono ?_; rintro e w' ⟨rfl, rfl⟩; rw [hvb])
          go_ret
          exact ⟨ret_bool HF.out.symm, rfl⟩
        | true =>
          go_wp2_with (go_at_call 121; refine (s_l13Point _ n _ zs HU.out).mono ?_; rintro e w' ⟨rfl, rfl⟩; rw [hvb])
          go_round
          case rel =>
            refine ⟨k + 1, by omega, by go_num, fun i y hi hy => ?_⟩
            by_cases e : i = k
            · subst e
              rw [HZ.out] at hy
              cases hy
              exact hvb
            · exact hI.out i y (by omega) hy
          case measure => simp [intOf]; omega
      · have : k = xss.length := by omega
        subst this
        have HF := Lib.hid (serB_yes HL.out hI.out)
        go_wp2_with fail
        go_ret
        exact ⟨ret_bool HF.out.symm, rfl⟩
  · have hd : ((xss.length : Int) != 7) = true := by simp; omega
    have HF := Lib.hid (show serB n xss = false by simp [serB, hl])
    clear hl
    go_enter Try.func75, Try.ntmps75
    go_wp2_with fail
    go_ret
    exact ⟨ret_bool HF.out.symm, rfl⟩

set_option maxHeartbeats 1000000 in
theorem s_l14Code (w : World) (v : Value) (n : Int) (pss : List (List Mono)) (u : Value) (xss : List (List Int)) (k : Int) (hf : FieldArg w v n pss) (hs : ∀ ms ∈ pss, ∀ m ∈ ms, m.2.length ≤ 4294967296) (ha : Rows w u xss) :
    Calls Try.prog 66 #[v, u, .int .i64 k] w fun e w' => e = .returned (.int .i64 (chkSN n pss xss k)) ∧ Below w.heap.size w w' := by
  have HF := Lib.hid hf
  have HA := Lib.hid ha
  have HS := Lib.hid hs
  obtain ⟨vp, rfl, hn64, hP⟩ := hf
  obtain ⟨A, c, rfl, -, -, -⟩ := hP.open_
  obtain ⟨A', c', rfl, -, -, -⟩ := ha.open_
  have B0 := Lib.hid (below1 w (.cells #[.int .i64 n, .slice A pss.length c] 40))
  have K0 := Lib.hid (Blk.new w #[.int .i64 n, .slice A pss.length c] 40)
  clear ha hP hs
  go_enter Try.func66, Try.ntmps66
  go_wp2_with fail
  refine (s_l13Is _ _ n pss (HF.out.below B0.out) HS.out).mono ?_
  rintro e w1 ⟨rfl, hb1⟩
  have B1 := Lib.hid (B0.out.trans (hb1.mono B0.out.size))
  have K1 := Lib.hid (K0.out.below hb1 K0.out.lt)
  have g0 : w1.cell? ⟨w.heap.size, 0, none⟩ = some (.int .i64 n) := K1.out.cell 0
  clear hb1 K0 B0
  cases hfb : fieldB n pss with
  | false =>
    have HR := Lib.hid (show chkSN n pss xss k = 1 by simp [chkSN, hfb])
    clear hfb
    go_wp2_with fail
    go_ret
    exact ⟨ret_int HR.out.symm, B1.out⟩
  | true =>
    cases hsb : serB n xss with
    | false =>
      have HR := Lib.hid (show chkSN n pss xss k = 2 by simp [chkSN, hfb, hsb])
      clear hfb
      go_wp2_with (go_at_call 75; refine (s_l14Series _ n _ xss (HA.out.below B1.out)).mono ?_; rintro e w' ⟨rfl, rfl⟩; rw [hsb])
      go_ret
      exact ⟨ret_int HR.out.symm, B1.out⟩
    | true =>
      cases hkb : isNum k with
      | false =>
        have HR := Lib.hid (show chkSN n pss xss k = 2 by simp [chkSN, hfb, hsb, hkb])
        clear hfb
        go_wp2_with (first | (go_at_call 75; refine (s_l14Series _ n _ xss (HA.out.below B1.out)).mono ?_; rintro e w' ⟨rfl, rfl⟩; rw [hsb]) | (go_at_call 117; refine (s_IsNumber _ _).mono ?_; rintro e w' ⟨rfl, rfl⟩; rw [hkb]))
        go_ret
        exact ⟨ret_int HR.out.symm, B1.out⟩
      | true =>
        have HR := Lib.hid (show chkSN n pss xss k = 0 by simp [chkSN, hfb, hsb, hkb])
        clear hfb
        go_wp2_with (first | (go_at_call 75; refine (s_l14Series _ n _ xss (HA.out.below B1.out)).mono ?_; rintro e w' ⟨rfl, rfl⟩; rw [hsb]) | (go_at_call 117; refine (s_IsNumber _ _).mono ?_; rintro e w' ⟨rfl, rfl⟩; rw [hkb]))
        go_ret
        exact ⟨ret_int HR.out.symm, B1.out⟩

/-- the vectors scaled -/
def sclTo (k : Int) (xss : List (List Int)) (j : Nat) : List (List Int) := (List.range j).map fun i => scl (pw k i) (xss.getD i [])
theorem sclTo_succ {k : Int} {xss : List (List Int)} {j : Nat} {zs : List Int} (h : xss[j]? = some zs) : sclTo k xss (j + 1) = sclTo k xss j ++ [scl (pw k j) zs] := by
  unfold sclTo
  rw [List.range_succ, List.map_append]
  simp [List.getD, h]
theorem sclTo_len (k : Int) (xss : List (List Int)) (j : Nat) : (sclTo k xss j).length = j := by simp [sclTo]
/-- what is known of a series that was checked -/
structure SerOk (n : Int) (xss : List (List Int)) (k : Int) : Prop where
  len : xss.length = 7
  row : ∀ zs ∈ xss, (zs.length : Int) = n ∧ Nums zs
  k0 : 0 ≤ k
  k1 : k ≤ 10006
  n1 : 1 ≤ n
  n3 : n ≤ 3
theorem serOk {n : Int} {pss : List (List Mono)} {xss : List (List Int)} {k : Int} (h : chkSN n pss xss k = 0) : SerOk n xss k := by
  unfold chkSN at h
  by_cases h1 : fieldB n pss = true
  · rw [if_pos h1] at h
    by_cases h2 : (serB n xss && isNum k) = true
    · simp only [Bool.and_eq_true] at h2
      obtain ⟨h3, h4⟩ := h2
      simp only [serB, Bool.and_eq_true, decide_eq_true_eq, List.all_eq_true] at h3
      have h5 := inR_iff.1 h4
      have h6 : inR n 1 3 = true := by simp only [fieldB, Bool.and_eq_true] at h1; exact h1.1
      have h7 := inR_iff.1 h6
      refine ⟨h3.1, fun zs hz => ?_, h5.1, h5.2, h7.1, h7.2⟩
      have := h3.2 zs hz
      simp only [vecB, Bool.and_eq_true, decide_eq_true_eq] at this
      exact ⟨this.1, nums_iff.1 this.2⟩
    · rw [if_neg h2] at h; cases h
  · rw [if_neg h1] at h; cases h

set_option maxHeartbeats 2000000 in
theorem s_l14Scale (w : World) (v : Value) (xss : List (List Int)) (k n : Int) (ha : Rows w v xss) (hO : SerOk n xss k) :
    Calls Try.prog 67 #[v, .int .i64 k] w fun e w' => ∃ r, e = .returned r ∧ OR w' w.heap.size w'.heap.size tL tI r (sclTo k xss xss.length) ∧ Below w.heap.size w w' := by
  obtain ⟨A, c, rfl, l1, l2, h3⟩ := ha.open_
  have H3 := Lib.hid h3
  have hk0 := hO.k0
  have hk1 := hO.k1
  have HXL := Lib.hid hO.len
  have HRW := Lib.hid hO.row
  have hn3 := hO.n3
  clear ha h3 hO
  have OL := Lib.hid (show Two (w.alloc (.cells #[] tL)) w.heap.size (.slice (some ⟨w.heap.size, 0, none⟩) 0 0) (.slice none 0 0) [] [] [] from ⟨own_lit w tL [] (by simp [maxLen]), RowsOwn.nil _ _ _ _, OwnInts.nil _ _ _, fun k u hu => by simp at hu⟩)
  go_enter Try.func67, Try.ntmps67
  go_wp2_with fail
  go_loopw [5, 6] (fun o i wr => ∃ (j : Nat) (vs : List Value), j ≤ xss.length ∧ i = .int .i64 j ∧ Two wr w.heap.size o (.slice none 0 0) vs (sclTo k xss j) [] ∧ Below w.heap.size w wr) (fun _ i _ => xss.length - (intOf i).toNat)
  case atStart => exact ⟨0, [], Nat.zero_le _, rfl, OL.out, below1 _ _⟩
  case round =>
    obtain ⟨j, vs, hj, rfl, ht, hb⟩ := hrel
    clear OL
    have HT := Lib.hid ht
    have HB := Lib.hid hb
    have hvl : vs.length ≤ 7 := by have := ht.rows.1; rw [sclTo_len] at this; have := HXL.out; omega
    have hj7 : j ≤ 7 := by have := HXL.out; omega
    clear ht hb
    by_cases hlt : j < xss.length
    · obtain ⟨ad, u, zs, rfl, hz, hu, hc0⟩ := H3.out j hlt
      have hc : wr.cell? (ad.add j) = some u := by
        rw [HB.out.cell (by rw [block_add]; have := World.block_lt_of_cell? w _ hc0; rwa [block_add] at this)]; exact hc0
      have HU := Lib.hid (hu.below HB.out)
      have HRZ := Lib.hid (HRW.out zs (List.mem_of_getElem? hz))
      have HS := Lib.hid (sclTo_succ (k := k) hz)
      have hji : (j : Int) < (xss.length : Int) := by omega
      have HPB := Lib.hid (pw_bd k j)
      clear hz hu hc0
      go_wp2_with fail
      go_region_law (first
        | (refine step_app1 T_row (B := w.heap.size) (v := _) (vs := vs) (HT.out.own.below (below_of_drew hb5)) (by omega) (by have h1 := HB.out.size; have h2 := hb5.size; simp at h2; omega) (by rfl) rfl (by rfl) (by rfl) (by rfl) ?_; intro v1 w1 hown1 hgr1)
        | (go_simp; go_at_call 118; refine (s_l01Pow _ _ _ hk0 (by omega) (by omega) (by omega)).mono ?_; rintro e w' ⟨rfl, rfl⟩; rw [Int.toNat_natCast])
        | (go_simp; go_at_call 77; refine (s_l02Times _ _ zs _ (by exact HU.out) HRZ.out.2 (by have := HRZ.out.1; omega) HPB.out.1 HPB.out.2).mono ?_; rintro e w5 ⟨r5, rfl, ho5, hb5⟩; obtain ⟨A5, c5, hv5, -, -, -⟩ := ho5.ints.open_; rw [scl_len] at hv5; subst hv5))
      all_goals
        have HB5 := Lib.hid (below_of_drew hb5)
        have HO5 := Lib.hid ho5
        have HW1 := Lib.hid hown1
        have HG1 := Lib.hid hgr1
        clear hb5 ho5 hown1 hgr1 hc
        go_wp2_with fail
        go_roundw
        case rel =>
          refine ⟨j + 1, vs ++ [.slice A5 zs.length c5], by omega, by go_num, ?_, HG1.out.below (HB.out.trans (HB5.out.mono HB.out.size)) (Nat.le_trans HB.out.size HB5.out.size) HT.out.own.ge⟩
          rw [HS.out]
          exact HT.out.addA' HB5.out HB.out.size HO5.out HW1.out HG1.out
        case measure => simp [intOf]; omega
    · have : j = xss.length := by omega
      subst this
      go_wp2_with fail
      go_ret
      exact ⟨_, rfl, ⟨vs, HT.out.own, HT.out.own.lt, HT.out.rows⟩, HB.out⟩

theorem ret_tup {v : Value} {a b : Int} (h : a = b) : Ending.returned (.tuple #[v, .int .i64 a]) = .returned (.tuple #[v, .int .i64 b]) := by rw [h]

/-- what ScaleVectors answers -/
def svR (n : Int) (pss : List (List Mono)) (xss : List (List Int)) (k : Int) : List (List Int) := if chkSN n pss xss k = 0 then sclTo k xss xss.length else []

set_option maxHeartbeats 1000000 in
theorem s_ScaleVectors (w : World) (v : Value) (n : Int) (pss : List (List Mono)) (u : Value) (xss : List (List Int)) (k : Int) (hf : FieldArg w v n pss) (hs : ∀ ms ∈ pss, ∀ m ∈ ms, m.2.length ≤ 4294967296) (ha : Rows w u xss) :
    Calls Try.prog 24 #[v, u, .int .i64 k] w fun e w' => ∃ r, e = .returned (.tuple #[r, .int .i64 (chkSN n pss xss k)]) ∧ OR w' w.heap.size w'.heap.size tL tI r (svR n pss xss k) ∧ Below w.heap.size w w' := by
  have HF := Lib.hid hf
  have HA := Lib.hid ha
  have HS := Lib.hid hs
  obtain ⟨vp, rfl, hn64, hP⟩ := hf
  obtain ⟨A, c, rfl, -, -, -⟩ := hP.open_
  obtain ⟨A', c', rfl, -, -, -⟩ := ha.open_
  have B0 := Lib.hid (below1 w (.cells #[.int .i64 n, .slice A pss.length c] 40))
  clear ha hP hs
  have HR := Lib.hid (show svR n pss xss k = if chkSN n pss xss k = 0 then sclTo k xss xss.length else [] from rfl)
  have HSO := Lib.hid (show chkSN n pss xss k = 0 → SerOk n xss k from serOk)
  generalize svR n pss xss k = R at HR ⊢
  go_enter Try.func24, Try.ntmps24
  go_wp2_with fail
  refine (s_l14Code _ _ n pss _ xss k (HF.out.below B0.out) HS.out (HA.out.below B0.out)).mono ?_
  rintro e w1 ⟨rfl, hb1⟩
  have B1 := Lib.hid (B0.out.trans (hb1.mono B0.out.size))
  clear hb1 B0
  by_cases hz : chkSN n pss xss k = 0
  · have HO := Lib.hid (HSO.out hz)
    have HR2 := Lib.hid (HR.out.trans (if_pos hz))
    have HZ := Lib.hid hz
    rw [hz]
    clear hz HR HSO
    go_wp2_with (go_at_call 67; refine (s_l14Scale _ _ xss k n (HA.out.below B1.out) HO.out).mono ?_; rintro e w2 ⟨r2, rfl, ho2, hb2⟩)
    go_ret2
    refine ⟨_, ret_tup HZ.out.symm, ?_, B1.out.trans (hb2.mono B1.out.size)⟩
    rw [HR2.out]
    exact ho2.mono B1.out.size (Nat.le_refl _)
  · have HR2 := Lib.hid (HR.out.trans (if_neg hz))
    have hz2 : (chkSN n pss xss k != 0) = true := by simp [hz]
    generalize hcode : chkSN n pss xss k = code at hz2 ⊢
    have HCODE := Lib.hid hcode
    clear hcode
    clear hz HR HSO
    go_wp2_with fail
    go_ret2
    refine ⟨_, ret_tup HCODE.out.symm, ?_, B1.out⟩
    rw [HR2.out]
    exact OR.nil _ _ _ _ _

set_option maxHeartbeats 2000000 in
theorem i_ScaleVectors (w : World) (v : Value) (n : Int) (pss : List (List Mono)) (u : Value) (xss : List (List Int)) (k : Int) (hf : FieldArg w v n pss) (hs : ∀ ms ∈ pss, ∀ m ∈ ms, m.2.length ≤ 4294967296) (ha : Rows w u xss) :
    Calls Try.prog 26 #[v, u, .int .i64 k] w fun e w' => ∃ r, e = .returned (.tuple #[r, .int .i64 (chkSN n pss xss k)]) ∧ OR w' w.heap.size w'.heap.size tL tI r (svR n pss xss k) ∧ Below w.heap.size w w' := by
  have HF := Lib.hid hf
  have HA := Lib.hid ha
  have HS := Lib.hid hs
  obtain ⟨vp, rfl, hn64, hP⟩ := hf
  obtain ⟨A, c, rfl, -, -, -⟩ := hP.open_
  obtain ⟨A', c', rfl, l1, l2, h3⟩ := ha.open_
  have H3 := Lib.hid h3
  have B0 := Lib.hid (below1 w (.cells #[.int .i64 n, .slice A pss.length c] 40))
  clear ha hP hs h3
  have HR := Lib.hid (show svR n pss xss k = if chkSN n pss xss k = 0 then sclTo k xss xss.length else [] from rfl)
  have HSO := Lib.hid (show chkSN n pss xss k = 0 → SerOk n xss k from serOk)
  generalize svR n pss xss k = R at HR ⊢
  go_enter Try.func26, Try.ntmps26
  go_wp2_with fail
  refine (i_checkSeriesNumber _ _ n pss _ xss k (HF.out.below B0.out) HS.out (HA.out.below B0.out)).mono ?_
  rintro e w1 ⟨rfl, hb1⟩
  have B1 := Lib.hid (B0.out.trans (hb1.mono B0.out.size))
  clear hb1 B0
  by_cases hz : chkSN n pss xss k = 0
  · have hO := HSO.out hz
    have hk0 := hO.k0
    have hk1 := hO.k1
    have HXL := Lib.hid hO.len
    have HRW := Lib.hid hO.row
    have hn3 := hO.n3
    have HR2 := Lib.hid (HR.out.trans (if_pos hz))
    have HZ := Lib.hid hz
    rw [hz]
    clear hz HR HSO hO
    go_wp2_with fail
    have OL := Lib.hid (show Two (w1.alloc (.cells #[] tL)) w.heap.size (.slice (some ⟨w1.heap.size, 0, none⟩) 0 0) (.slice none 0 0) [] [] [] from ⟨(own_lit w1 tL [] (by simp [maxLen])).mono B1.out.size, RowsOwn.nil _ _ _ _, OwnInts.nil _ _ _, fun k u hu => by simp at hu⟩)
    have B2 := Lib.hid (B1.out.alloc B1.out.size (.cells #[] tL))
    go_loopw [9, 22] (fun o i wr => ∃ (j : Nat) (vs : List Value), j ≤ xss.length ∧ i = .int .i64 j ∧ Two wr w.heap.size o (.slice none 0 0) vs (sclTo k xss j) [] ∧ Below w.heap.size w wr) (fun _ i _ => xss.length - (intOf i).toNat)
    case atStart => exact ⟨0, [], Nat.zero_le _, rfl, OL.out, B2.out⟩
    case round =>
      obtain ⟨j, vs, hj, rfl, ht, hb⟩ := hrel
      clear OL B2
      have HT := Lib.hid ht
      have HB := Lib.hid hb
      have hvl : vs.length ≤ 7 := by have := ht.rows.1; rw [sclTo_len] at this; have := HXL.out; omega
      have hj7 : j ≤ 7 := by have := HXL.out; omega
      clear ht hb
      by_cases hlt : j < xss.length
      · obtain ⟨ad, u, zs, rfl, hz, hu, hc0⟩ := H3.out j hlt
        have hc : wr.cell? (ad.add j) = some u := by
          rw [HB.out.cell (by rw [block_add]; have := World.block_lt_of_cell? w _ hc0; rwa [block_add] at this)]; exact hc0
        have HU := Lib.hid (hu.below HB.out)
        have HRZ := Lib.hid (HRW.out zs (List.mem_of_getElem? hz))
        have HS2 := Lib.hid (sclTo_succ (k := k) hz)
        have hji : (j : Int) < (xss.length : Int) := by omega
        have HPB := Lib.hid (pw_bd k j)
        have HPM := Lib.hid (show pw k j % 10007 = pw k j by have := pw_bd k j; omega)
        clear hz hu hc0
        go_wp2_with (first
          | (go_at_call 70; refine (i_pow _ _ _ hk0 (by omega) (by omega) (by omega)).mono ?_; rintro e w' ⟨rfl, rfl⟩; rw [Int.toNat_natCast])
          | (go_at_call 69; refine (i_scaled _ _ zs _ HU.out HRZ.out.2 (by have := HRZ.out.1; omega) (by have := HPB.out.1; omega) (by have := HPB.out.2; omega)).mono ?_; rintro e w5 ⟨r5, rfl, ho5, hb5⟩; rw [HPM.out] at ho5; obtain ⟨A5, c5, hv5, -, -, -⟩ := ho5.ints.open_; rw [scl_len] at hv5; subst hv5)
          | (at_builtin; refine wpList_app1 T_row (HT.out.own.below hb5) (by omega) (Nat.le_trans HB.out.size hb5.size) (by rfl) rfl (by rfl) (by rfl) (by rfl) ?_; intro v1 w1 hown1 hgr1))
        go_roundw
        case rel =>
          refine ⟨j + 1, vs ++ [.slice A5 zs.length c5], by omega, by go_num, ?_, hgr1.below (HB.out.trans (hb5.mono HB.out.size)) (Nat.le_trans HB.out.size hb5.size) HT.out.own.ge⟩
          rw [HS2.out]
          exact HT.out.addA' hb5 HB.out.size ho5 hown1 hgr1
        case measure => simp [intOf]; omega
      · have : j = xss.length := by omega
        subst this
        go_wp2_with fail
        go_ret2
        refine ⟨_, ret_tup HZ.out.symm, ?_, HB.out⟩
        rw [HR2.out]
        exact ⟨vs, HT.out.own, HT.out.own.lt, HT.out.rows⟩
  · have HR2 := Lib.hid (HR.out.trans (if_neg hz))
    have hz2 : (chkSN n pss xss k != 0) = true := by simp [hz]
    generalize hcode : chkSN n pss xss k = code at hz2 ⊢
    have HCODE := Lib.hid hcode
    clear hcode
    clear hz HR HSO
    go_wp2_with fail
    go_ret2
    refine ⟨_, ret_tup HCODE.out.symm, ?_, B1.out⟩
    rw [HR2.out]
    exact OR.nil _ _ _ _ _
end Go.Proofs.Ytgnmnpjbmdifbaa
