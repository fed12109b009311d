/- Walks: EvaluateVectors of both. -/
import Derived.Test.YtgnmnpjbmdifbaaVec2
import Derived.Test.YtgnmnpjbmdifbaaPlus
set_option maxRecDepth 100000
set_option linter.unusedVariables false
set_option linter.unusedSimpArgs false
namespace Go.Proofs.Ytgnmnpjbmdifbaa
open Go.RowKit

/-- the sum of the vectors scaled -/
def evTo (k : Int) (xss : List (List Int)) (m : Nat) : Nat → List Int
  | 0 => List.replicate m 0
  | j + 1 => addk (pw k j) (evTo k xss m j) (xss.getD j [])
theorem addk_len (k : Int) (a b : List Int) : (addk k a b).length = a.length := by simp [addk, addTo]
theorem evTo_len (k : Int) (xss : List (List Int)) (m j : Nat) : (evTo k xss m j).length = m := by
  induction j with
  | zero => simp [evTo]
  | succ j ih => rw [evTo, addk_len, ih]
theorem evTo_nums (k : Int) (xss : List (List Int)) (m j : Nat) : Nums (evTo k xss m j) := by
  cases j with
  | zero => intro z hz; simp [evTo] at hz; omega
  | succ j => exact addTo_nums _ _ _ _
theorem addk_scl (k : Int) (a b : List Int) : addk 1 a (scl k b) = addk k a b := by
  unfold addk addTo
  refine List.map_congr_left fun i hi => ?_
  have e : (scl k b).getD i 0 = b.getD i 0 * k % 10007 := by
    simp only [scl, List.getD, List.getElem?_map]
    cases b[i]? <;> simp
  rw [e, Int.one_mul, Int.add_emod, Int.emod_emod_of_dvd _ (Int.dvd_refl _), ← Int.add_emod, Int.mul_comm k]
/-- what EvaluateVectors answers -/
def evR (n : Int) (pss : List (List Mono)) (xss : List (List Int)) (k : Int) : List Int := if chkSN n pss xss k = 0 then evTo k xss n.toNat xss.length else []

set_option maxHeartbeats 2000000 in
theorem i_EvaluateVectors (w : World) (v : Value) (n : Int) (pss : List (List Mono)) (u : Value) (xss : List (List Int)) (k : Int) (hf : FieldArg w v n pss) (hs : ∀ ms ∈ pss, ∀ m ∈ ms, m.2.length ≤ 4294967296) (ha : Rows w u xss) :
    Calls Try.prog 32 #[v, u, .int .i64 k] w fun e w' => ∃ r, e = .returned (.tuple #[r, .int .i64 (chkSN n pss xss k)]) ∧ OI w' w.heap.size w'.heap.size tI r (evR n pss xss k) ∧ Below w.heap.size w w' := by
  have HF := Lib.hid hf
  have HA := Lib.hid ha
  have HS := Lib.hid hs
  obtain ⟨vp, rfl, hn64, hP⟩ := hf
  obtain ⟨A, c, rfl, -, -, -⟩ := hP.open_
  obtain ⟨A', c', rfl, l1, l2, h3⟩ := ha.open_
  have H3 := Lib.hid h3
  have B0 := Lib.hid (below1 w (.cells #[.int .i64 n, .slice A pss.length c] 40))
  have K0 := Lib.hid (Blk.new w #[.int .i64 n, .slice A pss.length c] 40)
  clear ha hP hs h3
  have HR := Lib.hid (show evR n pss xss k = if chkSN n pss xss k = 0 then evTo k xss n.toNat xss.length else [] from rfl)
  have HSO := Lib.hid (show chkSN n pss xss k = 0 → SerOk n xss k from serOk)
  generalize evR n pss xss k = R at HR ⊢
  go_enter Try.func32, Try.ntmps32
  go_wp2_with fail
  refine (i_checkSeriesNumber _ _ n pss _ xss k (HF.out.below B0.out) HS.out (HA.out.below B0.out)).mono ?_
  rintro e w1 ⟨rfl, hb1⟩
  have B1 := Lib.hid (B0.out.trans (hb1.mono B0.out.size))
  have K1 := Lib.hid (K0.out.below hb1 K0.out.lt)
  clear hb1 B0 K0
  by_cases hz : chkSN n pss xss k = 0
  · have hO := HSO.out hz
    have hk0 := hO.k0
    have hk1 := hO.k1
    have HXL := Lib.hid hO.len
    have HRW := Lib.hid hO.row
    obtain ⟨m, hm⟩ : ∃ m : Nat, n = (m : Int) := ⟨n.toNat, by have := hO.n1; omega⟩
    have hn3 := hO.n3
    have hm3 : m ≤ 3 := by omega
    have HM := Lib.hid hm
    have HR2 := Lib.hid (show R = evTo k xss m xss.length by rw [HR.out, if_pos hz, hm]; simp)
    have HZ := Lib.hid hz
    have g0 : w1.cell? ⟨w.heap.size, 0, none⟩ = some (.int .i64 n) := K1.out.cell 0
    rw [hz]
    clear hz HR HSO hO hm
    go_wp2_with (at_make; refine wpList_mk rfl _ _ _ rfl _ _ _ T_int m _ HM.out rfl rfl (by omega) _ ?_; intro w2 hown hb hs2; have HOWN := Lib.hid hown; have HB2 := Lib.hid (B1.out.trans (hb.mono B1.out.size)); clear hown hb)
    clear g0
    have hl1 : w.heap.size ≤ w1.heap.size := B1.out.size
    go_loopw [9, 24] (fun o i wr => ∃ (j : Nat), j ≤ xss.length ∧ i = .int .i64 j ∧ OwnInts wr w.heap.size tI o (evTo k xss m j) ∧ Below w.heap.size w wr) (fun _ i _ => xss.length - (intOf i).toNat)
    case atStart => exact ⟨0, Nat.zero_le _, rfl, ⟨by simpa [evTo, ints] using HOWN.out.mono hl1, fun z hz => by simp [evTo] at hz; unfold In64; omega⟩, HB2.out⟩
    case round =>
      obtain ⟨j, hj, rfl, ht, hb⟩ := hrel
      clear HOWN HB2
      have HT := Lib.hid ht
      have HB := Lib.hid hb
      have hj7 : j ≤ 7 := by have := HXL.out; omega
      clear ht hb
      by_cases hlt : j < xss.length
      · obtain ⟨ad, u, zs, rfl, hz, hu, hc0⟩ := H3.out j hlt
        have hc : wr.cell? (ad.add j) = some u := by
          rw [HB.out.cell (by rw [block_add]; have := World.block_lt_of_cell? w _ hc0; rwa [block_add] at this)]; exact hc0
        have HU := Lib.hid (hu.below HB.out)
        have HRZ := Lib.hid (HRW.out zs (List.mem_of_getElem? hz))
        have HS2 := Lib.hid (show evTo k xss m (j + 1) = addk (pw k j) (evTo k xss m j) zs by rw [evTo]; simp [List.getD, hz])
        have hji : (j : Int) < (xss.length : Int) := by omega
        have HPB := Lib.hid (pw_bd k j)
        have HPM := Lib.hid (show pw k j % 10007 = pw k j by have := pw_bd k j; omega)
        have HEL := Lib.hid (evTo_len k xss m j)
        have HEN := Lib.hid (evTo_nums k xss m j)
        have HZL := Lib.hid (show zs.length = m by have h1 := HRZ.out.1; have h2 := HM.out; omega)
        clear hz hu hc0
        generalize evTo k xss m j = ev at HT HS2 HEL HEN
        go_wp2_with (first
          | (go_at_call 70; refine (i_pow _ _ _ hk0 (by omega) (by omega) (by omega)).mono ?_; rintro e w' ⟨rfl, rfl⟩; rw [Int.toNat_natCast])
          | (go_at_call 73; refine (i_plus _ _ _ ev zs _ HT.out.ints HU.out HEN.out HRZ.out.2 (by have h1 := HEL.out; have h2 := HZL.out; omega) (by have h1 := HEL.out; omega) (by have := HPB.out.1; omega) (by have := HPB.out.2; omega)).mono ?_; rintro e w5 ⟨r5, rfl, ho5, hb5⟩; rw [HPM.out] at ho5))
        go_roundw
        case rel =>
          refine ⟨j + 1, by omega, by go_num, ?_, HB.out.trans (hb5.mono HB.out.size)⟩
          rw [HS2.out]
          exact ho5.mono HB.out.size
        case measure => simp [intOf]; omega
      · have : j = xss.length := by omega
        subst this
        go_wp2_with fail
        go_ret2
        refine ⟨_, ret_tup HZ.out.symm, ?_, HB.out⟩
        rw [HR2.out]
        exact ⟨HT.out, HT.out.1.lt⟩
  · have HR2 := Lib.hid (HR.out.trans (if_neg hz))
    have hz2 : (chkSN n pss xss k != 0) = true := by simp [hz]
    generalize hcode : chkSN n pss xss k = code at hz2 ⊢
    have HCODE := Lib.hid hcode
    clear hcode hz HR HSO
    go_wp2_with fail
    go_ret2
    refine ⟨_, ret_tup HCODE.out.symm, ?_, B1.out⟩
    rw [HR2.out]
    exact OI.nil _ _ _ _

set_option maxHeartbeats 2000000 in
theorem s_EvaluateVectors (w : World) (v : Value) (n : Int) (pss : List (List Mono)) (u : Value) (xss : List (List Int)) (k : Int) (hf : FieldArg w v n pss) (hs : ∀ ms ∈ pss, ∀ m ∈ ms, m.2.length ≤ 4294967296) (ha : Rows w u xss) :
    Calls Try.prog 31 #[v, u, .int .i64 k] w fun e w' => ∃ r, e = .returned (.tuple #[r, .int .i64 (chkSN n pss xss k)]) ∧ OI w' w.heap.size w'.heap.size tI r (evR n pss xss k) ∧ Below w.heap.size w w' := by
  have HF := Lib.hid hf
  have HA := Lib.hid ha
  have HS := Lib.hid hs
  obtain ⟨vp, rfl, hn64, hP⟩ := hf
  obtain ⟨A, c, rfl, -, -, -⟩ := hP.open_
  obtain ⟨A', c', rfl, l1, l2, -⟩ := ha.open_
  have B0 := Lib.hid (below1 w (.cells #[.int .i64 n, .slice A pss.length c] 40))
  have K0 := Lib.hid (Blk.new w #[.int .i64 n, .slice A pss.length c] 40)
  clear ha hP hs
  have HR := Lib.hid (show evR n pss xss k = if chkSN n pss xss k = 0 then evTo k xss n.toNat xss.length else [] from rfl)
  have HSO := Lib.hid (show chkSN n pss xss k = 0 → SerOk n xss k from serOk)
  generalize evR n pss xss k = R at HR ⊢
  go_enter Try.func31, Try.ntmps31
  go_wp2_with fail
  refine (s_l14Code _ _ n pss _ xss k (HF.out.below B0.out) HS.out (HA.out.below B0.out)).mono ?_
  rintro e w1 ⟨rfl, hb1⟩
  have B1 := Lib.hid (B0.out.trans (hb1.mono B0.out.size))
  have K1 := Lib.hid (K0.out.below hb1 K0.out.lt)
  clear hb1 B0 K0
  by_cases hz : chkSN n pss xss k = 0
  · have hO := HSO.out hz
    have HO := Lib.hid hO
    have HXL := Lib.hid hO.len
    have HRW := Lib.hid hO.row
    obtain ⟨m, hm⟩ : ∃ m : Nat, n = (m : Int) := ⟨n.toNat, by have := hO.n1; omega⟩
    have hn3 := hO.n3
    have hm3 : m ≤ 3 := by omega
    have HM := Lib.hid hm
    have HR2 := Lib.hid (show R = evTo k xss m xss.length by rw [HR.out, if_pos hz, hm]; simp)
    have HZ := Lib.hid hz
    rw [hz]
    clear hz HR HSO hO hm
    go_wp2_with fail
    refine (s_l14Scale _ _ xss k n (HA.out.below B1.out) HO.out).mono ?_
    rintro e w2 ⟨r2, rfl, ho2, hb2⟩
    have HRR := Lib.hid ho2.rows
    have K2 := Lib.hid (K1.out.below hb2 K1.out.lt)
    have B2 := Lib.hid (B1.out.trans (hb2.mono B1.out.size))
    obtain ⟨A2, c2, hv2, l3, l4, h3⟩ := HRR.out.open_
    rw [sclTo_len] at hv2 l3
    subst hv2
    have H3 := Lib.hid h3
    have g0 : w2.cell? ⟨w.heap.size, 0, none⟩ = some (.int .i64 n) := K2.out.cell 0
    clear ho2 hb2 h3 B1 K1
    go_wp2_with (at_make; refine wpList_mk rfl _ _ _ rfl _ _ _ T_int m _ HM.out rfl rfl (by omega) _ ?_; intro w3 hown hb hs2; have HOWN := Lib.hid hown; have HB3 := Lib.hid hb; clear hown hb)
    clear g0
    have hl1 : w.heap.size ≤ w2.heap.size := B2.out.size
    go_loopw [10, 11] (fun o i wr => ∃ (j : Nat), j ≤ xss.length ∧ i = .int .i64 j ∧ OwnInts wr w.heap.size tI o (evTo k xss m j) ∧ Below w2.heap.size w2 wr) (fun _ i _ => xss.length - (intOf i).toNat)
    case atStart => exact ⟨0, Nat.zero_le _, rfl, ⟨by simpa [evTo, ints] using HOWN.out.mono hl1, fun z hz => by simp [evTo] at hz; unfold In64; omega⟩, HB3.out⟩
    case round =>
      obtain ⟨j, hj, rfl, ht, hb⟩ := hrel
      clear HOWN HB3
      have HT := Lib.hid ht
      have HB := Lib.hid hb
      have hj7 : j ≤ 7 := by have := HXL.out; omega
      clear ht hb
      by_cases hlt : j < xss.length
      · obtain ⟨ad, u, zs, rfl, hz, hu, hc0⟩ := H3.out j (by rw [sclTo_len]; exact hlt)
        have hc : wr.cell? (ad.add j) = some u := by
          rw [HB.out.cell (by rw [block_add]; have := World.block_lt_of_cell? w2 _ hc0; rwa [block_add] at this)]; exact hc0
        have HU := Lib.hid (hu.below HB.out)
        have hxj : xss[j]? = some (xss[j]'hlt) := List.getElem?_eq_getElem _
        generalize xss[j]'hlt = ys at hxj
        have hzs : zs = scl (pw k j) ys := by
          simp only [sclTo, List.getElem?_map, List.getElem?_range hlt, Option.map_some, Option.some.injEq, List.getD, hxj, Option.getD_some] at hz
          exact hz.symm
        have HRZ := Lib.hid (HRW.out ys (List.mem_of_getElem? hxj))
        have HS2 := Lib.hid (show evTo k xss m (j + 1) = addk 1 (evTo k xss m j) zs by rw [evTo, hzs, addk_scl]; simp [List.getD, hxj])
        have HZN := Lib.hid (show Nums zs by rw [hzs]; exact scl_nums _ _)
        have hji : (j : Int) < (xss.length : Int) := by omega
        have HEL := Lib.hid (evTo_len k xss m j)
        have HEN := Lib.hid (evTo_nums k xss m j)
        have HZL := Lib.hid (show zs.length = m by rw [hzs, scl_len]; have h1 := HRZ.out.1; have h2 := HM.out; omega)
        clear hz hu hc0 hzs hxj
        generalize evTo k xss m j = ev at HT HS2 HEL HEN
        go_wp2_with (go_at_call 72; refine (s_l02Add _ _ _ ev zs HT.out.ints HU.out HEN.out HZN.out (by have h1 := HEL.out; have h2 := HZL.out; omega) (by have h1 := HEL.out; omega)).mono ?_; rintro e w5 ⟨r5, rfl, ho5, hb5⟩)
        go_roundw
        case rel =>
          refine ⟨j + 1, by omega, by go_num, ?_, HB.out.trans (hb5.mono HB.out.size)⟩
          rw [HS2.out]
          exact ho5.mono (Nat.le_trans hl1 HB.out.size)
        case measure => simp [intOf]; omega
      · have : j = xss.length := by omega
        subst this
        go_wp2_with fail
        go_ret2
        refine ⟨_, ret_tup HZ.out.symm, ?_, B2.out.trans (HB.out.mono hl1)⟩
        rw [HR2.out]
        exact ⟨HT.out, HT.out.1.lt⟩
  · have HR2 := Lib.hid (HR.out.trans (if_neg hz))
    have hz2 : (chkSN n pss xss k != 0) = true := by simp [hz]
    generalize hcode : chkSN n pss xss k = code at hz2 ⊢
    have HCODE := Lib.hid hcode
    clear hcode hz HR HSO
    go_wp2_with fail
    go_ret2
    refine ⟨_, ret_tup HCODE.out.symm, ?_, B1.out⟩
    rw [HR2.out]
    exact OI.nil _ _ _ _
end Go.Proofs.Ytgnmnpjbmdifbaa
