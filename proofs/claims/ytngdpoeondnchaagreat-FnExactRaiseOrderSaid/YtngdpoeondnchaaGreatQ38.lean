/- Walks: ExtrapolateMap of the program and of the reference. | The law FnExactExtrapolateMap. | Arguments that came in, opened to the words of the Mem text. -/
import Derived.Test.YtngdpoeondnchaaGreatQ37
import Derived.Test.YtngdpoeondnchaaGreatQ34
import Derived.Test.YtngdpoeondnchaaGreatQ2
import Derived.Test.YtngdpoeondnchaaGreatRows
import Derived.Test.YtngdpoeondnchaaGreatQ1
import Derived.WalkKit
import Derived.ProofKit
import Derived.OpenShut
set_option maxRecDepth 100000
set_option linter.unusedVariables false
set_option linter.unusedSimpArgs false
namespace Go.Proofs.YtngdpoeondnchaaGreat
open Go.RowKit

noncomputable def exT (a : List Int) (k : Int) : Int := pw k (agZ a EX).toNat
noncomputable def exI (a : List Int) (k : Int) : Int := pw ((exT a k - 1) % 10007) 10005
noncomputable def exF (a : List Int) (k : Int) : List Int := itC (scZ a (pw k 10005)) k.toNat
noncomputable def exC (a : List Int) (k : Int) : Int := if agZ a EX = 0 ∨ exT a k = 1 then 5 else 0
noncomputable def exmC (a : List Int) (k : Int) : Int := if rfnC a k 2 = 0 then exC a k else rfnC a k 2
noncomputable def exL (a : List Int) (k : Int) : List Int := scl (exI a k) (addk 10006 (scl (exT a k) (exF a k)) a)
noncomputable def exmR (a : List Int) (k : Int) : List Int := if exmC a k = 0 then exL a k else []
theorem exF_len (a : List Int) (k : Int) : (exF a k).length = 38 := itC_len _ _
theorem exF_nums (a : List Int) (k : Int) : Nums (exF a k) := itC_nums (scZ_nums _ _) _
theorem exL_len (a : List Int) (k : Int) : (exL a k).length = 38 := by rw [exL, scl_len, addk, addTo_len, scl_len, exF_len]
theorem exmR_len (a : List Int) (k : Int) : (exmR a k).length ≤ 1048576 := by
  unfold exmR
  split
  · rw [exL_len]; omega
  · simp
theorem exT_bd (a : List Int) (k : Int) : 0 ≤ exT a k ∧ exT a k ≤ 10006 := pw_bd _ _
theorem exI_bd (a : List Int) (k : Int) : 0 ≤ exI a k ∧ exI a k ≤ 10006 := pw_bd _ _
set_option maxHeartbeats 16000000 in
theorem i_ExtrapolateMap (w : World) (va : Value) (a : List Int) (k : Int) (h1 : Ints w va a) (hk64 : In64 k) :
    Calls Tryz.prog 46 #[va, .int .i64 k] w fun e w' => ∃ x, e = .returned (.tuple #[x, .int .i64 (exmC a k)]) ∧ OwnInts w' w.heap.size tI x (exmR a k) ∧ Below w.heap.size w w' := by
  have HCH := Lib.hid (i_checkRefine w va a k 2 h1)
  have HA := Lib.hid h1
  obtain ⟨Aa, ca, rfl, -, -, -⟩ := h1.open_
  clear h1
  by_cases hc : rfnC a k 2 = 0
  · obtain ⟨l1, n1, u1, -, n, rfl, hn, hn1⟩ := rfnC_zero hc (by omega)
    rw [hc] at HCH
    rw [l1] at HA HCH ⊢
    have HE := Lib.hid (show exmC a n = exC a n from if_pos hc)
    have hag := agZ_bd a EX
    have hag0 := agZ_nonneg (a := a) (b := EX) (by rw [u1]; rfl)
    obtain ⟨g, hg⟩ : ∃ g, g = agZ a EX := ⟨_, rfl⟩
    obtain ⟨t, ht⟩ : ∃ t, t = exT a n := ⟨_, rfl⟩
    obtain ⟨iv, hiv⟩ : ∃ iv, iv = exI a n := ⟨_, rfl⟩
    obtain ⟨fn, hfn⟩ : ∃ fn, fn = exF a n := ⟨_, rfl⟩
    have htb : 0 ≤ t ∧ t ≤ 10006 := by rw [ht]; exact exT_bd _ _
    have hib : 0 ≤ iv ∧ iv ≤ 10006 := by rw [hiv]; exact exI_bd _ _
    have HFL := Lib.hid (show fn.length = 38 from by rw [hfn]; exact exF_len _ _)
    have HFN := Lib.hid (show Nums fn from by rw [hfn]; exact exF_nums _ _)
    have HXC := Lib.hid (show exC a n = if g = 0 ∨ t = 1 then 5 else 0 from by rw [hg, ht]; rfl)
    have HXL := Lib.hid (show exL a n = scl iv (addk 10006 (scl t fn) a) from by rw [hiv, ht, hfn]; rfl)
    obtain ⟨t0, t1⟩ := htb
    obtain ⟨i0, i1⟩ := hib
    rw [← hg] at hag hag0
    obtain ⟨-, g6⟩ := hag
    have HAG := Lib.hid (fun W v B m d x (hR : Rows W v (T6n.map up)) (q1 : Ints W (.slice Aa 38 ca) a) (q2 : Ints W x EX) => show Calls Tryz.prog 63 #[.agg #[v, .slice B m d], .slice Aa 38 ca, x] W fun e w' => e = .returned (.int .i64 g) ∧ Below W.heap.size W w' from by rw [hg]; exact i_agreeTo W v _ x B m d a EX hR q1 q2 l1 EX_len)
    have HPW := Lib.hid (fun W => show Calls Tryz.prog 100 #[.int .i64 (n : Nat), .int .i64 g] W fun e w' => e = .returned (.int .i64 t) ∧ W = w' from by
      have h := i_pow (n : Int) g W (by omega) (by omega) (by omega) (by omega)
      rwa [hg, show pw (n : Int) (agZ a EX).toNat = t from ht.symm, ← hg] at h)
    have HNU := Lib.hid (fun W => show Calls Tryz.prog 103 #[.int .i64 (t - 1)] W fun e w' => e = .returned (.int .i64 ((t - 1) % 10007)) ∧ W = w' from i_num _ W (by omega) (by omega))
    have HIV := Lib.hid (fun W => show Calls Tryz.prog 81 #[.int .i64 ((t - 1) % 10007)] W fun e w' => e = .returned (.int .i64 iv) ∧ W = w' from by
      have h := i_inv ((t - 1) % 10007) W (by omega) (by omega)
      rwa [show pw ((t - 1) % 10007) 10005 = iv from by rw [hiv, ht]; rfl] at h)
    have HRF1 := Lib.hid (fun W Af cf Bp vp (hR : Rows W (.slice Af 37 cf) (T6n.map up)) (hP : FrC W Bp vp) (q : Ints W (.slice Aa 38 ca) a) => show Calls Tryz.prog 86 #[.agg #[.slice Af 37 cf, vp], .slice Aa 38 ca, .int .i64 (n : Nat)] W fun e w' => ∃ x, e = .returned x ∧ OwnInts w' W.heap.size tI x fn ∧ Below W.heap.size W w' from by rw [hfn]; exact i_refined W vp _ Af cf Bp a n hR hP q l1 n1 hn)
    have HS1 := Lib.hid (fun W r (q : Ints W r fn) => show Calls Tryz.prog 101 #[r, .int .i64 t] W fun e w' => ∃ x, e = .returned x ∧ OwnInts w' W.heap.size tI x (scl t fn) ∧ Below W.heap.size W w' from by
      have h := i_scaled W r fn t q HFN.out (by rw [HFL.out]; omega) (by omega) (by omega)
      rwa [show t % 10007 = t from by omega] at h)
    have HPL := Lib.hid (fun W r (q : Ints W r (scl t fn)) (q2 : Ints W (.slice Aa 38 ca) a) => show Calls Tryz.prog 102 #[r, .slice Aa 38 ca, .int .i64 (-1)] W fun e w' => ∃ x, e = .returned x ∧ OwnInts w' W.heap.size tI x (addk 10006 (scl t fn) a) ∧ Below W.heap.size W w' from by
      have h := i_plus W r (.slice Aa 38 ca) (scl t fn) a (-1) q q2 (scl_nums _ _) n1 (by rw [scl_len, HFL.out, l1]; exact Nat.le_refl _) (by rw [scl_len, HFL.out]; omega) (by omega) (by omega)
      rwa [show (-1 : Int) % 10007 = 10006 from by decide] at h)
    have HS2 := Lib.hid (fun W r (q : Ints W r (addk 10006 (scl t fn) a)) => show Calls Tryz.prog 101 #[r, .int .i64 iv] W fun e w' => ∃ x, e = .returned x ∧ OwnInts w' W.heap.size tI x (scl iv (addk 10006 (scl t fn) a)) ∧ Below W.heap.size W w' from by
      have h := i_scaled W r _ iv q (addTo_nums _ _ _ _) (by rw [addk, addTo_len, scl_len, HFL.out]; omega) (by omega) (by omega)
      rwa [show iv % 10007 = iv from by omega] at h)
    have hwt : IntKind.i64.wrap (t - 1) = t - 1 := IntWalk.i64_in _ (by omega)
    clear hc l1 n1 u1 hg ht hiv hfn
    go_enter Tryz.func46, Tryz.ntmps46
    go_upto_region 5 with (first
      | (go_at_call 85; refine HCH.out.mono ?_; rintro e w0 ⟨rfl, rfl⟩)
      | (go_at_call 56; go_loud (refine (i_newForms _).mono ?_; rintro e w1 ⟨f, rfl, hf, hb1⟩; obtain ⟨Af, cf, Ay, cy, rfl, hrf, hfc⟩ := hf.openC; have HRF := Lib.hid hrf; have HFC := Lib.hid hfc; have HB1W := Lib.hid hb1; clear hf hrf hfc hb1)))
    obtain ⟨W, hW⟩ : ∃ W, W = w1.alloc (.cells #[.slice Af 37 cf, .slice Ay 37 cy] tFo) := ⟨_, rfl⟩
    have hbw : Below w1.heap.size w1 W := by rw [hW]; exact below1 w1 _
    have HBW := Lib.hid (HB1W.out.trans (hbw.mono HB1W.out.size))
    have HKF := Lib.hid (show Blk W w1.heap.size tFo #[.slice Af 37 cf, .slice Ay 37 cy] from by rw [hW]; exact Blk.new _ _ _)
    have HRW := Lib.hid (HRF.out.below hbw)
    have HFW := Lib.hid (HFC.out.below hbw)
    have HAW := Lib.hid (HA.out.below HBW.out)
    rw [← hW]
    clear hW hbw
    have k1 : W.cell? ⟨w1.heap.size, 0, none⟩ = some (.slice Af 37 cf) := HKF.out.cell 0
    have k2 : W.cell? ⟨w1.heap.size, 1, none⟩ = some (.slice Ay 37 cy) := HKF.out.cell 1
    have HX1 := Lib.hid (show ∀ X, Below W.heap.size W X → Calls Tryz.prog 99 #[.agg #[.slice Af 37 cf, .slice Ay 37 cy]] X (fun e w' => ∃ x, e = .returned x ∧ Ints w' x EX ∧ Below W.heap.size W w') from fun X hX => (i_exactMap X _ Ay 37 cy (HRW.out.below hX)).mono (by rintro e w5 ⟨r5, rfl, ho5, hb5⟩; exact ⟨r5, rfl, ho5.ints, hX.trans (hb5.mono hX.size)⟩))
    go_cut [8] (fun x wx => x = .int .i64 g ∧ Below W.heap.size W wx)
    case first =>
      go_region_law (first
        | (go_simp; go_at_call 99; (with_reducible refine ((HX1.out _ ?_).mono ?_)); (first | exact Below.refl _ _ | exact (Below.refl _ _).drew); go_loud (rintro e w5 ⟨r5, rfl, ho5, hb5⟩; have HO5 := Lib.hid ho5; have HB5 := Lib.hid hb5; have m1 : w5.cell? ⟨w1.heap.size, 0, none⟩ = some (.slice Af 37 cf) := (HKF.out.below hb5 HKF.out.lt).cell 0; have m2 : w5.cell? ⟨w1.heap.size, 1, none⟩ = some (.slice Ay 37 cy) := (HKF.out.below hb5 HKF.out.lt).cell 1; clear ho5 hb5))
        | (go_simp; go_at_call 63; (refine ((HAG.out _ _ Ay 37 cy _ (HRW.out.below ?_) (HAW.out.below ?_) HO5.out).mono ?_)); (first | exact HB5.out | exact HB5.out.drew); (first | exact HB5.out | exact HB5.out.drew); go_loud (rintro e w6 ⟨rfl, hb6'⟩; have HB6 := Lib.hid (show Below w5.heap.size w5 w6 from by exact hb6'); clear hb6')))
      all_goals
        go_wp2_with fail
        go_meet
        exact ⟨rfl, HB5.out.trans (HB6.out.mono HB5.out.size)⟩
    case rest =>
      obtain ⟨rfl, hbc⟩ := hcut
      have HBC := Lib.hid hbc
      have HKC := Lib.hid (HKF.out.below hbc HKF.out.lt)
      have HAC := Lib.hid (HAW.out.below hbc)
      have HRC := Lib.hid (HRW.out.below hbc)
      have HFC2 := Lib.hid (HFW.out.below hbc)
      have q1 : wc.cell? ⟨w1.heap.size, 0, none⟩ = some (.slice Af 37 cf) := HKC.out.cell 0
      have q2 : wc.cell? ⟨w1.heap.size, 1, none⟩ = some (.slice Ay 37 cy) := HKC.out.cell 1
      clear hbc k1 k2
      by_cases hz : g = 0
      · have hd : (g == 0) = true := by simp [hz]
        have HR5 := Lib.hid (show exmC a n = 5 from by rw [HE.out, HXC.out, if_pos (.inl hz)])
        have HRR := Lib.hid (show exmR a n = [] from by rw [exmR, HR5.out]; rfl)
        clear hz
        go_wp2_with (go_at_call 100; refine (HPW.out _).mono ?_; rintro e w7 ⟨rfl, rfl⟩)
        go_ret2
        rw [HR5.out, HRR.out]
        exact ⟨_, rfl, OwnInts.nil _ _ _, HBW.out.trans (HBC.out.mono HBW.out.size)⟩
      · have hd : (g == 0) = false := by simp [hz]
        by_cases hz2 : t = 1
        · have hd2 : (t == 1) = true := by simp [hz2]
          have HR5 := Lib.hid (show exmC a n = 5 from by rw [HE.out, HXC.out, if_pos (.inr hz2)])
          have HRR := Lib.hid (show exmR a n = [] from by rw [exmR, HR5.out]; rfl)
          clear hz hz2
          go_wp2_with (go_at_call 100; refine (HPW.out _).mono ?_; rintro e w7 ⟨rfl, rfl⟩)
          go_ret2
          rw [HR5.out, HRR.out]
          exact ⟨_, rfl, OwnInts.nil _ _ _, HBW.out.trans (HBC.out.mono HBW.out.size)⟩
        · have hd2 : (t == 1) = false := by simp [hz2]
          have HR5 := Lib.hid (show exmC a n = 0 from by rw [HE.out, HXC.out, if_neg (by rintro (h | h); exact hz h; exact hz2 h)])
          have HRR := Lib.hid (show exmR a n = scl iv (addk 10006 (scl t fn) a) from by rw [exmR, if_pos HR5.out, HXL.out])
          clear hz hz2
          go_wp2_with (first
            | (go_at_call 100; refine (HPW.out _).mono ?_; rintro e w7 ⟨rfl, rfl⟩)
            | (go_at_call 86; go_loud (refine (HRF1.out _ _ _ _ _ HRC.out HFC2.out HAC.out).mono ?_; rintro e w3 ⟨x3, rfl, ho3, hb3⟩; have HO3 := Lib.hid ho3.ints; have HB3 := Lib.hid hb3; clear ho3 hb3))
            | (go_at_call 101; (with_reducible refine (HS1.out _ _ HO3.out).mono ?_); go_loud (rintro e w4 ⟨x4, rfl, ho4, hb4⟩; have HO4 := Lib.hid ho4.ints; have HB4 := Lib.hid (HB3.out.trans (hb4.mono HB3.out.size)); clear ho4 hb4))
            | (go_at_call 102; go_loud (refine (HPL.out _ _ HO4.out (HAC.out.below HB4.out)).mono ?_; rintro e w5 ⟨x5, rfl, ho5, hb5⟩; have HO5 := Lib.hid ho5.ints; have HB5 := Lib.hid (HB4.out.trans (hb5.mono HB4.out.size)); clear ho5 hb5))
            | (go_at_call 103; refine (HNU.out _).mono ?_; rintro e w7 ⟨rfl, rfl⟩)
            | (go_at_call 81; refine (HIV.out _).mono ?_; rintro e w7 ⟨rfl, rfl⟩)
            | (go_at_call 101; (with_reducible refine (HS2.out _ _ HO5.out).mono ?_); go_loud (rintro e w6 ⟨x6, rfl, ho6, hb6⟩; have HO6 := Lib.hid (ho6.mono (Nat.le_trans (Nat.le_trans HBW.out.size HBC.out.size) HB5.out.size)); have HB6 := Lib.hid (HB5.out.trans (hb6.mono HB5.out.size)); clear ho6 hb6)))
          go_ret2
          rw [HR5.out, HRR.out]
          exact ⟨_, rfl, HO6.out, (HBW.out.trans (HBC.out.mono HBW.out.size)).trans (HB6.out.mono (Nat.le_trans HBW.out.size HBC.out.size))⟩
  · have HE := Lib.hid (show exmC a k = rfnC a k 2 from if_neg hc)
    have HR := Lib.hid (show exmR a k = [] from by rw [exmR, HE.out, if_neg hc])
    rw [HR.out, HE.out]
    have hd : (rfnC a k 2 != 0) = true := by simp [hc]
    generalize rfnC a k 2 = cc at *
    clear hc HR HE
    go_enter Tryz.func46, Tryz.ntmps46
    go_wp2_with (go_at_call 85; refine HCH.out.mono ?_; rintro e w0 ⟨rfl, rfl⟩)
    go_ret2
    exact ⟨_, rfl, OwnInts.nil _ _ _, Below.refl _ _⟩
theorem exL_at {t iv : Int} {fn a : List Int} {i : Nat} {x y : Int} (hl : fn.length = 38) (hx : fn[i]? = some x) (hy : a[i]? = some y) :
    (scl iv (addk 10006 (scl t fn) a))[i]? = some ((t * x % 10007 - y) % 10007 * iv % 10007) := by
  have hi : i < 38 := by have := (List.getElem?_eq_some_iff.1 hx).1; omega
  have e1 : (addk 10006 (scl t fn) a)[i]? = some ((x * t % 10007 + 10006 * y) % 10007) := by
    unfold addk addTo
    rw [scl_len, hl, List.getElem?_map, List.getElem?_range hi]
    unfold scl
    simp [List.getD, List.getElem?_map, hx, hy]
  unfold scl at e1 ⊢
  rw [List.getElem?_map, e1]
  have e2 : (x * t % 10007 + 10006 * y) % 10007 = (t * x % 10007 - y) % 10007 := by rw [Int.mul_comm x t]; omega
  simp [e2]
set_option maxHeartbeats 16000000 in
theorem s_ExtrapolateMap (w : World) (va : Value) (a : List Int) (k : Int) (h1 : Ints w va a) (hk64 : In64 k) :
    Calls Tryz.prog 45 #[va, .int .i64 k] w fun e w' => ∃ x, e = .returned (.tuple #[x, .int .i64 (exmC a k)]) ∧ OwnInts w' w.heap.size tI x (exmR a k) ∧ Below w.heap.size w w' := by
  have HCH := Lib.hid (s_l07Is w va a h1)
  have HIR := Lib.hid (fun W => s_l01In k 2 100 W)
  have HA := Lib.hid h1
  obtain ⟨Aa, ca, rfl, -, -, -⟩ := h1.open_
  cases hm : mapB a with
  | false =>
    rw [hm] at HCH
    have hr : rfnC a k 2 = 1 := by unfold rfnC; rw [hm]; rfl
    have HC := Lib.hid (show exmC a k = 1 from by rw [exmC, hr]; rfl)
    have HR := Lib.hid (show exmR a k = [] from by rw [exmR, HC.out]; rfl)
    clear hm h1 hr
    go_enter Tryz.func45, Tryz.ntmps45
    go_wp2_with (go_at_call 73; refine HCH.out.mono ?_; rintro e w0 ⟨rfl, rfl⟩)
    go_ret2
    rw [HC.out, HR.out]
    exact ⟨_, rfl, OwnInts.nil _ _ _, Below.refl _ _⟩
  | true =>
    rw [hm] at HCH
    obtain ⟨l1, n1⟩ := mapB_true hm
    have n1 : Nums a := n1
    cases hr : inR k 2 100 with
    | false =>
      rw [hr] at HIR
      have hrc : rfnC a k 2 = 2 := by unfold rfnC; rw [hm, hr]; rfl
      have HC := Lib.hid (show exmC a k = 2 from by rw [exmC, hrc]; rfl)
      have HR := Lib.hid (show exmR a k = [] from by rw [exmR, HC.out]; rfl)
      clear hm hr h1 l1 n1 hrc
      go_enter Tryz.func45, Tryz.ntmps45
      go_wp2_with (first
        | (go_at_call 73; refine HCH.out.mono ?_; rintro e w0 ⟨rfl, rfl⟩)
        | (go_at_call 83; refine (HIR.out _).mono ?_; rintro e w0 ⟨rfl, rfl⟩))
      go_ret2
      rw [HC.out, HR.out]
      exact ⟨_, rfl, OwnInts.nil _ _ _, Below.refl _ _⟩
    | true =>
      rw [hr] at HIR
      rw [l1] at h1 HA HCH ⊢
      obtain ⟨ad, rfl, hc0, -, -⟩ := map_cell h1 n1 (k := 0) (by omega)
      have hc0 : w.cell? ad = some (.int .i64 (a.getD 0 0)) := by simpa [Addr.add] using hc0
      obtain ⟨y0, hy0⟩ : ∃ y0, y0 = a.getD 0 0 := ⟨_, rfl⟩
      rw [← hy0] at hc0
      by_cases hz0 : y0 = 1
      · have hd0 : (y0 != 1) = false := by simp [hz0]
        have hc : rfnC a k 2 = 0 := by unfold rfnC; rw [if_pos hm, if_pos hr, if_pos (by rw [← hy0]; exact hz0)]
        have u1 : a.getD 0 0 = 1 := by rw [← hy0]; exact hz0
        obtain ⟨-, -, -, -, n, rfl, hn, hn1⟩ := rfnC_zero hc (by omega)
        have HE := Lib.hid (show exmC a n = exC a n from if_pos hc)
        have hag := agZ_bd a EX
        have hag0 := agZ_nonneg (a := a) (b := EX) (by rw [u1]; rfl)
        obtain ⟨g, hg⟩ : ∃ g, g = agZ a EX := ⟨_, rfl⟩
        obtain ⟨t, ht⟩ : ∃ t, t = exT a n := ⟨_, rfl⟩
        obtain ⟨iv, hiv⟩ : ∃ iv, iv = exI a n := ⟨_, rfl⟩
        obtain ⟨fn, hfn⟩ : ∃ fn, fn = exF a n := ⟨_, rfl⟩
        have htb : 0 ≤ t ∧ t ≤ 10006 := by rw [ht]; exact exT_bd _ _
        have hib : 0 ≤ iv ∧ iv ≤ 10006 := by rw [hiv]; exact exI_bd _ _
        have HFL := Lib.hid (show fn.length = 38 from by rw [hfn]; exact exF_len _ _)
        have HFN := Lib.hid (show Nums fn from by rw [hfn]; exact exF_nums _ _)
        have HXC := Lib.hid (show exC a n = if g = 0 ∨ t = 1 then 5 else 0 from by rw [hg, ht]; rfl)
        have HXL := Lib.hid (show exL a n = scl iv (addk 10006 (scl t fn) a) from by rw [hiv, ht, hfn]; rfl)
        have HLL := Lib.hid (show (scl iv (addk 10006 (scl t fn) a)).length = 38 from by rw [scl_len, addk, addTo_len, scl_len]; exact HFL.out)
        obtain ⟨t0, t1⟩ := htb
        obtain ⟨i0, i1⟩ := hib
        rw [← hg] at hag hag0
        obtain ⟨-, g6⟩ := hag
        have HAG := Lib.hid (fun W x (q1 : Ints W (.slice (some ad) 38 ca) a) (q2 : Ints W x EX) => show Calls Tryz.prog 60 #[.slice (some ad) 38 ca, x] W fun e w' => e = .returned (.int .i64 g) ∧ Below W.heap.size W w' from by rw [hg]; exact s_l07Agree W _ x a EX q1 q2 l1 EX_len)
        have HPW := Lib.hid (fun W => show Calls Tryz.prog 95 #[.int .i64 (n : Nat), .int .i64 g] W fun e w' => e = .returned (.int .i64 t) ∧ W = w' from by
          have h := s_l01Pow (n : Int) g W (by omega) (by omega) (by omega) (by omega)
          rwa [hg, show pw (n : Int) (agZ a EX).toNat = t from ht.symm, ← hg] at h)
        have HSB := Lib.hid (fun W => show Calls Tryz.prog 97 #[.int .i64 t, .int .i64 1] W fun e w' => e = .returned (.int .i64 ((t - 1) % 10007)) ∧ W = w' from s_l01Sub _ _ W (by omega) (by omega) (by omega) (by omega))
        have HIV := Lib.hid (fun W => show Calls Tryz.prog 98 #[.int .i64 ((t - 1) % 10007)] W fun e w' => e = .returned (.int .i64 iv) ∧ W = w' from by
          have h := s_l01Inv ((t - 1) % 10007) W (by omega) (by omega)
          rwa [show pw ((t - 1) % 10007) 10005 = iv from by rw [hiv, ht]; rfl] at h)
        have HRF := Lib.hid (fun W (q : Ints W (.slice (some ad) 38 ca) a) => show Calls Tryz.prog 84 #[.slice (some ad) 38 ca, .int .i64 (n : Nat)] W fun e w' => ∃ x, e = .returned x ∧ OwnInts w' W.heap.size tI x fn ∧ Below W.heap.size W w' from by rw [hfn]; exact s_l17Refine W _ a n q l1 n1 u1 hn)
        have HN1 := Lib.hid n1
        have HL1 := Lib.hid l1
        clear hm hr h1 l1 n1 hy0 hz0 u1 hc hg ht hiv hfn
        go_enter Tryz.func45, Tryz.ntmps45
        go_upto_region 9 with (first
          | (go_at_call 73; refine HCH.out.mono ?_; rintro e w0 ⟨rfl, rfl⟩)
          | (go_at_call 83; refine (HIR.out _).mono ?_; rintro e w0 ⟨rfl, rfl⟩)
          | (go_at_call 94; go_loud (refine (s_l07Exact _).mono ?_; rintro e w1 ⟨x1, rfl, ho1, hb1⟩; have HO1 := Lib.hid ho1.ints; have HB1 := Lib.hid hb1; clear ho1 hb1))
          | (go_at_call 60; go_loud (refine (HAG.out _ _ (HA.out.below HB1.out) HO1.out).mono ?_; rintro e w2 ⟨rfl, hb2⟩; have HB2 := Lib.hid (HB1.out.trans (hb2.mono HB1.out.size)); clear hb2))
          | (go_at_call 95; refine (HPW.out _).mono ?_; rintro e w7 ⟨rfl, rfl⟩))
        by_cases hz : g = 0
        · have hd : (g == 0) = true := by simp [hz]
          have HR5 := Lib.hid (show exmC a n = 5 from by rw [HE.out, HXC.out, if_pos (.inl hz)])
          have HRR := Lib.hid (show exmR a n = [] from by rw [exmR, HR5.out]; rfl)
          clear hz
          go_wp2_with fail
          go_ret2
          rw [HR5.out, HRR.out]
          exact ⟨_, rfl, OwnInts.nil _ _ _, HB2.out⟩
        · have hd : (g == 0) = false := by simp [hz]
          by_cases hz2 : t = 1
          · have hd2 : (t == 1) = true := by simp [hz2]
            have HR5 := Lib.hid (show exmC a n = 5 from by rw [HE.out, HXC.out, if_pos (.inr hz2)])
            have HRR := Lib.hid (show exmR a n = [] from by rw [exmR, HR5.out]; rfl)
            clear hz hz2
            go_wp2_with fail
            go_ret2
            rw [HR5.out, HRR.out]
            exact ⟨_, rfl, OwnInts.nil _ _ _, HB2.out⟩
          · have hd2 : (t == 1) = false := by simp [hz2]
            have HR5 := Lib.hid (show exmC a n = 0 from by rw [HE.out, HXC.out, if_neg (by rintro (h | h); exact hz h; exact hz2 h)])
            have HRR := Lib.hid (show exmR a n = scl iv (addk 10006 (scl t fn) a) from by rw [exmR, if_pos HR5.out, HXL.out])
            clear hz hz2
            obtain ⟨L, hL⟩ : ∃ L, L = scl iv (addk 10006 (scl t fn) a) := ⟨_, rfl⟩
            rw [← hL] at HLL HRR
            have HLE := Lib.hid hL
            have HXE := Lib.hid (fun (i : Nat) (hi : i < 38) => show L[i]? = some ((t * fn.getD i 0 % 10007 - a.getD i 0) % 10007 * iv % 10007) from by
              have e1 : fn[i]? = some (fn.getD i 0) := by
                have hl : i < fn.length := by rw [HFL.out]; exact hi
                simp [List.getD, hl]
              have e2 : a[i]? = some (a.getD i 0) := by
                have hl : i < a.length := by rw [HL1.out]; exact hi
                simp [List.getD, hl]
              rw [hL]
              exact exL_at HFL.out e1 e2)
            clear hL
            go_wp2_with (go_at_call 84; go_loud (refine (HRF.out _ ((HA.out.below HB2.out).below (below1 w2 _))).mono ?_; rintro e w3 ⟨x3, rfl, ho3, hb3⟩; rcases ho3.1.cases with ⟨-, he⟩ | ⟨g3, c3, cur, he, hga, hgb, -⟩; (· have h1 := congrArg List.length he; rw [ints_len, HFL.out] at h1; cases h1); rw [ints_len, HFL.out] at he; subst he; have HO3 := Lib.hid (show OwnInts w3 (w2.heap.size + 1) tI (.slice (some ⟨g3, 0, none⟩) 38 c3) fn from by simpa using ho3); have HOO := Lib.hid ((own_lit w2 tI [] (by simp [maxLen])).below hb3); have HB3 := Lib.hid (HB2.out.trans (((below1 w2 (.cells #[] tI)).trans (hb3.mono (by simp))).mono HB2.out.size)); have HB23 := Lib.hid (show w2.heap.size + 1 ≤ w3.heap.size from by have := hb3.size; simpa using this); clear ho3 hb3))
            clear HRF HPW HAG HIR HCH
            have HG3 := Lib.hid (show w2.heap.size + 1 ≤ g3 ∧ g3 < w3.heap.size from ⟨HO3.out.1.ge g3 rfl, by first | exact hgb | exact hga⟩)
            go_loopw [8, 10] (fun o x wr => ∃ i : Nat, i ≤ 38 ∧ x = .int .i64 i ∧ Own wr w2.heap.size tI o (ints (L.take i)) ∧ Hid (∀ b, o.ownBlock = some b → b = w2.heap.size ∨ w3.heap.size ≤ b) ∧ OwnInts wr (w2.heap.size + 1) tI (.slice (some ⟨g3, 0, none⟩) 38 c3) fn ∧ Below w.heap.size w wr ∧ Hid (w3.heap.size ≤ wr.heap.size)) (fun _ x _ => 38 - (intOf x).toNat)
            case atStart => exact ⟨0, Nat.zero_le _, rfl, HOO.out, (by rintro b ⟨⟩; exact .inl rfl), HO3.out, HB3.out, Nat.le_refl _⟩
            case round =>
              obtain ⟨i, hi, rfl, ho, HOB, hf3, hb, HSZ⟩ := hrel
              rename World => wq
              clear HOO
              have HO := Lib.hid ho
              have HF3 := Lib.hid hf3
              have HB := Lib.hid hb
              have hel : (L.take i).length = i := by rw [List.length_take, HLL.out]; omega
              have hol := ho.cells.open_
              rw [ints_len, hel] at hol
              obtain ⟨Ao, co, rfl, -, -⟩ := hol
              have HEL := Lib.hid hel
              clear ho hf3 hb hel
              by_cases hlt : i < 38
              · obtain ⟨ad3, e3, hcx, x0, x1⟩ := map_cell HF3.out.ints HFN.out (k := i) hlt
                injection e3 with e3
                subst e3
                obtain ⟨ad4, e4, hcy, y0', y1'⟩ := map_cell (HA.out.below HB.out) HN1.out (k := i) hlt
                injection e4 with e4
                subst e4
                have hxe := HXE.out i hlt
                have hil : (i : Int) < 38 := by omega
                obtain ⟨x, hx⟩ : ∃ x, x = fn.getD i 0 := ⟨_, rfl⟩
                obtain ⟨y, hy⟩ : ∃ y, y = a.getD i 0 := ⟨_, rfl⟩
                rw [← hx] at hcx x0 x1 hxe
                rw [← hy] at hcy y0' y1' hxe
                rw [addr_add] at hcx
                have HM1 := Lib.hid (fun W => s_l01Mul t x W (by omega) (by omega) (by omega) (by omega))
                have hub : 0 ≤ t * x % 10007 ∧ t * x % 10007 ≤ 10006 := by omega
                obtain ⟨u, hu⟩ : ∃ u, u = t * x % 10007 := ⟨_, rfl⟩
                rw [← hu] at HM1 hxe hub
                have HM2 := Lib.hid (fun W => s_l01Sub u y W (by omega) (by omega) (by omega) (by omega))
                have hvb : 0 ≤ (u - y) % 10007 ∧ (u - y) % 10007 ≤ 10006 := by omega
                obtain ⟨q, hq⟩ : ∃ q, q = (u - y) % 10007 := ⟨_, rfl⟩
                rw [← hq] at HM2 hxe hvb
                have HM3 := Lib.hid (fun W => s_l01Mul q iv W (by omega) (by omega) (by omega) (by omega))
                obtain ⟨z, hz⟩ : ∃ z, z = q * iv % 10007 := ⟨_, rfl⟩
                rw [← hz] at HM3 hxe
                have HTS := Lib.hid (show ints (L.take (i + 1)) = ints (L.take i) ++ [.int .i64 z] from by rw [List.take_add_one, hxe, ints, ints, List.map_append]; rfl)
                clear hx hy hu hq hz hub hvb hxe x0 x1 y0' y1'
                go_upto_region 15 with fail
                go_region_law (first
                  | (refine step_app1 T_int (W := wq.drew) (u := .int .i64 z) (HO.out.below (Below.refl wq.heap.size wq).drew) (by rw [ints_len, HEL.out]; omega) (by have := HB23.out; have := HSZ.out; show w2.heap.size ≤ wq.heap.size; omega) rfl (by rfl) rfl (by rfl) (by rfl) ?_; intro v6 w6 hown6 hgr6; have HN6 := Lib.hid hown6; have HG6 := Lib.hid hgr6; clear hown6 hgr6)
                  | (go_simp; go_at_call 96; (with_reducible refine ((HM1.out _).mono ?_)); rintro e w4 ⟨rfl, rfl⟩)
                  | (go_simp; go_at_call 97; (with_reducible refine ((HM2.out _).mono ?_)); rintro e w4 ⟨rfl, rfl⟩)
                  | (go_simp; go_at_call 97; (with_reducible refine ((HSB.out _).mono ?_)); rintro e w4 ⟨rfl, rfl⟩)
                  | (go_simp; go_at_call 98; (with_reducible refine ((HIV.out _).mono ?_)); rintro e w4 ⟨rfl, rfl⟩)
                  | (go_simp; go_at_call 96; (with_reducible refine ((HM3.out _).mono ?_)); rintro e w4 ⟨rfl, rfl⟩))
                all_goals
                  go_wp2_with fail
                  go_roundw
                  case rel =>
                    have hge := HO.out.ge
                    have hbd := HOB.out
                    refine ⟨i + 1, by omega, by go_num, by rw [HTS.out]; exact HN6.out, ?_, ?_, HG6.out.below HB.out.drew (by have := HB.out.size; exact this) (fun b hb => by have := HB2.out.size; have := hge b hb; omega), ?_⟩
                    · intro b hb
                      rcases HG6.out.2 with h | ⟨g, h, hg⟩
                      · exact hbd b (by rw [← h]; exact hb)
                      · rw [h] at hb; injection hb with hb; have := HSZ.out; exact .inr (by rw [← hb]; have : w3.heap.size ≤ g := Nat.le_trans this hg; exact this)
                    · refine ⟨(HF3.out.1.below (Below.refl wq.heap.size wq).drew).kept HG6.out.1 (.inr fun e => ?_), HF3.out.2⟩
                      rcases hbd g3 e.symm with h | h
                      · have := HG3.out.1; omega
                      · have := HG3.out.2; omega
                    · exact Nat.le_trans HSZ.out HG6.out.1.size
                  case measure => simp [intOf]; omega
              · have hi38 : i = 38 := by omega
                subst hi38
                have HTK := Lib.hid (show L.take 38 = L from List.take_of_length_le (by rw [HLL.out]; exact Nat.le_refl _))
                rw [HTK.out] at HO
                go_wp2_with fail
                go_ret2
                rw [HR5.out, HRR.out]
                exact ⟨_, rfl, ⟨HO.out.mono HB2.out.size, fun z hz => by have := scl_nums; rw [HLE.out] at hz; have := scl_nums _ _ z hz; unfold In64; omega⟩, HB.out⟩
      · have hd0 : (y0 != 1) = true := by simp [hz0]
        have hrc : rfnC a k 2 = 5 := by unfold rfnC; rw [if_pos hm, if_pos hr, if_neg (fun h => hz0 (by rw [hy0]; exact h))]
        have HC := Lib.hid (show exmC a k = 5 from by rw [exmC, hrc]; rfl)
        have HR := Lib.hid (show exmR a k = [] from by rw [exmR, HC.out]; rfl)
        clear hm hr h1 l1 n1 hy0 hz0 hrc
        go_enter Tryz.func45, Tryz.ntmps45
        go_wp2_with (first
          | (go_at_call 73; refine HCH.out.mono ?_; rintro e w0 ⟨rfl, rfl⟩)
          | (go_at_call 83; refine (HIR.out _).mono ?_; rintro e w0 ⟨rfl, rfl⟩))
        go_ret2
        rw [HC.out, HR.out]
        exact ⟨_, rfl, OwnInts.nil _ _ _, Below.refl _ _⟩
end Go.Proofs.YtngdpoeondnchaaGreat

set_option maxRecDepth 100000
set_option linter.unusedVariables false
set_option linter.unusedSimpArgs false
namespace Go.Proofs.YtngdpoeondnchaaGreat
open Go.RowKit

theorem law_ExtrapolateMap (w : World) (v : Value) (zs : List Int) (ha : Ints w v zs) (n : Int) (hn : In64 n) :
    Calls Tryz.prog 12 #[v, .int .i64 n] w fun e w' => e = .returned (.bool true) ∧ Below w.heap.size w w' :=
  law_FnExactExtrapolateMap_gen w v zs ha n hn (exmR zs n) (exmC zs n) (fun _ => exmR_len zs n)
    (fun _ W v0 h0 => (s_ExtrapolateMap W v0 zs n h0 hn).mono fun e w' h => by obtain ⟨x, he, ho, hb⟩ := h; exact ⟨x, he, OI.of ho, hb⟩)
    (fun _ W v0 h0 => (i_ExtrapolateMap W v0 zs n h0 hn).mono fun e w' h => by obtain ⟨x, he, ho, hb⟩ := h; exact ⟨x, he, OI.of ho, hb⟩)
end Go.Proofs.YtngdpoeondnchaaGreat

set_option maxRecDepth 100000
set_option linter.unusedVariables false
set_option linter.unusedSimpArgs false
namespace Go.Proofs.YtngdpoeondnchaaGreat
open Go.ChangeShapes Go.WideShapes Go.ChangeAt Go.RowKit

theorem in64_of_wf {z : Int} (h : (Lit.int .i64 z).wf = true) : In64 z := by
  simp [Lit.wf, IntKind.min, IntKind.max, IntKind.signed, IntKind.bits] at h
  unfold In64
  omega

theorem open_Ints {H : Type} {enc : TypeId × Value → H} {W : World} {base : Nat} {v : Value} {d : DataW H} {p : List MemPlace}
    (hv : Value.okWide Tryz.prog W .any base 27 v) (h : DataW.Trod enc Tryz.prog W 0 (fun _ => true) true 27 v d p) : ∃ zs, Ints W v zs := by
  obtain ⟨a, len, cap, rfl⟩ := okWide_slice Tryz.underlying27 hv
  obtain ⟨fuel, hf⟩ := h
  rcases open_ints Tryz.underlying27 Tryz.underlying2 (by kernel_rfl) hf with ⟨hcs, _⟩ | ⟨x, l, c, zs, hcs, _, hl, hm, hz, _, hcell, hwz⟩
  · simp [Value.cells] at hcs
    obtain ⟨rfl, rfl, rfl⟩ := hcs
    exact ⟨[], ⟨none, 0, rfl, by simp [ints], by simp [maxLen], fun k u hk => by simp [ints] at hk⟩, fun z hz => by simp at hz⟩
  · simp [Value.cells] at hcs
    obtain ⟨rfl, rfl, rfl⟩ := hcs
    have hz' : zs.length = cap := by simpa using hz
    have hlen : (ints (zs.take len)).length = len := by simp [ints]; omega
    refine ⟨zs.take len, ⟨some x, cap, by rw [hlen], by rw [hlen]; exact hl, hm, fun k u hk => ⟨x, rfl, ?_⟩⟩, fun z hz => in64_of_wf (hwz z (List.mem_of_mem_take hz))⟩
    have hk2 : k < (ints (zs.take len)).length := (List.getElem?_eq_some_iff.1 hk).1
    rw [hlen] at hk2
    rw [hcell k (by omega)]
    have e : (ints (zs.take len))[k]? = some (.int .i64 (zs.getD k 0)) := by
      simp [ints, List.getElem?_take, hk2, List.getD, show k < zs.length by omega]
    rw [e] at hk
    exact hk
end Go.Proofs.YtngdpoeondnchaaGreat

