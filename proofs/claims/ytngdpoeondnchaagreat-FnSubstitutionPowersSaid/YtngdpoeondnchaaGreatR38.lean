/- The law FnSubstitutions, walked. | Walks: modifiedMap, ModifiedMap, ModifyingMap of the program and of the reference. -/
import Derived.Test.YtngdpoeondnchaaGreatR34
import Derived.Test.YtngdpoeondnchaaGreatR35
import Derived.Test.YtngdpoeondnchaaGreatR37
set_option maxRecDepth 100000
set_option linter.unusedVariables false
set_option linter.unusedSimpArgs false
namespace Go.Proofs.YtngdpoeondnchaaGreat
open Go.RowKit

theorem ByB.below {w w' : World} {B n : Nat} {A : Option Addr} (h : ByB w B A n) (hB : B ≤ w.heap.size) (hb : Below B w w') : ByB w' B A n := fun k hk => by
  obtain ⟨ad, z, rfl, h1, h2, h3, h4, h5⟩ := h k hk
  exact ⟨ad, z, rfl, h1, Nat.lt_of_lt_of_le h2 hb.size, h3, h4, by rw [hb.cell (by rw [block_add]; exact h1)]; exact h5⟩
theorem ByB.mono {w : World} {B B' n : Nat} {A : Option Addr} (h : ByB w B A n) (hB : B ≤ B') : ByB w B' A n := fun k hk => by
  obtain ⟨ad, z, rfl, h1, h2⟩ := h k hk
  exact ⟨ad, z, rfl, Nat.lt_of_lt_of_le h1 hB, h2⟩
set_option maxHeartbeats 16000000 in
theorem law_Substitutions (w : World) (v : Value) (n : Nat) (h : Bts w v n) :
    Calls Tryz.prog 11 #[v] w fun e w' => e = .returned (.bool true) ∧ Below w.heap.size w w' := by
  obtain ⟨A, c, rfl, hb⟩ := h
  have HBG := Lib.hid (l_big w A n c)
  by_cases h4 : 4096 < n
  · have hd : decide (4096 < n) = true := by simp [h4]
    rw [hd] at HBG
    clear hd h4 hb
    go_enter Tryz.func11, Tryz.ntmps11
    go_wp2_with (go_at_call 15; refine HBG.out.mono ?_; rintro e w0 ⟨rfl, rfl⟩)
    go_ret
    exact ⟨rfl, Below.refl _ _⟩
  · have hd : decide (4096 < n) = false := by simp [h4]
    rw [hd] at HBG
    have HDR := Lib.hid (s_DrawSubstituteMap w A n c hb (by omega))
    have HBY := Lib.hid hb
    have hn4 : n ≤ 1000000 := by omega
    clear hd h4 hb
    go_enter Tryz.func11, Tryz.ntmps11
    go_upto_region 4 with (first
      | (go_at_call 15; refine HBG.out.mono ?_; rintro e w0 ⟨rfl, rfl⟩)
      | (go_at_call 40; go_loud (refine HDR.out.mono ?_; rintro e w1 ⟨x, y, rfl, b, a, hib, hia, hb1⟩; obtain ⟨Ab, cb, rfl, -, -, -⟩ := hib.open_; obtain ⟨Aa, ca, rfl, -, -, -⟩ := hia.open_; have HIB := Lib.hid hib; have HIA := Lib.hid hia; have HB1 := Lib.hid hb1; clear hib hia hb1)))
    clear HBG HDR
    have HS1 := Lib.hid (i_SubstituteMap w1 _ _ b a HIB.out HIA.out)
    have HS2 := Lib.hid (fun X (hX : Below w1.heap.size w1 X) => s_SubstituteMap X _ _ b a (HIB.out.below hX) (HIA.out.below hX))
    by_cases hc : infA b [a] = 0
    · obtain ⟨hm1, hm2, b0⟩ := infA_zero hc
      obtain ⟨lb, nb⟩ := mapB_true hm1
      obtain ⟨la, na⟩ := mapB_true hm2
      have nb : Nums b := nb
      have na : Nums a := na
      have hsr : sbmR b a = subZ b a := if_pos hc
      rw [hc, hsr] at HS1
      simp only [hc, hsr] at HS2
      rw [lb] at HIB HS1 HS2 ⊢
      rw [la] at HIA HS1 HS2 ⊢
      have HLB := Lib.hid lb
      have HNB := Lib.hid nb
      have HB0 := Lib.hid b0
      have HLA := Lib.hid la
      have HNA := Lib.hid na
      have HIC := Lib.hid (show infC b = 0 from by unfold infC; rw [hm1, if_pos rfl, if_pos b0])
      clear hc hsr hm1 hm2 b0 lb nb la na
      -- the program's map and the reference's
      go_upto_region 10 with (first
        | (go_at_call 18; go_loud (refine HS1.out.mono ?_; rintro e w2 ⟨xc, rfl, ho2, hb2⟩; have HXC := Lib.hid ho2.ints; have HB2 := Lib.hid hb2; clear ho2 hb2))
        | (go_at_call 41; go_loud (refine (HS2.out _ HB2.out).mono ?_; rintro e w3 ⟨xd, rfl, ho3, hb3⟩; have HXD := Lib.hid ho3.ints; have HB3 := Lib.hid (HB2.out.trans (hb3.mono HB2.out.size)); have HXC3 := Lib.hid (HXC.out.below hb3); clear ho3 hb3))
        | (go_at_call 21; (refine (l_likeInts _ _ _ _ _ HXC3.out HXD.out).mono ?_); go_loud (rw [show decide (subZ b a = subZ b a) = true from decide_eq_true rfl]; rintro e w4 ⟨rfl, n4, hw4⟩; have HB34 := Lib.hid (show Below w3.heap.size w3 w4 from by rw [hw4]; exact below_drewN (Below.refl _ _) n4); have HB4 := Lib.hid (HB3.out.trans (HB34.out.mono HB3.out.size)); clear hw4)))
      have HXC4 := Lib.hid (HXC3.out.below HB34.out)
      have HIB4 := Lib.hid (HIB.out.below HB4.out)
      have HIA4 := Lib.hid (HIA.out.below HB4.out)
      have HBW4 := Lib.hid (HB1.out.trans (HB4.out.mono HB1.out.size))
      clear HS1 HS2 HXC HXD HB2 HB3 HXC3 HB34 HB4 HB1 HIB HIA
      have hEa : subZ unitL a = a := subZ_unL HNA.out HLA.out
      have hEb : subZ b unitL = b := subZ_unR HNB.out HLB.out HB0.out
      -- the unit
      go_upto_region 15 with (first
        | (go_at_call 42; go_loud (refine (i_SubstitutionUnit _).mono ?_; rintro e w5 ⟨xu, rfl, ho5, hb5⟩; obtain ⟨Au, cu, he, -, -, -⟩ := ho5.ints.open_; rw [show unitL.length = 38 from rfl] at he; subst he; have HXU := Lib.hid ho5.ints; have HB5 := Lib.hid hb5; clear ho5 hb5))
        | (go_at_call 18; (with_reducible refine (i_SubstMap0 w5 (.slice Au 38 cu) (.slice Aa 38 ca) unitL a HXU.out (HIA4.out.below HB5.out) rfl unitL_num rfl HLA.out HNA.out).mono ?_); go_loud (rw [hEa]; rintro e w6 ⟨x6, rfl, ho6, hb6⟩; have HX6 := Lib.hid ho6.ints; have HU6 := Lib.hid (HXU.out.below hb6); have HB6 := Lib.hid (HB5.out.trans (hb6.mono HB5.out.size)); clear ho6 hb6))
        | (go_at_call 18; (with_reducible refine (i_SubstMap0 w6 (.slice Ab 38 cb) (.slice Au 38 cu) b unitL (HIB4.out.below HB6.out) HU6.out HLB.out HNB.out HB0.out rfl unitL_num).mono ?_); go_loud (rw [hEb]; rintro e w7 ⟨x7, rfl, ho7, hb7⟩; have HX7 := Lib.hid ho7.ints; have HY6 := Lib.hid (HX6.out.below hb7); have HU7 := Lib.hid (HU6.out.below hb7); have HB7 := Lib.hid (HB6.out.trans (hb7.mono HB6.out.size)); clear ho7 hb7))
        | (go_at_call 21; (with_reducible refine (l_likeInts w7 x6 _ _ _ HY6.out (HIA4.out.below HB7.out)).mono ?_); go_loud (rw [show decide (a = a) = true from decide_eq_true rfl]; rintro e w8 ⟨rfl, n8, hw8⟩; have HB78 := Lib.hid (show Below w7.heap.size w7 w8 from by rw [hw8]; exact below_drewN (Below.refl _ _) n8); have HB8 := Lib.hid (HB7.out.trans (HB78.out.mono HB7.out.size)); have HX78 := Lib.hid (HX7.out.below HB78.out); clear hw8))
        | (go_at_call 21; (with_reducible refine (l_likeInts w8 x7 _ _ _ HX78.out (HIB4.out.below HB8.out)).mono ?_); go_loud (rw [show decide (b = b) = true from decide_eq_true rfl]; rintro e w9 ⟨rfl, n9, hw9⟩; have HB89 := Lib.hid (show Below w8.heap.size w8 w9 from by rw [hw9]; exact below_drewN (Below.refl _ _) n9); have HB9 := Lib.hid (HB8.out.trans (HB89.out.mono HB8.out.size)); clear hw9)))
      have HU9 := Lib.hid ((HU7.out.below HB78.out).below HB89.out)
      have HXC9 := Lib.hid (HXC4.out.below HB9.out)
      have HIB9 := Lib.hid (HIB4.out.below HB9.out)
      have HIA9 := Lib.hid (HIA4.out.below HB9.out)
      have HBW9 := Lib.hid (HBW4.out.trans (HB9.out.mono HBW4.out.size))
      have HRO := Lib.hid (l_roll w9 A n c 616 ((HBY.out.below (Nat.le_refl _) HBW9.out).mono HBW9.out.size) hn4 (by omega) (by omega))
      clear HXU HX6 HU6 HB5 HB6 HX7 HY6 HU7 HB7 HB78 HB8 HX78 HB89 HB9 hEa hEb HXC4 HIB4 HIA4 HBW4 HBY
      -- a list that is drawn
      go_upto_region 16 with (go_at_call 16; go_loud (refine HRO.out.mono ?_; rintro e w10 ⟨p, rfl, hs1, hb1⟩; have HS10 := Lib.hid hs1; have HB10 := Lib.hid hb1; have hpl := hs1.lt; have hpg := hs1.ge; clear hs1 hb1))
      have HE0 := Lib.hid (show Own (w10.alloc (.cells #[.int .i64 0] tI)) w10.heap.size tI (.slice (some ⟨w10.heap.size, 0, none⟩) 1 1) (ints [0]) from own_lit w10 tI [.int .i64 0] (by simp [maxLen]))
      have HSL := Lib.hid (HS10.out.below (below1 w10 (.cells #[.int .i64 0] tI)))
      have HBA := Lib.hid (HB10.out.trans ((below1 w10 (.cells #[.int .i64 0] tI)).mono HB10.out.size))
      have hpa : p < (w10.alloc (.cells #[.int .i64 0] tI)).heap.size := HSL.out.lt
      have HL5 := Lib.hid (l_list5 _ _ p 37 HSL.out (by omega))
      go_upto_region 17 with (first
        | (go_at_call 43; go_loud (refine HL5.out.mono ?_; rintro e w11 ⟨x11, rfl, zs, ho11, lz, nz, hg11, hs11⟩; have HZ := Lib.hid ho11; have HLZ := Lib.hid lz; have HNZ := Lib.hid nz; have HG11 := Lib.hid hg11; have HE1 := Lib.hid (HE0.out.src hpl hg11); clear ho11 lz nz hg11 hs11))
        | (at_builtin; go_loud (refine wpList_appN T_int HE1.out HZ.out.1.cells (by rw [ints_len, ints_len, HLZ.out]; simp) (Nat.le_trans (below1 w10 _).size HG11.out.size) (fun u hu => by simp only [ints, List.mem_map] at hu; obtain ⟨z, -, rfl⟩ := hu; rfl) (by rfl) rfl (by rfl) (by rfl) ?_; intro v12 w12 hown12 hgr12; have HN12 := Lib.hid hown12; have HR12 := Lib.hid hgr12; clear hown12 hgr12)))
      obtain ⟨ze, hze⟩ : ∃ ze : List Int, ze = 0 :: zs := ⟨_, rfl⟩
      have HLE := Lib.hid (show ze.length = 38 from by rw [hze, List.length_cons, HLZ.out])
      have HNE := Lib.hid (show Nums ze from by
        rw [hze]
        intro z hz
        rcases List.mem_cons.1 hz with rfl | h
        · omega
        · exact HNZ.out z h)
      have HE00 := Lib.hid (show ze.getD 0 0 = 0 from by rw [hze]; rfl)
      have hie : Ints w12 v12 ze := by
        rw [hze]
        exact ⟨(show Own w12 w10.heap.size tI v12 (ints (0 :: zs)) from HN12.out).cells, fun z hz => by
          rcases List.mem_cons.1 hz with rfl | h
          · unfold In64; omega
          · have := HNZ.out z h; unfold In64; omega⟩
      obtain ⟨Ae, ce, he, -, -, -⟩ := hie.open_
      rw [HLE.out] at he
      subst he
      have HIE := Lib.hid hie
      have HB12 := Lib.hid (show Below w9.heap.size w9 w12 from HR12.out.below (HBA.out.grown HG11.out HBA.out.size (by rintro k ⟨⟩; exact hpg)) (Nat.le_trans HBA.out.size HG11.out.size) (fun b hb => by have := HE1.out.ge b hb; exact Nat.le_trans HB10.out.size this))
      have HEQ := Lib.hid (show decide (subZ ze (subZ b a) = subZ (subZ ze b) a) = true from decide_eq_true (subZ_assoc HNA.out).symm)
      have HBS := Lib.hid (show (subZ ze b).getD 0 0 = 0 from HB0.out)
      have HXC12 := Lib.hid (HXC9.out.below HB12.out)
      have HIB12 := Lib.hid (HIB9.out.below HB12.out)
      have HIA12 := Lib.hid (HIA9.out.below HB12.out)
      have HU12 := Lib.hid (HU9.out.below HB12.out)
      have HBW12 := Lib.hid (HBW9.out.trans (HB12.out.mono HBW9.out.size))
      clear hie hze HRO HS10 HB10 hpl hpg HE0 HSL HBA hpa HL5 HZ HLZ HNZ HG11 HE1 HN12 HR12 HXC9 HIB9 HIA9 HU9 HBW9 HB12
      -- associative
      go_upto_region 22 with (first
        | (go_at_call 18; (with_reducible refine (i_SubstMap0 w12 (.slice Ae 38 ce) xc ze (subZ b a) HIE.out HXC12.out HLE.out HNE.out HE00.out (subZ_len _ _) (subZ_nums HNA.out)).mono ?_); go_loud (rintro e w13 ⟨x13, rfl, ho13, hb13⟩; have HX13 := Lib.hid ho13.ints; have HB13 := Lib.hid hb13; clear ho13 hb13))
        | (go_at_call 18; (with_reducible refine (i_SubstMap0 w13 (.slice Ae 38 ce) (.slice Ab 38 cb) ze b (HIE.out.below HB13.out) (HIB12.out.below HB13.out) HLE.out HNE.out HE00.out HLB.out HNB.out).mono ?_); go_loud (rintro e w14 ⟨x14, rfl, ho14, hb14⟩; have HX14 := Lib.hid ho14.ints; have HY13 := Lib.hid (HX13.out.below hb14); have HB14 := Lib.hid (HB13.out.trans (hb14.mono HB13.out.size)); clear ho14 hb14))
        | (go_at_call 18; (with_reducible refine (i_SubstMap0 w14 x14 (.slice Aa 38 ca) (subZ ze b) a HX14.out (HIA12.out.below HB14.out) (subZ_len _ _) (subZ_nums HNB.out) HBS.out HLA.out HNA.out).mono ?_); go_loud (rintro e w15 ⟨x15, rfl, ho15, hb15⟩; have HX15 := Lib.hid ho15.ints; have HZ13 := Lib.hid (HY13.out.below hb15); have HB15 := Lib.hid (HB14.out.trans (hb15.mono HB14.out.size)); clear ho15 hb15))
        | (go_at_call 21; (refine (l_likeInts w15 x13 x15 _ _ HZ13.out HX15.out).mono ?_); go_loud (rw [HEQ.out]; rintro e w16 ⟨rfl, n16, hw16⟩; have HB16 := Lib.hid (show Below w12.heap.size w12 w16 from by rw [hw16]; exact below_drewN HB15.out n16); clear hw16)))
      have HIB16 := Lib.hid (HIB12.out.below HB16.out)
      have HU16 := Lib.hid (HU12.out.below HB16.out)
      have HBW16 := Lib.hid (HBW12.out.trans (HB16.out.mono HBW12.out.size))
      have HSI := Lib.hid (i_SubstitutionInverse w16 (.slice Ab 38 cb) b HIB16.out)
      obtain ⟨ad, he, -, -, -⟩ := map_cell HIB16.out HNB.out (k := 1) (by omega)
      subst he
      have HM1 := Lib.hid (fun X (hX : Below w16.heap.size w16 X) => map_one (HIB16.out.below hX) HNB.out)
      clear HIE HLE HNE HE00 HEQ HXC12 HIB12 HIA12 HU12 HBW12 HX13 HB13 HX14 HY13 HB14 HX15 HZ13 HB15 HB16
      obtain ⟨y1, hy1⟩ : ∃ y1, y1 = b.getD 1 0 := ⟨_, rfl⟩
      rw [← hy1] at HM1
      by_cases hz : y1 = 0
      · have hsc : sbiC b = 5 := by unfold sbiC; rw [if_pos HIC.out, if_pos (by rw [← hy1]; exact hz)]
        have hd1 : (y1 != 0) = false := by simp [hz]
        rw [hsc] at HSI
        clear hsc hz hy1
        go_wp2_with (go_at_call 44; go_loud (refine HSI.out.mono ?_; rintro e w17 ⟨x17, rfl, ho17, hb17⟩; have hm1 := HM1.out w17 hb17; have HB17 := Lib.hid (HBW16.out.trans (hb17.mono HBW16.out.size)); clear ho17 hb17))
        go_ret
        exact ⟨rfl, HB17.out⟩
      · have hne : b.getD 1 0 ≠ 0 := by rw [← hy1]; exact hz
        have hsc : sbiC b = 0 := by unfold sbiC; rw [if_pos HIC.out, if_neg hne]
        have hsr : sbiR b = invZ b := by unfold sbiR; rw [if_pos hsc]
        have hd1 : (y1 != 0) = true := by simp [hz]
        rw [hsc, hsr] at HSI
        have HR1 := Lib.hid (invZ_right HNB.out hne)
        have HR2 := Lib.hid (invZ_left HNB.out HLB.out HB0.out hne)
        clear hsc hz hy1 hsr hne
        go_wp2_with (first
          | (go_at_call 44; go_loud (refine HSI.out.mono ?_; rintro e w17 ⟨x17, rfl, ho17, hb17⟩; have hm1 := HM1.out w17 hb17; have HX17 := Lib.hid ho17.ints; have HB17 := Lib.hid hb17; clear ho17 hb17))
          | (go_at_call 18; (with_reducible refine (i_SubstMap0 w17 (.slice (some ad) 38 cb) x17 b (invZ b) (HIB16.out.below HB17.out) HX17.out HLB.out HNB.out HB0.out (invZ_len _) (invZ_nums' _)).mono ?_); go_loud (rw [HR1.out]; rintro e w18 ⟨x18, rfl, ho18, hb18⟩; have HX18 := Lib.hid ho18.ints; have HY17 := Lib.hid (HX17.out.below hb18); have HB18 := Lib.hid (HB17.out.trans (hb18.mono HB17.out.size)); clear ho18 hb18))
          | (go_at_call 18; (with_reducible refine (i_SubstMap0 w18 x17 (.slice (some ad) 38 cb) (invZ b) b HY17.out (HIB16.out.below HB18.out) (invZ_len _) (invZ_nums' _) (invZ_head _) HLB.out HNB.out).mono ?_); go_loud (rw [HR2.out]; rintro e w19 ⟨x19, rfl, ho19, hb19⟩; have HX19 := Lib.hid ho19.ints; have HY18 := Lib.hid (HX18.out.below hb19); have HB19 := Lib.hid (HB18.out.trans (hb19.mono HB18.out.size)); clear ho19 hb19))
          | (go_at_call 21; (with_reducible refine (l_likeInts w19 x18 _ _ _ HY18.out (HU16.out.below HB19.out)).mono ?_); go_loud (rw [show decide (unitL = unitL) = true from decide_eq_true rfl]; rintro e w20 ⟨rfl, n20, hw20⟩; have HB20 := Lib.hid (show Below w19.heap.size w19 w20 from by rw [hw20]; exact below_drewN (Below.refl _ _) n20); have HB20W := Lib.hid (HB19.out.trans (HB20.out.mono HB19.out.size)); clear hw20))
          | (go_at_call 21; (with_reducible refine (l_likeInts w20 x19 _ _ _ (HX19.out.below HB20.out) (HU16.out.below HB20W.out)).mono ?_); go_loud (rw [show decide (unitL = unitL) = true from decide_eq_true rfl]; rintro e w21 ⟨rfl, n21, hw21⟩; have HB21 := Lib.hid (show Below w16.heap.size w16 w21 from by rw [hw21]; exact below_drewN HB20W.out n21); clear hw21)))
        go_ret
        exact ⟨rfl, HBW16.out.trans (HB21.out.mono HBW16.out.size)⟩
    · have hsr : sbmR b a = [] := if_neg hc
      rw [hsr] at HS1
      simp only [hsr] at HS2
      have hd : (infA b [a] != 0) = true := by simp [hc]
      generalize infA b [a] = cc at *
      clear hc hsr
      go_wp2_with (first
        | (go_at_call 18; go_loud (refine HS1.out.mono ?_; rintro e w2 ⟨xc, rfl, ho2, hb2⟩; have HXC := Lib.hid ho2.ints; have HB2 := Lib.hid hb2; clear ho2 hb2))
        | (go_at_call 41; go_loud (refine (HS2.out _ HB2.out).mono ?_; rintro e w3 ⟨xd, rfl, ho3, hb3⟩; have HXD := Lib.hid ho3.ints; have HB3 := Lib.hid (HB2.out.trans (hb3.mono HB2.out.size)); have HXC3 := Lib.hid (HXC.out.below hb3); clear ho3 hb3))
        | (go_at_call 21; (refine (l_likeInts _ _ _ _ _ HXC3.out HXD.out).mono ?_); go_loud (rw [show decide (([] : List Int) = []) = true from decide_eq_true rfl]; rintro e w4 ⟨rfl, n4, hw4⟩; have HB4 := Lib.hid (show Below w1.heap.size w1 w4 from by rw [hw4]; exact below_drewN HB3.out n4); clear hw4)))
      go_ret
      exact ⟨rfl, HB1.out.trans (HB4.out.mono HB1.out.size)⟩
end Go.Proofs.YtngdpoeondnchaaGreat

set_option maxRecDepth 100000
set_option linter.unusedVariables false
set_option linter.unusedSimpArgs false
namespace Go.Proofs.YtngdpoeondnchaaGreat
open Go.RowKit

end Go.Proofs.YtngdpoeondnchaaGreat

