/- The law FnAdjointMaps, walked. | Arguments that came in, opened to the words of the Mem text. | Byte slices that came in, opened. -/
import Derived.Test.YtdjhfeaimmpmhaaGreatZm36
import Derived.Test.YtdjhfeaimmpmhaaGreatRows
import Derived.Test.YtdjhfeaimmpmhaaGreatZm2
import Derived.WalkKit
import Derived.ProofKit
import Derived.OpenShut
import Derived.Test.YtdjhfeaimmpmhaaGreatZm24
set_option maxRecDepth 100000
set_option linter.unusedVariables false
set_option linter.unusedSimpArgs false
namespace Go.Proofs.YtdjhfeaimmpmhaaGreat
open Go.RowKit

set_option maxHeartbeats 32000000 in
theorem law_AdjointMaps (w : World) (v : Value) (n : Nat) (h : Bts w v n) :
    Calls Tryz.prog 4 #[v] w fun e w' => e = .returned (.bool true) ∧ Below w.heap.size w w' := by
  obtain ⟨A, c, rfl, hb⟩ := h
  have HBG := Lib.hid (l_big w A n c)
  by_cases h4 : 4096 < n
  · have hd : decide (4096 < n) = true := by simp [h4]
    rw [hd] at HBG
    clear hd h4 hb
    go_enter Tryz.func4, Tryz.ntmps4
    go_wp2_with (go_at_call 9; refine HBG.out.mono ?_; rintro e w0 ⟨rfl, rfl⟩)
    go_ret
    exact ⟨rfl, Below.refl _ _⟩
  · have hd : decide (4096 < n) = false := by simp [h4]
    rw [hd] at HBG
    have HDR := Lib.hid (s_DrawAdjointMap w A n c hb (by omega))
    have HBY := Lib.hid hb
    have hn4 : n ≤ 1000000 := by omega
    clear hd h4 hb
    go_enter Tryz.func4, Tryz.ntmps4
    go_upto_region 4 with (first
      | (go_at_call 9; refine HBG.out.mono ?_; rintro e w0 ⟨rfl, rfl⟩)
      | (go_at_call 18; go_loud (refine HDR.out.mono ?_; rintro e w1 ⟨x, rfl, a, hz, hb1⟩; obtain ⟨Aa, ca, rfl, -, -, -⟩ := hz.open_; have HZ := Lib.hid hz; have HB1 := Lib.hid hb1; clear hz hb1)))
    clear HBG HDR
    by_cases hc : chrC a = 0
    · have hC := chr_is hc
      have HC := Lib.hid hC
      have HA1 := Lib.hid (i_AdjointMap0 w1 _ a HZ.out hC)
      have HA2 := Lib.hid (fun X (hX : Below w1.heap.size w1 X) => s_AdjointMap X (.slice Aa a.length ca) a (HZ.out.below hX))
      have HS3 := Lib.hid (fun X (hX : Below w1.heap.size w1 X) => i_SymmetrizeMap X (.slice Aa a.length ca) a (HZ.out.below hX))
      simp only [hc] at HA2 HS3
      have HSR := Lib.hid (show symRM a = symL a hfN from if_pos hc)
      simp only [HSR.out] at HS3
      have hl : a.length = 38 := hC.len
      rw [hl] at HZ HA1 HA2 HS3 ⊢
      clear hc hC hl
      go_upto_region 9 with (first
        | (go_at_call 19; go_loud (refine HA1.out.mono ?_; rintro e w2 ⟨x2, rfl, ho2, hb2⟩; have HX2 := Lib.hid ho2.ints; have HB2 := Lib.hid hb2; clear ho2 hb2))
        | (go_at_call 20; go_loud (refine (HA2.out _ HB2.out).mono ?_; rintro e w3 ⟨x3, rfl, ho3, hb3⟩; have HX3 := Lib.hid (HX2.out.below hb3); have HB3 := Lib.hid (HB2.out.trans (hb3.mono HB2.out.size)); clear ho3 hb3))
        | (go_at_call 21; go_loud (refine (HS3.out _ HB3.out).mono ?_; rintro e w4 ⟨x4, rfl, ho4, hb4⟩; have HM4 := Lib.hid ho4.ints; have HX4 := Lib.hid (HX3.out.below hb4); have HB4 := Lib.hid (HB3.out.trans (hb4.mono HB3.out.size)); clear ho4 hb4)))
      have HBW4 := Lib.hid (HB1.out.trans (HB4.out.mono HB1.out.size))
      have HZ4 := Lib.hid (HZ.out.below HB4.out)
      have HRO := Lib.hid (l_roll w4 A n c 1182 ((HBY.out.belowA (Nat.le_refl _) HBW4.out).monoA HBW4.out.size) hn4 (by omega) (by omega))
      clear HA1 HA2 HS3 HX2 HX3 HB2 HB3 HB4 HZ HBY
      go_upto_region 12 with (first
        | (go_at_call 23; go_loud (refine HRO.out.mono ?_; rintro e w5 ⟨p, rfl, hs1, hb1⟩; have HS5 := Lib.hid hs1; have HB5 := Lib.hid hb1; have hpl := hs1.lt; have hpg := hs1.ge; clear hs1 hb1))
        | (go_at_call 22; go_loud (refine (l_map9 w5 _ p 1 HS5.out (by omega)).mono ?_; rintro e w6 ⟨xb, rfl, b, ho6, lb, nb, b0, hg6, hs6⟩; have HIB := Lib.hid ho6.ints; have HCB := Lib.hid (show Chr b from ⟨lb, nb, b0⟩); have HB6 := Lib.hid (HB5.out.grown hg6 HB5.out.size (fun k e => by injection e with e; omega)); clear ho6 lb nb b0 hg6 hs6)))
      have HZ6 := Lib.hid (HZ4.out.below HB6.out)
      have HX6 := Lib.hid (HX4.out.below HB6.out)
      have HM6 := Lib.hid (HM4.out.below HB6.out)
      have HBW6 := Lib.hid (HBW4.out.trans (HB6.out.mono HBW4.out.size))
      have HCX := Lib.hid (chr_adjL a)
      have HCM := Lib.hid (show Chr (symL a hfN) from chr_cvZ (chr_scZ HC.out _) (chr_scZ (chr_adjL a) _))
      have HCL := Lib.hid (chr_scZ HCX.out 1)
      have HLE := Lib.hid (adjL_twice HC.out)
      have HLM := Lib.hid (adjL_mul HC.out HCB.out)
      have HSM := Lib.hid (show decide (adjL (symL a hfN) = symL a hfN) = true from decide_eq_true (adjL_sym HC.out hfN))
      have HLT := Lib.hid (log_turn HC.out)
      clear HRO HS5 HB5 hpl hpg HZ4 HX4 HM4 HBW4 HB6
      go_upto_region 17 with (first
        | (go_at_call 19; (with_reducible refine (i_AdjointMap0 w6 x2 (adjL a) HX6.out HCX.out).mono ?_); rw [HLE.out]; go_loud (rintro e w7 ⟨x7, rfl, ho7, hb7⟩; have HX7 := Lib.hid ho7.ints; have HB7 := Lib.hid hb7; clear ho7 hb7))
        | (go_at_call 19; (with_reducible refine (i_AdjointMap0 w7 xb b (HIB.out.below HB7.out) HCB.out).mono ?_); go_loud (rintro e w8 ⟨x8, rfl, ho8, hb8⟩; have HX8 := Lib.hid ho8.ints; have HB8 := Lib.hid (HB7.out.trans (hb8.mono HB7.out.size)); have HX78 := Lib.hid (HX7.out.below hb8); clear ho8 hb8))
        | (go_at_call 24; (with_reducible refine (l_conv9 w8 _ xb a b (HZ6.out.below HB8.out) (HIB.out.below HB8.out) HC.out.len HC.out.num HC.out.one HCB.out.len HCB.out.num).mono ?_); go_loud (rintro e w9 ⟨x9, rfl, ho9, hb9⟩; have HX9 := Lib.hid ho9.ints; have HB9 := Lib.hid (HB8.out.trans (hb9.mono HB8.out.size)); have HX79 := Lib.hid (HX78.out.below hb9); have HX89 := Lib.hid (HX8.out.below hb9); clear ho9 hb9))
        | (go_at_call 19; (with_reducible refine (i_AdjointMap0 w9 x9 (cvZ a b) HX9.out (chr_cvZ HC.out HCB.out)).mono ?_); rw [HLM.out]; go_loud (rintro e w10 ⟨x10, rfl, ho10, hb10⟩; have HX10 := Lib.hid ho10.ints; have HB10 := Lib.hid (HB9.out.trans (hb10.mono HB9.out.size)); have HXA := Lib.hid (HX79.out.below hb10); have HXB := Lib.hid (HX89.out.below hb10); clear ho10 hb10))
        | (go_at_call 25; (with_reducible refine (i_IsSymmetricMap0 w10 x4 (symL a hfN) (HM6.out.below HB10.out) HCM.out).mono ?_); rw [HSM.out]; go_loud (rintro e w11 ⟨rfl, hb11⟩; have HB11 := Lib.hid (HB10.out.trans (hb11.mono HB10.out.size)); have HB1011 := Lib.hid hb11; clear hb11))
        | (go_at_call 25; (with_reducible refine (i_IsSymmetricMap0 w11 _ a (HZ6.out.below HB11.out) HC.out).mono ?_); go_loud (rintro e w12 ⟨rfl, hb12⟩; have HB12 := Lib.hid (HB11.out.trans (hb12.mono HB11.out.size)); have HB1012 := Lib.hid (HB1011.out.trans (hb12.mono HB1011.out.size)); clear hb12)))
      have HZ12 := Lib.hid (HZ6.out.below HB12.out)
      have HX12 := Lib.hid (HX6.out.below HB12.out)
      have HXA12 := Lib.hid (HXA.out.below HB1012.out)
      have HXB12 := Lib.hid (HXB.out.below HB1012.out)
      have HX1012 := Lib.hid (HX10.out.below HB1012.out)
      have HBW12 := Lib.hid (HBW6.out.trans (HB12.out.mono HBW6.out.size))
      clear HX7 HB7 HX8 HB8 HX78 HX9 HB9 HX79 HX89 HX10 HB10 HXA HXB HB11 HB1011 HB12 HB1012 HM6 HZ6 HX6 HBW6 HIB
      generalize hq : decide (adjL a = a) = q at *
      have HQ := Lib.hid hq
      clear hq
      go_upto_region 20 with (first
        | (go_at_call 26; (with_reducible refine (i_LogMap0 w12 _ a HZ12.out HC.out.len HC.out.num HC.out.one).mono ?_); go_loud (rintro e w13 ⟨x13, rfl, ho13, hb13⟩; have HX13 := Lib.hid ho13.ints; have HB13 := Lib.hid hb13; clear ho13 hb13))
        | (go_at_call 26; (with_reducible refine (i_LogMap0 w13 x2 (adjL a) (HX12.out.below HB13.out) HCX.out.len HCX.out.num HCX.out.one).mono ?_); go_loud (rintro e w14 ⟨x14, rfl, ho14, hb14⟩; have HX14 := Lib.hid ho14.ints; have HB14 := Lib.hid (HB13.out.trans (hb14.mono HB13.out.size)); have HX1314 := Lib.hid (HX13.out.below hb14); clear ho14 hb14))
        | (go_at_call 27; (with_reducible refine (i_ScaleMap0 w14 x13 (lgZ a) 10006 HX1314.out (lgZ_len _) (lgZ_nums _) (by omega) (by omega)).mono ?_); go_loud (rintro e w15 ⟨x15, rfl, ho15, hb15⟩; have HX15 := Lib.hid ho15.ints; have HB15 := Lib.hid (HB14.out.trans (hb15.mono HB14.out.size)); have HX1415 := Lib.hid (HX14.out.below hb15); clear ho15 hb15)))
      clear HX13 HB13 HX14 HB14 HX1314
      go_upto_region 23 with (at_make; refine wpList_mk rfl _ _ _ rfl _ _ _ T_int 38 _ rfl rfl rfl (by omega) _ ?_; intro w16 hown hb16 hs16; have HO16 := Lib.hid (show Ints w16 (.slice (some ⟨w15.heap.size, 0, none⟩) 38 38) (List.replicate 38 0) from ⟨(show Own w16 w15.heap.size tI _ (ints (List.replicate 38 0)) from hown).cells, fun z hz => by rw [List.eq_of_mem_replicate hz]; unfold In64; omega⟩); have HB16 := Lib.hid (HB15.out.trans (hb16.mono HB15.out.size)); have HX15' := Lib.hid (HX15.out.below hb16); have HX14' := Lib.hid (HX1415.out.below hb16); clear hown hb16 hs16)
      generalize (Value.slice (some ⟨w15.heap.size, 0, none⟩) 38 38) = x16 at HO16 ⊢
      have HZ16 := Lib.hid (HZ12.out.below HB16.out)
      have HX16 := Lib.hid (HX12.out.below HB16.out)
      have HA16 := Lib.hid (HXA12.out.below HB16.out)
      have HB16' := Lib.hid (HXB12.out.below HB16.out)
      have HC16 := Lib.hid (HX1012.out.below HB16.out)
      have HBW16 := Lib.hid (HBW12.out.trans (HB16.out.mono HBW12.out.size))
      clear HX15 HB15 HX1415 HZ12 HX12 HXA12 HXB12 HX1012 HBW12 HB16
      go_wp2_with (first
        | (go_at_call 15; (with_reducible refine (l_likeInts w16 x7 _ a a HA16.out HZ16.out).mono ?_); go_loud (rw [show decide (a = a) = true from decide_eq_true rfl]; rintro e w17 ⟨rfl, n17, hw17⟩; have HB17 := Lib.hid (show Below w16.heap.size w16 w17 from by rw [hw17]; exact below_drewN (Below.refl _ _) n17); clear hw17))
        | (go_at_call 24; (with_reducible refine (l_conv9 w17 x8 x2 (adjL b) (adjL a) (HB16'.out.below HB17.out) (HX16.out.below HB17.out) (chr_adjL b).len (chr_adjL b).num (chr_adjL b).one HCX.out.len HCX.out.num).mono ?_); go_loud (rintro e w18 ⟨x18, rfl, ho18, hb18⟩; have HX18 := Lib.hid ho18.ints; have HB18 := Lib.hid (HB17.out.trans (hb18.mono HB17.out.size)); clear ho18 hb18))
        | (go_at_call 15; (with_reducible refine (l_likeInts w18 x18 x10 _ _ HX18.out (HC16.out.below HB18.out)).mono ?_); go_loud (rw [show decide (cvZ (adjL b) (adjL a) = cvZ (adjL b) (adjL a)) = true from decide_eq_true rfl]; rintro e w19 ⟨rfl, n19, hw19⟩; have HB19 := Lib.hid (show Below w16.heap.size w16 w19 from by rw [hw19]; exact below_drewN HB18.out n19); clear hw19))
        | (go_at_call 15; (with_reducible refine (l_likeInts w19 x2 _ (adjL a) a (HX16.out.below HB19.out) (HZ16.out.below HB19.out)).mono ?_); go_loud (rw [HQ.out]; rintro e w20 ⟨rfl, n20, hw20⟩; have HB20 := Lib.hid (show Below w16.heap.size w16 w20 from by rw [hw20]; exact below_drewN HB19.out n20); have hqq : (q == q) = true := (by cases q <;> rfl); clear hw20))
        | (go_at_call 28; (with_reducible refine (l_plus9 w20 x14 x15 (lgZ (adjL a)) (scZ (lgZ a) 10006) (HX14'.out.below HB20.out) (lgZ_len _) (lgZ_nums _) (HX15'.out.below HB20.out) (scZ_len _ _) (scZ_nums _ _)).mono ?_); rw [HLT.out]; go_loud (rintro e w21 ⟨x21, rfl, ho21, hb21⟩; have HX21 := Lib.hid ho21.ints; have HB21 := Lib.hid (HB20.out.trans (hb21.mono HB20.out.size)); clear ho21 hb21))
        | (go_at_call 15; (with_reducible refine (l_likeInts w21 x21 x16 _ _ HX21.out (HO16.out.below HB21.out)).mono ?_); go_loud (rw [show decide (List.replicate 38 (0 : Int) = List.replicate 38 0) = true from decide_eq_true rfl]; rintro e w22 ⟨rfl, n22, hw22⟩; have HB22 := Lib.hid (show Below w16.heap.size w16 w22 from by rw [hw22]; exact below_drewN HB21.out n22); clear hw22)))
      go_ret
      exact ⟨rfl, HBW16.out.trans (HB22.out.mono HBW16.out.size)⟩
    · have hr : adjR a = [] := if_neg hc
      have hd : (chrC a != 0) = true := by simp [hc]
      have HA1 := Lib.hid (i_AdjointMap w1 _ a HZ.out)
      have HA2 := Lib.hid (fun X (hX : Below w1.heap.size w1 X) => s_AdjointMap X (.slice Aa a.length ca) a (HZ.out.below hX))
      have HS3 := Lib.hid (fun X (hX : Below w1.heap.size w1 X) => i_SymmetrizeMap X (.slice Aa a.length ca) a (HZ.out.below hX))
      rw [hr] at HA1
      clear hr hc
      generalize chrC a = cc at *
      go_wp2_with (first
        | (go_at_call 19; go_loud (refine HA1.out.mono ?_; rintro e w2 ⟨x2, rfl, ho2, hb2⟩; obtain ⟨A2, c2, rfl, -, -, -⟩ := ho2.ints.open_; have HB2 := Lib.hid hb2; clear ho2 hb2))
        | (go_at_call 20; go_loud (refine (HA2.out _ HB2.out).mono ?_; rintro e w3 ⟨x3, rfl, ho3, hb3⟩; have HB3 := Lib.hid (HB2.out.trans (hb3.mono HB2.out.size)); clear ho3 hb3))
        | (go_at_call 21; go_loud (refine (HS3.out _ HB3.out).mono ?_; rintro e w4 ⟨x4, rfl, ho4, hb4⟩; have HB4 := Lib.hid (HB3.out.trans (hb4.mono HB3.out.size)); clear ho4 hb4)))
      go_ret
      exact ⟨rfl, HB1.out.trans (HB4.out.mono HB1.out.size)⟩
end Go.Proofs.YtdjhfeaimmpmhaaGreat

set_option maxRecDepth 100000
set_option linter.unusedVariables false
set_option linter.unusedSimpArgs false
namespace Go.Proofs.YtdjhfeaimmpmhaaGreat
open Go.ChangeShapes Go.WideShapes Go.ChangeAt Go.RowKit

end Go.Proofs.YtdjhfeaimmpmhaaGreat

set_option maxRecDepth 100000
set_option linter.unusedVariables false
set_option linter.unusedSimpArgs false
namespace Go.Proofs.YtdjhfeaimmpmhaaGreat
open Go.ChangeShapes Go.WideShapes Go.ChangeAt Go.RowKit

theorem u8_of_wf {z : Int} (h : (Lit.int .u8 z).wf = true) : 0 ≤ z ∧ z ≤ 255 := by
  simp [Lit.wf, IntKind.min, IntKind.max, IntKind.signed, IntKind.bits] at h
  omega
theorem open_bytes {H : Type} {enc : TypeId × Value → H} {W : World} {base : Nat} {v : Value} {d : DataW H} {p : List MemPlace}
    (hv : Value.okWide Tryz.prog W .any base 22 v) (h : DataW.Trod enc Tryz.prog W 0 (fun _ => true) true 22 v d p) : ∃ n, Bts W v n := by
  obtain ⟨a, len, cap, rfl⟩ := okWide_slice Tryz.underlying22 hv
  obtain ⟨fuel, hf⟩ := h
  rcases open_ints Tryz.underlying22 Tryz.underlying5 (by kernel_rfl) hf with ⟨hcs, _⟩ | ⟨x, l, c, zs, hcs, _, hl, hm, hz, _, hcell, hwz⟩
  · simp [Value.cells] at hcs
    obtain ⟨rfl, rfl, rfl⟩ := hcs
    exact ⟨0, none, 0, rfl, fun k hk => by omega⟩
  · simp [Value.cells] at hcs
    obtain ⟨rfl, rfl, rfl⟩ := hcs
    have hz' : zs.length = cap := by simpa using hz
    refine ⟨len, some x, cap, rfl, fun k hk => ?_⟩
    have hk2 : k < zs.length := by omega
    have hc := hcell k (by omega)
    have hw := u8_of_wf (hwz _ (List.getElem_mem hk2))
    have e : zs.getD k 0 = zs[k] := by simp [List.getD, hk2]
    rw [e] at hc
    have hb := World.block_lt_of_cell? W _ hc
    rw [block_add] at hb
    exact ⟨x, zs[k], rfl, hb, hb, hw.1, hw.2, hc⟩
end Go.Proofs.YtdjhfeaimmpmhaaGreat

