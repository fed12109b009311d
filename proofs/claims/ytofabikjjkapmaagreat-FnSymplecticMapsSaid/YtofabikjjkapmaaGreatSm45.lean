import Derived.Test.YtofabikjjkapmaaGreatSm31
import Derived.Test.YtofabikjjkapmaaGreatSm43
import Derived.Test.YtofabikjjkapmaaGreatSm30
import Derived.Test.YtofabikjjkapmaaGreatSm44
import Derived.Test.YtofabikjjkapmaaGreatRows
import Derived.Test.YtofabikjjkapmaaGreatSm2
import Derived.WalkKit
import Derived.ProofKit
import Derived.OpenShut
set_option maxRecDepth 100000
set_option linter.unusedVariables false
set_option linter.unusedSimpArgs false
namespace Go.Proofs.YtofabikjjkapmaaGreat
open Go.RowKit
theorem chr0S {a : List Int} (h : Chr a) : chrC a = 0 := by
 unfold chrC
 rw [if_pos (inf_map h.len h.num), if_pos h.one]
theorem chr_isS {a : List Int} (h : chrC a = 0) : Chr a := by
 obtain ⟨hm, h0⟩ := chr_of h
 obtain ⟨l, n⟩ := mapB_true hm
 exact ⟨l, n, h0⟩
theorem toV_sixS {a : List Int} {c : Int} (h : ¬ toV a c < 6) : ToR a c 6 := by
 unfold toV at h
 by_cases hx : ∃ r, ToR a c r
 · rw [dif_pos hx] at h
   have h1 := Classical.choose_spec hx
   have h2 := h1.le
   rw [show Classical.choose hx = 6 by omega] at h1
   exact h1
 · rw [dif_neg hx] at h
   omega
theorem sto_six {a : List Int} (h : Chr a) (ht : ToR a 1 6) : stoR a = 6 /\ chrC a = 0 := by
 refine ⟨?_, chr0S h⟩
 unfold stoR
 rw [if_pos (chr0S h), toV_is ht]; rfl
theorem inf_zero {b : List Int} (l : b.length = 38) (n : Nums b) (b0 : b.getD 0 0 = 0) : infC b = 0 := by unfold infC; rw [if_pos (inf_map l n), if_pos b0]
theorem hto_six {b : List Int} (l : b.length = 38) (n : Nums b) (b0 : b.getD 0 0 = 0) (ht : ToR b 0 6) : htoR b = 6 /\ infC b = 0 := by
 refine ⟨?_, inf_zero l n b0⟩
 unfold htoR
 rw [if_pos (inf_zero l n b0), toV_is ht]; rfl
theorem rdo_bad {a : List Int} (h : chrC a ≠ 0) : rdoR a = 0 := if_neg h
theorem rdo_good {a : List Int} (h : chrC a = 0) : rdoR a = rdV a := if_pos h
theorem sm_last {a : List Int} (h : chrC a = 0) : decide (agZ a EX <= rdV a) = true /\ (decide (stoR a < 6) || (rdV a == agZ a EX)) = true := by
 have hc := chr_isS h
 refine ⟨decide_eq_true (red_ge a), ?_⟩
 by_cases hs : stoR a < 6
 · rw [decide_eq_true hs]; rfl
 · have ht : ToR a 1 6 := by
    refine toV_sixS fun hlt => hs ?_
    unfold stoR
    rw [if_pos h]
    omega
   rw [red_eq hc ht]
   simp
set_option maxHeartbeats 64000000 in
theorem law_SymplecticMaps (w : World) (v : Value) (n : Nat) (h : Bts w v n) :
  Calls Tryz.prog 3 #[v] w fun e w' => e = .returned (.bool true) /\ Below w.heap.size w w' := by
 obtain ⟨A, c, rfl, hb⟩ := h
 have HBG := Lib.hid (l_big w A n c)
 by_cases h4 : 4096 < n
 · have hd : decide (4096 < n) = true := by simp [h4]
   rw [hd] at HBG
   clear hd h4 hb
   go_enter Tryz.func3, Tryz.ntmps3
   go_wp2_with (go_at_call 6; refine HBG.out.mono ?_; rintro e w0 ⟨rfl, rfl⟩)
   go_ret
   exact ⟨rfl, Below.refl _ _⟩
 · have hd : decide (4096 < n) = false := by simp [h4]
   rw [hd] at HBG
   have HRO := Lib.hid (l_roll w A n c 1121 hb (by omega) (by omega) (by omega))
   have HBY := Lib.hid hb
   have hn4 : n <= 4096 := by omega
   clear hd h4 hb
   go_enter Tryz.func3, Tryz.ntmps3
   go_upto_region 5 with (first
    | (go_at_call 6; refine HBG.out.mono ?_; rintro e w0 ⟨rfl, rfl⟩)
    | (go_at_call 7; go_loud (refine HRO.out.mono ?_; rintro e w1 ⟨p, rfl, hs1, hb1⟩; have HS1 := Lib.hid hs1; have HB1 := Lib.hid hb1; have hpg := hs1.ge; have hpl := hs1.lt; clear hs1 hb1))
    | (go_at_call 8; (with_reducible refine (l_hamilton9 w1 _ p HS1.out).mono ?_); go_loud (rintro e w2 ⟨x2, rfl, za, hna, ho2, hg2, hs2⟩; obtain ⟨Aa, ca, hxe, -, -⟩ := ho2.1.cells.open_; rw [ints_len, hamZ_len] at hxe; subst hxe; have HNA := Lib.hid hna; have HO2 := Lib.hid ho2; have HG2 := Lib.hid hg2; have HS2 := Lib.hid hs2; clear hna ho2 hg2 hs2))
    | (go_at_call 8; (with_reducible refine (l_hamilton9 w2 _ p HS2.out).mono ?_); go_loud (rintro e W0 ⟨x3, rfl, zb, hnb, ho3, hg3, hs3⟩; obtain ⟨Ab, cb, hxe, -, -⟩ := ho3.1.cells.open_; rw [ints_len, hamZ_len] at hxe; subst hxe; have HNB := Lib.hid hnb; have HI80 := Lib.hid (show Ints W0 (.slice Aa 38 ca) (hamZ za) from (show OwnInts W0 w1.heap.size tI (.slice Aa 38 ca) (hamZ za) from ⟨HO2.out.1.src hpl hg3, HO2.out.2⟩).ints); have HI81 := Lib.hid ho3.ints; have HBW := Lib.hid (HB1.out.grown (gtrans HG2.out hg3) HB1.out.size (fun k e => by injection e with e; omega)); clear hnb ho3 hg3 hs3)))
   clear HBG HRO HS1 HB1 HO2 HG2 HS2 hpg hpl
   have HC := Lib.hid (i_ExpMap0 W0 _ (hamZ za) HI80.out (hamZ_len _) (hamZ_nums HNA.out) (hamZ_head _))
   go_upto_region 6 with (go_at_call 9; go_loud (refine HC.out.mono ?_; rintro e w1 ⟨x, rfl, ho, hb⟩; have hz := ho.ints; obtain ⟨A1, a1, hAe, -, -, -⟩ := hz.open_; rw [expZ_len] at hAe; subst hAe; have HN := Lib.hid hz; have HBs := Lib.hid hb; clear hz ho hb))
   clear HC
   have HI80 := Lib.hid (HI80.out.below HBs.out)
   have HI81 := Lib.hid (HI81.out.below HBs.out)
   have HBW := Lib.hid (HBW.out.trans (HBs.out.mono HBW.out.size))
   have HI1 := HN
   clear HN HBs
   have HC := Lib.hid (i_ExpMap0 w1 _ (hamZ zb) HI81.out (hamZ_len _) (hamZ_nums HNB.out) (hamZ_head _))
   go_upto_region 7 with (go_at_call 9; go_loud (refine HC.out.mono ?_; rintro e w2 ⟨x, rfl, ho, hb⟩; have hz := ho.ints; obtain ⟨A2, a2, hAe, -, -, -⟩ := hz.open_; rw [expZ_len] at hAe; subst hAe; have HN := Lib.hid hz; have HBs := Lib.hid hb; clear hz ho hb))
   clear HC
   have HI80 := Lib.hid (HI80.out.below HBs.out)
   have HI81 := Lib.hid (HI81.out.below HBs.out)
   have HI1 := Lib.hid (HI1.out.below HBs.out)
   have HBW := Lib.hid (HBW.out.trans (HBs.out.mono HBW.out.size))
   have HI2 := HN
   clear HN HBs
   have HCP := Lib.hid (chr_expZ (hamZ za))
   have HCQ := Lib.hid (chr_expZ (hamZ zb))
   have HCB := Lib.hid (chr_cvZ HCP.out HCQ.out)
   have HCV := Lib.hid (chr_iv (expZ (hamZ za)))
   have HC := Lib.hid (l_conv9 w2 _ _ _ _ HI1.out HI2.out HCP.out.len HCP.out.num HCP.out.one HCQ.out.len HCQ.out.num)
   go_upto_region 8 with (go_at_call 10; go_loud (refine HC.out.mono ?_; rintro e w3 ⟨x, rfl, ho, hb⟩; have hz := ho.ints; obtain ⟨A3, a3, hAe, -, -, -⟩ := hz.open_; rw [cvZ_len] at hAe; subst hAe; have HN := Lib.hid hz; have HBs := Lib.hid hb; clear hz ho hb))
   clear HC
   have HI80 := Lib.hid (HI80.out.below HBs.out)
   have HI81 := Lib.hid (HI81.out.below HBs.out)
   have HI1 := Lib.hid (HI1.out.below HBs.out)
   have HI2 := Lib.hid (HI2.out.below HBs.out)
   have HBW := Lib.hid (HBW.out.trans (HBs.out.mono HBW.out.size))
   have HI3 := HN
   clear HN HBs
   have HC := Lib.hid (i_InverseMap0 w3 _ _ HI1.out HCP.out.len HCP.out.num HCP.out.one)
   go_upto_region 9 with (go_at_call 11; go_loud (refine HC.out.mono ?_; rintro e w4 ⟨x, rfl, ho, hb⟩; have hz := ho.ints; obtain ⟨A4, a4, hAe, -, -, -⟩ := hz.open_; rw [HCV.out.len] at hAe; subst hAe; have HN := Lib.hid hz; have HBs := Lib.hid hb; clear hz ho hb))
   clear HC
   have HI80 := Lib.hid (HI80.out.below HBs.out)
   have HI81 := Lib.hid (HI81.out.below HBs.out)
   have HI1 := Lib.hid (HI1.out.below HBs.out)
   have HI2 := Lib.hid (HI2.out.below HBs.out)
   have HI3 := Lib.hid (HI3.out.below HBs.out)
   have HBW := Lib.hid (HBW.out.trans (HBs.out.mono HBW.out.size))
   have HI4 := HN
   clear HN HBs
   have HC := Lib.hid (i_SymplecticTo w4 _ _ HI1.out)
   rw [(sto_six HCP.out (sym_exp za)).1, (sto_six HCP.out (sym_exp za)).2] at HC
   go_upto_region 10 with (go_at_call 12; go_loud (refine HC.out.mono ?_; rintro e w5 ⟨rfl, hb⟩; have HBs := Lib.hid (hb); clear hb))
   clear HC
   have HI80 := Lib.hid (HI80.out.below HBs.out)
   have HI81 := Lib.hid (HI81.out.below HBs.out)
   have HI1 := Lib.hid (HI1.out.below HBs.out)
   have HI2 := Lib.hid (HI2.out.below HBs.out)
   have HI3 := Lib.hid (HI3.out.below HBs.out)
   have HI4 := Lib.hid (HI4.out.below HBs.out)
   have HBW := Lib.hid (HBW.out.trans (HBs.out.mono HBW.out.size))
   clear HBs
   have HC := Lib.hid (i_SymplecticTo w5 _ _ HI3.out)
   rw [(sto_six HCB.out (sym_mul za zb)).1, (sto_six HCB.out (sym_mul za zb)).2] at HC
   go_upto_region 11 with (go_at_call 12; go_loud (refine HC.out.mono ?_; rintro e w6 ⟨rfl, hb⟩; have HBs := Lib.hid (hb); clear hb))
   clear HC
   have HI80 := Lib.hid (HI80.out.below HBs.out)
   have HI81 := Lib.hid (HI81.out.below HBs.out)
   have HI1 := Lib.hid (HI1.out.below HBs.out)
   have HI2 := Lib.hid (HI2.out.below HBs.out)
   have HI3 := Lib.hid (HI3.out.below HBs.out)
   have HI4 := Lib.hid (HI4.out.below HBs.out)
   have HBW := Lib.hid (HBW.out.trans (HBs.out.mono HBW.out.size))
   clear HBs
   have HC := Lib.hid (i_SymplecticTo w6 _ _ HI4.out)
   rw [(sto_six HCV.out (sym_inv za)).1, (sto_six HCV.out (sym_inv za)).2] at HC
   go_upto_region 12 with (go_at_call 12; go_loud (refine HC.out.mono ?_; rintro e w7 ⟨rfl, hb⟩; have HBs := Lib.hid (hb); clear hb))
   clear HC
   have HI80 := Lib.hid (HI80.out.below HBs.out)
   have HI81 := Lib.hid (HI81.out.below HBs.out)
   have HI1 := Lib.hid (HI1.out.below HBs.out)
   have HI2 := Lib.hid (HI2.out.below HBs.out)
   have HI3 := Lib.hid (HI3.out.below HBs.out)
   have HI4 := Lib.hid (HI4.out.below HBs.out)
   have HBW := Lib.hid (HBW.out.trans (HBs.out.mono HBW.out.size))
   clear HBs
   have HC := Lib.hid (i_LogMap0 w7 _ _ HI3.out HCB.out.len HCB.out.num HCB.out.one)
   go_upto_region 13 with (go_at_call 13; go_loud (refine HC.out.mono ?_; rintro e w8 ⟨x, rfl, ho, hb⟩; have hz := ho.ints; obtain ⟨A8, a8, hAe, -, -, -⟩ := hz.open_; rw [lgZ_len] at hAe; subst hAe; have HN := Lib.hid hz; have HBs := Lib.hid hb; clear hz ho hb))
   clear HC
   have HI80 := Lib.hid (HI80.out.below HBs.out)
   have HI81 := Lib.hid (HI81.out.below HBs.out)
   have HI3 := Lib.hid (HI3.out.below HBs.out)
   have HBW := Lib.hid (HBW.out.trans (HBs.out.mono HBW.out.size))
   have HI8 := HN
   clear HN HBs
   have HC := Lib.hid (i_HamiltonianTo w8 _ _ HI8.out)
   have HQ := hto_six (lgZ_len _) (lgZ_nums _) (lgZ_head _) (ham_log HCB.out (sym_mul za zb))
   rw [HQ.1, HQ.2] at HC
   clear HQ
   go_upto_region 14 with (go_at_call 14; go_loud (refine HC.out.mono ?_; rintro e w9 ⟨rfl, hb⟩; have HBs := Lib.hid (hb); clear hb))
   clear HC
   have HI80 := Lib.hid (HI80.out.below HBs.out)
   have HI81 := Lib.hid (HI81.out.below HBs.out)
   have HI8 := Lib.hid (HI8.out.below HBs.out)
   have HBW := Lib.hid (HBW.out.trans (HBs.out.mono HBW.out.size))
   clear HBs
   have HC := Lib.hid (l_bracket9 w9 _ _ _ _ HI80.out (hamZ_len _) (hamZ_nums HNA.out) (hamZ_head _) HI81.out (hamZ_len _) (hamZ_nums HNB.out) (hamZ_head _))
   have HQ := Lib.hid (hto_six (brZ_len (hamZ za) (hamZ zb)) (brZ_nums _ _) (brZ_head _ _) (ham_br za zb))
   go_upto_region 15 with (first
    | (go_at_call 15; go_loud (refine HC.out.mono ?_; rintro e wb ⟨xb, rfl, hob, hbb⟩; have HOB := Lib.hid hob; have HBB := Lib.hid hbb; clear hob hbb))
    | (go_at_call 14; go_loud (refine (show Calls Tryz.prog 14 #[xb] wb fun e w' => e = .returned (.tuple #[.int .i64 6, .int .i64 0]) /\ Below wb.heap.size wb w' from by have h := i_HamiltonianTo wb xb _ HOB.out.ints; rw [HQ.out.1, HQ.out.2] at h; exact h).mono ?_; rintro e w10 ⟨rfl, hb⟩; have HBs := Lib.hid (HBB.out.trans (hb.mono HBB.out.size)); clear hb)))
   clear HC HQ HOB HBB
   have HBW := Lib.hid (HBW.out.trans (HBs.out.mono HBW.out.size))
   clear HBs
   clear HI80 HI81 HCP HCQ HCB HCV HNA HNB
   go_upto_region 19 with fail
   have HDR := Lib.hid (s_DrawReducedOrder w10 A n c ((HBY.out.belowS (Nat.le_refl _) HBW.out).monoS HBW.out.size) hn4)
   go_upto_region 20 with (go_at_call 16; go_loud (refine HDR.out.mono ?_; rintro e w11 ⟨x, rfl, zs, hz, hb⟩; obtain ⟨Az, cz, rfl, -, -, -⟩ := hz.open_; have HI90 := Lib.hid hz; have HBs := Lib.hid hb; clear hz hb))
   clear HDR HBY
   have HBW := Lib.hid (HBW.out.trans (HBs.out.mono HBW.out.size))
   clear HBs
   obtain ⟨rd, hrd⟩ : ∃ r, r = rdoR zs := ⟨_, rfl⟩
   obtain ⟨cc, hcc⟩ : ∃ c, c = chrC zs := ⟨_, rfl⟩
   have HRD := Lib.hid (And.intro hrd hcc)
   clear hrd hcc
   have HC := Lib.hid (i_ReducedOrder w11 _ zs HI90.out)
   rw [<- HRD.out.1, <- HRD.out.2] at HC
   go_upto_region 21 with (go_at_call 17; go_loud (refine HC.out.mono ?_; rintro e w12 ⟨rfl, hb⟩; have HBs := Lib.hid (hb); clear hb))
   clear HC
   have HI90 := Lib.hid (HI90.out.below HBs.out)
   have HBW := Lib.hid (HBW.out.trans (HBs.out.mono HBW.out.size))
   clear HBs
   have HC := Lib.hid (s_ReducedOrder w12 _ zs HI90.out)
   rw [<- HRD.out.1, <- HRD.out.2] at HC
   go_upto_region 22 with (go_at_call 18; go_loud (refine HC.out.mono ?_; rintro e w13 ⟨rfl, hb⟩; have HBs := Lib.hid (hb); clear hb))
   clear HC
   have HI90 := Lib.hid (HI90.out.below HBs.out)
   have HBW := Lib.hid (HBW.out.trans (HBs.out.mono HBW.out.size))
   clear HBs
   have hx1 : (cc != cc) = false := by simp
   have hx2 : (rd != rd) = false := by simp
   go_upto_region 24 with fail
   clear hx1 hx2
   by_cases hc0 : cc = 0
   case neg =>
    have hr0 : rd = 0 := by rw [HRD.out.1]; exact rdo_bad (by rw [<- HRD.out.2]; exact hc0)
    subst hr0
    have hcd : (cc != 0) = true := by simp [hc0]
    clear hc0
    go_wp2_with fail
    go_ret
    exact ⟨rfl, HBW.out⟩
   subst hc0
   have HCZ := Lib.hid HRD.out.2.symm
   have HRV := Lib.hid (show rd = rdV zs from by rw [HRD.out.1]; exact rdo_good HCZ.out)
   go_upto_region 26 with fail
   obtain ⟨st, hst⟩ : ∃ s, s = stoR zs := ⟨_, rfl⟩
   obtain ⟨ag, hag⟩ : ∃ g, g = agZ zs EX := ⟨_, rfl⟩
   have HLS := Lib.hid (sm_last HCZ.out)
   rw [<- hst, <- hag, <- HRV.out] at HLS
   have HST := Lib.hid hst
   have HAG := Lib.hid hag
   clear hst hag
   have HC := Lib.hid (i_SymplecticTo w13 _ zs HI90.out)
   rw [<- HST.out, HCZ.out] at HC
   go_upto_region 27 with (go_at_call 12; go_loud (refine HC.out.mono ?_; rintro e w14 ⟨rfl, hb⟩; have HBs := Lib.hid (hb); clear hb))
   clear HC
   have HI90 := Lib.hid (HI90.out.below HBs.out)
   have HBW := Lib.hid (HBW.out.trans (HBs.out.mono HBW.out.size))
   clear HBs
   have HC := Lib.hid (i_OrderOfMap0 w14 _ zs HI90.out (chr_isS HCZ.out))
   rw [<- HAG.out] at HC
   go_upto_region 28 with (go_at_call 19; go_loud (refine HC.out.mono ?_; rintro e w15 ⟨rfl, hb⟩; have HBs := Lib.hid (hb); clear hb))
   clear HC
   have HI90 := Lib.hid (HI90.out.below HBs.out)
   have HBW := Lib.hid (HBW.out.trans (HBs.out.mono HBW.out.size))
   clear HBs
   have hl1 := HLS.out.1
   by_cases hs6 : st < 6
   · have hs7 : decide (st < 6) = true := decide_eq_true hs6
     go_wp2_with fail
     go_ret
     exact ⟨by first | rfl | simp [hs6] | simp, HBW.out⟩
   · have hs7 : decide (st < 6) = false := decide_eq_false hs6
     have hl2 : (rd == ag) = true := by
      have h := HLS.out.2
      rw [hs7] at h
      simpa using h
     go_wp2_with fail
     go_ret
     exact ⟨by first | rfl | exact congrArg _ (congrArg _ hl2) | simp [hl2] | simp, HBW.out⟩
end Go.Proofs.YtofabikjjkapmaaGreat
namespace Go.Proofs.YtofabikjjkapmaaGreat
open Go.ChangeShapes Go.WideShapes Go.ChangeAt Go.RowKit
theorem u8_of_wf {z : Int} (h : (Lit.int .u8 z).wf = true) : 0 <= z /\ z <= 255 := by
 simp [Lit.wf, IntKind.min, IntKind.max, IntKind.signed, IntKind.bits] at h
 omega
theorem open_bytes {H : Type} {enc : TypeId × Value -> H} {W : World} {base : Nat} {v : Value} {d : DataW H} {p : List MemPlace}
  (hv : Value.okWide Tryz.prog W .any base 22 v) (h : DataW.Trod enc Tryz.prog W 0 (fun _ => true) true 22 v d p) : ∃ n, Bts W v n := by
 obtain ⟨a, len, cap, rfl⟩ := okWide_slice Tryz.underlying22 hv
 obtain ⟨fuel, hf⟩ := h
 rcases open_ints Tryz.underlying22 Tryz.underlying5 (by kernel_rfl) hf with ⟨hcs, _⟩ | ⟨x, l, c, zs, hcs, _, hl, hm, hz, _, hcell, hwz⟩
 · simp [Value.cells] at hcs
   obtain ⟨rfl, rfl, rfl⟩ := hcs
   exact ⟨0, none, 0, rfl, fun k hk => by omega⟩
 · simp [Value.cells] at hcs
   obtain ⟨rfl, rfl, rfl⟩ := hcs
   have hz' : zs.length = cap := by simpa using hz
   refine ⟨len, some x, cap, rfl, fun k hk => ?_⟩
   have hk2 : k < zs.length := by omega
   have hc := hcell k (by omega)
   have hw := u8_of_wf (hwz _ (List.getElem_mem hk2))
   have e : zs.getD k 0 = zs[k] := by simp [List.getD, hk2]
   rw [e] at hc
   have hb := World.block_lt_of_cell? W _ hc
   rw [block_add] at hb
   exact ⟨x, zs[k], rfl, hb, hb, hw.1, hw.2, hc⟩
end Go.Proofs.YtofabikjjkapmaaGreat
