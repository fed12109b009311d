/- The law FnFieldTexts. | Arguments that came in, opened to the words of the Mem text. | Byte slices that came in, opened. -/
import Derived.Test.YtnnfjjadehgmeaaGreatDoorFt14
import Derived.Test.YtnnfjjadehgmeaaGreatDoorFt16
import Derived.Test.YtnnfjjadehgmeaaGreatDoorFt11
import Derived.Test.YtnnfjjadehgmeaaGreatDoorFt17
import Derived.Test.YtnnfjjadehgmeaaGreatDoorRows
import Derived.Test.YtnnfjjadehgmeaaGreatDoorFt1
import Derived.WalkKit
import Derived.ProofKit
import Derived.OpenShut
import Derived.Test.YtnnfjjadehgmeaaGreatDoorFt10
set_option maxRecDepth 100000
set_option linter.unusedVariables false
set_option linter.unusedSimpArgs false
namespace Go.Proofs.YtnnfjjadehgmeaaGreatDoor
open Go.RowKit

theorem fld_small2 {n : Int} {pss : List (List Mono)} (hF : fieldB n pss = true) (hl : ∀ ms ∈ pss, ms.length ≤ 4) : (fldTx pss).length ≤ 1000000 := by
  obtain ⟨-, hp3, hmon⟩ := fieldB_mono hF
  have hp : ∀ ms ∈ pss, (parTx ms).length ≤ 40420 := fun ms hms => by
    have h1 := hl ms hms
    unfold parTx
    split
    · simp
    · have h3 := join_lenM 10104 43 (ms.map mTx) fun x hx => by
        obtain ⟨m, hm, rfl⟩ := List.mem_map.1 hx
        obtain ⟨a, b, c, -⟩ := hmon ms hms m hm
        exact mTx_len (by omega) b c
      rw [List.length_map] at h3
      have : ms.length * 10105 ≤ 4 * 10105 := Nat.mul_le_mul_right _ h1
      omega
  unfold fldTx
  have h3 := join_lenM 40420 59 (pss.map parTx) fun x hx => by
    obtain ⟨ms, hm, rfl⟩ := List.mem_map.1 hx
    exact hp ms hm
  rw [List.length_map] at h3
  have : pss.length * 40421 ≤ 3 * 40421 := Nat.mul_le_mul_right _ hp3
  omega
theorem fieldB_len {n : Int} {pss : List (List Mono)} (h : fieldB n pss = true) : n = (pss.length : Nat) := by
  unfold fieldB at h
  simp only [Bool.and_eq_true, decide_eq_true_eq] at h
  exact h.2.1.symm
/-- the text of a field is parsed to it -/
theorem pf_back {n : Int} {pss : List (List Mono)} (h : fieldB n pss = true) : pfR (fldTx pss) = pss ∧ pfC (fldTx pss) = 0 := by
  have h' := h
  rw [fieldB_len h] at h'
  have e := pfX_full (fun m hm => rdMF_m hm) h'
  unfold pfR pfC
  rw [e]
  exact ⟨rfl, rfl⟩
/-- a text that is parsed is the text of the result -/
theorem pf_shown {l : List UInt8} (h : pfC l = 0) : fieldB ((pfR l).length : Nat) (pfR l) = true ∧ fldTx (pfR l) = l := by
  unfold pfC at h
  unfold pfR
  cases e : pfX rdMF l with
  | none => rw [e] at h; cases h
  | some pss => exact pfX_sound e
theorem msTot_len : ∀ ms : List Mono, ms.length ≤ msTot ms ∧ ∀ m ∈ ms, m.2.length ≤ msTot ms
  | [] => ⟨by simp, fun m hm => by simp at hm⟩
  | m :: r => by
    obtain ⟨h1, h2⟩ := msTot_len r
    rw [msTot]
    refine ⟨by rw [List.length_cons]; omega, fun x hx => ?_⟩
    rcases List.mem_cons.1 hx with rfl | hx
    · omega
    · have := h2 x hx; omega
theorem fTot_mem : ∀ (pss : List (List Mono)) (ms : List Mono), ms ∈ pss → msTot ms ≤ fTot pss
  | p :: r, ms, h => by
    rw [fTot]
    rcases List.mem_cons.1 h with rfl | h
    · omega
    · have := fTot_mem r ms h; omega
theorem byB_below {w w' : World} {A : Option Addr} {N : Nat} (h : ByB w w.heap.size A N) (hb : Below w.heap.size w w') : ByB w' w'.heap.size A N := fun k hk => by
  obtain ⟨ad, z, rfl, a1, a2, z0, z1, hc⟩ := h k hk
  refine ⟨ad, z, rfl, Nat.lt_of_lt_of_le a1 hb.size, Nat.lt_of_lt_of_le a2 hb.size, z0, z1, ?_⟩
  rw [hb.cell (by rw [block_add]; exact a2)]
  exact hc
set_option maxHeartbeats 16000000 in
theorem law_FieldTexts (w : World) (A : Option Addr) (N c : Nat) (hb : ByB w w.heap.size A N) (h : LibOK w) :
    Calls Tryz.prog 4 #[.slice A N c] w fun e w' => e = .returned (.bool true) ∧ Below w.heap.size w w' := by
  have HL := Lib.hid h
  clear h
  by_cases hN : N ≤ 4096
  · have hbg : decide (4096 < N) = false := by simp; omega
    have HBIG := Lib.hid (l_big w A N c)
    rw [hbg] at HBIG
    have HDF := Lib.hid (s_DrawFieldText w A N c hb hN)
    have HBY := Lib.hid hb
    clear hb hbg
    go_enter Tryz.func4, Tryz.ntmps4
    go_upto_region 3 with (go_at_call 10; refine HBIG.out.mono ?_; rintro e w1 ⟨rfl, rfl⟩)
    go_upto_region 4 with (go_at_call 11; go_loud (refine HDF.out.mono ?_; rintro e w2 ⟨v, n, pss, rfl, ⟨vp, rfl, hn64, hM⟩, hl1, hl2, hb2⟩; obtain ⟨A1, c1, hvp, -⟩ := hM.open_; subst hvp; have HN := Lib.hid hn64; have HM2 := Lib.hid hM; have HL1 := Lib.hid hl1; have HL2 := Lib.hid hl2; have HB2 := Lib.hid hb2; clear hn64 hM hl1 hl2 hb2))
    obtain ⟨w3, hw3⟩ : ∃ w3, w3 = w2.alloc (.cells #[.int .i64 n, .slice A1 pss.length c1] tFq) := ⟨_, rfl⟩
    obtain ⟨q, hq⟩ : ∃ q, q = w2.heap.size := ⟨_, rfl⟩
    have K3 := Lib.hid (show Blk w3 q tFq #[.int .i64 n, .slice A1 pss.length c1] by rw [hw3, hq]; exact Blk.new _ _ _)
    have HB3 := Lib.hid (show Below w.heap.size w w3 by rw [hw3]; exact HB2.out.alloc HB2.out.size _)
    have HF3 := Lib.hid (show FieldArg w3 (.agg #[.int .i64 n, .slice A1 pss.length c1]) n pss from ⟨_, rfl, HN.out, by rw [hw3]; exact HM2.out.below (below1 w2 _)⟩)
    rw [← hw3, ← hq]
    clear hw3 hq HM2 HB2 HBIG HDF
    have k0 : w3.cell? ⟨q, 0, none⟩ = some (.int .i64 n) := K3.out.cell 0
    have k1 : w3.cell? ⟨q, 1, none⟩ = some (.slice A1 pss.length c1) := K3.out.cell 1
    have HIT := Lib.hid (i_FieldText w3 _ n pss HF3.out (fun ms h1 => by have := HL1.out ms h1; omega) (fun ms h1 m h2 => by have := HL2.out ms h1 m h2; omega) (HL.out.below HB3.out).pow)
    obtain ⟨FT, hFT⟩ : ∃ FT, FT = ftR n pss := ⟨_, rfl⟩
    obtain ⟨FC, hFC⟩ : ∃ FC, FC = ftC n pss := ⟨_, rfl⟩
    rw [← hFT, ← hFC] at HIT
    have HFT := Lib.hid hFT
    have HFC := Lib.hid hFC
    clear hFT hFC
    go_upto_region 5 with (go_at_call 12; go_loud (refine HIT.out.mono ?_; rintro e w4 ⟨rfl, hb4⟩; have K4 := Lib.hid (K3.out.below hb4 K3.out.lt); have HB4 := Lib.hid (HB3.out.trans (hb4.mono HB3.out.size)); have HF4 := Lib.hid (HF3.out.below hb4); clear hb4))
    clear k0 k1 HIT HF3 HB3 K3
    have k0 : w4.cell? ⟨q, 0, none⟩ = some (.int .i64 n) := K4.out.cell 0
    have k1 : w4.cell? ⟨q, 1, none⟩ = some (.slice A1 pss.length c1) := K4.out.cell 1
    have HST := Lib.hid (s_FieldText w4 _ n pss HF4.out (fun ms h1 => by have := HL1.out ms h1; omega) (fun ms h1 m h2 => by have := HL2.out ms h1 m h2; omega))
    rw [← HFT.out, ← HFC.out] at HST
    go_upto_region 6 with (go_at_call 13; go_loud (refine HST.out.mono ?_; rintro e w5 ⟨rfl, hb5⟩; have K5 := Lib.hid (K4.out.below hb5 K4.out.lt); have HB5 := Lib.hid (HB4.out.trans (hb5.mono HB4.out.size)); have HF5 := Lib.hid (HF4.out.below hb5); clear hb5))
    clear k0 k1 HST HF4 HB4 K4
    have k0 : w5.cell? ⟨q, 0, none⟩ = some (.int .i64 n) := K5.out.cell 0
    have k1 : w5.cell? ⟨q, 1, none⟩ = some (.slice A1 pss.length c1) := K5.out.cell 1
    have HIF := Lib.hid (i_IsField w5 _ n pss HF5.out (fun ms h1 m h2 => by have := HL2.out ms h1 m h2; omega))
    obtain ⟨fb, hfb⟩ : ∃ fb, fb = fieldB n pss := ⟨_, rfl⟩
    rw [← hfb] at HIF
    have HCF := Lib.hid (show FC = if fb then 0 else 1 by rw [HFC.out, hfb]; rfl)
    have HTF := Lib.hid (show fb = true → FT = fldTx pss from fun e => by rw [HFT.out]; unfold ftR; rw [← hfb, e]; rfl)
    have HFB := Lib.hid hfb
    clear hfb
    have hcb : (FC == 0) = fb := by rw [HCF.out]; cases fb <;> rfl
    have hbb : (fb != fb) = false := by cases fb <;> rfl
    have hbb2 : (!fb == fb) = false := by cases fb <;> rfl
    go_upto_region 8 with (go_at_call 14; go_loud (refine HIF.out.mono ?_; rintro e w6 ⟨rfl, hb6⟩; have K6 := Lib.hid (K5.out.below hb6 K5.out.lt); have HB6 := Lib.hid (HB5.out.trans (hb6.mono HB5.out.size)); have HF6 := Lib.hid (HF5.out.below hb6); clear hb6))
    go_upto_if 47 with fail
    go_cut [8, 9] from 17 to 95 (fun x8 x9 wx => Below w.heap.size w wx)
    case first =>
      cases fb with
      | false =>
        go_wp2_with fail
        go_meet
        exact HB6.out
      | true =>
        have hfb := HFB.out.symm
        have hn := fieldB_len hfb
        subst hn
        have hft := HTF.out rfl
        obtain ⟨hR, hC⟩ := pf_back hfb
        have hlen := fld_small2 hfb HL1.out
        rw [← hft] at hR hC hlen
        have HPF := Lib.hid (i_ParseField w6 FT (by omega) (HL.out.below HB6.out))
        rw [hR, hC] at HPF
        have HHR := Lib.hid hR
        clear hft hR hC hfb k0 k1
        go_upto_region 10 with (go_at_call 6; go_loud (refine HPF.out.mono ?_; rintro e w7 ⟨u, rfl, hfd, hb7⟩; obtain ⟨A2, c2, hu2, -⟩ := hfd.mrows.open_; subst hu2; have HM7 := Lib.hid hfd.mrows; have K7 := Lib.hid (K6.out.below hb7 K6.out.lt); have HB7 := Lib.hid (HB6.out.trans (hb7.mono HB6.out.size)); have HF7 := Lib.hid (HF6.out.below hb7); clear hb7 hfd))
        obtain ⟨w8, hw8⟩ : ∃ w8, w8 = w7.alloc (.cells #[.int .i64 (pss.length : Nat), .slice A2 pss.length c2] tFq) := ⟨_, rfl⟩
        obtain ⟨q8, hq8⟩ : ∃ q8, q8 = w7.heap.size := ⟨_, rfl⟩
        have K8 := Lib.hid (show Blk w8 q8 tFq #[.int .i64 (pss.length : Nat), .slice A2 pss.length c2] by rw [hw8, hq8]; exact Blk.new _ _ _)
        have K78 := Lib.hid (show Blk w8 q tFq #[.int .i64 (pss.length : Nat), .slice A1 pss.length c1] by rw [hw8]; exact K7.out.alloc _)
        have HB8 := Lib.hid (show Below w.heap.size w w8 by rw [hw8]; exact HB7.out.alloc HB7.out.size _)
        have HL8 := Lib.hid (l_likeField5 w8 _ _ _ pss (show FieldArg w8 (.agg #[.int .i64 (pss.length : Nat), .slice A2 pss.length c2]) (pss.length : Nat) pss from ⟨_, rfl, HN.out, by rw [hw8]; exact HM7.out.below (below1 w7 _)⟩) (show FieldArg w8 (.agg #[.int .i64 (pss.length : Nat), .slice A1 pss.length c1]) (pss.length : Nat) pss by rw [hw8]; exact HF7.out.below (below1 w7 _)))
        rw [← hw8, ← hq8]
        clear hw8 hq8
        have k0 : w8.cell? ⟨q, 0, none⟩ = some (.int .i64 (pss.length : Nat)) := K78.out.cell 0
        have k1 : w8.cell? ⟨q, 1, none⟩ = some (.slice A1 pss.length c1) := K78.out.cell 1
        have g0 : w8.cell? ⟨q8, 0, none⟩ = some (.int .i64 (pss.length : Nat)) := K8.out.cell 0
        have g1 : w8.cell? ⟨q8, 1, none⟩ = some (.slice A2 pss.length c2) := K8.out.cell 1
        go_wp2_with (go_at_call 15; go_loud (refine HL8.out.mono ?_; rintro e w9 ⟨rfl, hb9⟩; have HB9 := Lib.hid (HB8.out.trans (hb9.mono HB8.out.size)); clear hb9))
        go_meet
        exact HB9.out
    case rest =>
      have HBX := Lib.hid hcut
      clear hcut HB6 HF6 K6 HB5 HF5 K5 k0 k1
      rename World => wx
      have HDP := Lib.hid (s_DrawParseField wx A N c (byB_below HBY.out HBX.out) hN)
      go_upto_region 13 with (go_at_call 16; go_loud (refine HDP.out.mono ?_; rintro e w1 ⟨l, rfl, hll, hb1⟩; have HB1 := Lib.hid (HBX.out.trans (hb1.mono HBX.out.size)); clear hb1))
      have HPI := Lib.hid (i_ParseField w1 l (by omega) (HL.out.below HB1.out))
      have HPS := Lib.hid (fun W => s_ParseField W l (by omega))
      have HSH := Lib.hid (fun e => pf_shown (l := l) e)
      have htt := (pfR_tot l).1
      obtain ⟨R, hR⟩ : ∃ R, R = pfR l := ⟨_, rfl⟩
      obtain ⟨C, hC⟩ : ∃ C, C = pfC l := ⟨_, rfl⟩
      have hnr := (pfR_tot l).2
      rw [← hR] at HPI HPS HSH htt hnr
      rw [← hC] at HPI HPS HSH
      clear hR hC HDP
      have HT1 := Lib.hid (show ∀ ms ∈ R, ms.length ≤ 4294967296 from fun ms hm => by have h1 := (msTot_len ms).1; have h2 := fTot_mem R ms hm; omega)
      have HT2 := Lib.hid (show ∀ ms ∈ R, ∀ m ∈ ms, m.2.length ≤ 4294967296 from fun ms hm m hm' => by have h1 := (msTot_len ms).2 m hm'; have h2 := fTot_mem R ms hm; omega)
      have HR64 := Lib.hid (show In64 ((R.length : Nat) : Int) by unfold In64; omega)
      clear htt
      go_upto_region 14 with (go_at_call 6; go_loud (refine HPI.out.mono ?_; rintro e w2' ⟨u, rfl, hfd, hb2⟩; obtain ⟨A2, c2, hu2, -⟩ := hfd.mrows.open_; subst hu2; have HM2 := Lib.hid hfd.mrows; have HB2 := Lib.hid (HB1.out.trans (hb2.mono HB1.out.size)); clear hb2 hfd))
      obtain ⟨w3', hw3⟩ : ∃ w3', w3' = w2'.alloc (.cells #[.int .i64 (R.length : Nat), .slice A2 R.length c2] tFq) := ⟨_, rfl⟩
      obtain ⟨q3, hq3⟩ : ∃ q3, q3 = w2'.heap.size := ⟨_, rfl⟩
      have K3 := Lib.hid (show Blk w3' q3 tFq #[.int .i64 (R.length : Nat), .slice A2 R.length c2] by rw [hw3, hq3]; exact Blk.new _ _ _)
      have HB3 := Lib.hid (show Below w.heap.size w w3' by rw [hw3]; exact HB2.out.alloc HB2.out.size _)
      have HM3 := Lib.hid (show MRows w3' (.slice A2 R.length c2) R by rw [hw3]; exact HM2.out.below (below1 w2' _))
      rw [← hw3, ← hq3]
      clear hw3 hq3 HM2 HB2 HPI
      go_upto_region 15 with (go_at_call 5; go_loud (refine (HPS.out w3').mono ?_; rintro e w4' ⟨u, rfl, hfd, hb4⟩; obtain ⟨A4, c4, hu4, -⟩ := hfd.mrows.open_; subst hu4; have HM4 := Lib.hid hfd.mrows; have HB4 := Lib.hid (HB3.out.trans (hb4.mono HB3.out.size)); have K4 := Lib.hid (K3.out.below hb4 K3.out.lt); have HM34 := Lib.hid (HM3.out.below hb4); clear hb4 hfd))
      obtain ⟨w5', hw5⟩ : ∃ w5', w5' = w4'.alloc (.cells #[.int .i64 (R.length : Nat), .slice A4 R.length c4] tFq) := ⟨_, rfl⟩
      obtain ⟨q5, hq5⟩ : ∃ q5, q5 = w4'.heap.size := ⟨_, rfl⟩
      have K5 := Lib.hid (show Blk w5' q5 tFq #[.int .i64 (R.length : Nat), .slice A4 R.length c4] by rw [hw5, hq5]; exact Blk.new _ _ _)
      have K35 := Lib.hid (show Blk w5' q3 tFq #[.int .i64 (R.length : Nat), .slice A2 R.length c2] by rw [hw5]; exact K4.out.alloc _)
      have HB5 := Lib.hid (show Below w.heap.size w w5' by rw [hw5]; exact HB4.out.alloc HB4.out.size _)
      have HFA := Lib.hid (show FieldArg w5' (.agg #[.int .i64 (R.length : Nat), .slice A2 R.length c2]) (R.length : Nat) R from ⟨_, rfl, HR64.out, by rw [hw5]; exact HM34.out.below (below1 w4' _)⟩)
      have HLK := Lib.hid (l_likeField5 w5' _ _ _ R HFA.out (show FieldArg w5' (.agg #[.int .i64 (R.length : Nat), .slice A4 R.length c4]) (R.length : Nat) R from ⟨_, rfl, HR64.out, by rw [hw5]; exact HM4.out.below (below1 w4' _)⟩))
      rw [← hw5, ← hq5]
      clear hw5 hq5 HM4 HB4 HM34 K4 HM3 HB3 K3 HPS
      have k0 : w5'.cell? ⟨q3, 0, none⟩ = some (.int .i64 (R.length : Nat)) := K35.out.cell 0
      have k1 : w5'.cell? ⟨q3, 1, none⟩ = some (.slice A2 R.length c2) := K35.out.cell 1
      have g0 : w5'.cell? ⟨q5, 0, none⟩ = some (.int .i64 (R.length : Nat)) := K5.out.cell 0
      have g1 : w5'.cell? ⟨q5, 1, none⟩ = some (.slice A4 R.length c4) := K5.out.cell 1
      have hcc : (C != C) = false := by simp
      go_upto_region 17 with (go_at_call 15; go_loud (refine HLK.out.mono ?_; rintro e w6' ⟨rfl, hb6⟩; have HB6 := Lib.hid (HB5.out.trans (hb6.mono HB5.out.size)); have K6 := Lib.hid (K35.out.below hb6 K35.out.lt); have HF6 := Lib.hid (HFA.out.below hb6); clear hb6))
      clear k0 k1 g0 g1 HLK HFA K35 K5
      by_cases hC0 : C = 0
      · have hcn : (C != 0) = false := by simp [hC0]
        obtain ⟨hfb, hfl⟩ := HSH.out hC0
        have HFT := Lib.hid (i_FieldText w6' _ _ R HF6.out HT1.out HT2.out (HL.out.below HB6.out).pow)
        have e1 : ftR ((R.length : Nat) : Int) R = l := by unfold ftR; rw [hfb]; exact hfl
        have e2 : ftC ((R.length : Nat) : Int) R = 0 := by unfold ftC; rw [hfb]; rfl
        rw [e1, e2] at HFT
        clear hfb hfl e1 e2 hC0
        have k0 : w6'.cell? ⟨q3, 0, none⟩ = some (.int .i64 (R.length : Nat)) := K6.out.cell 0
        have k1 : w6'.cell? ⟨q3, 1, none⟩ = some (.slice A2 R.length c2) := K6.out.cell 1
        go_wp2_with (go_at_call 12; go_loud (refine HFT.out.mono ?_; rintro e w7' ⟨rfl, hb7⟩; have HB7 := Lib.hid (HB6.out.trans (hb7.mono HB6.out.size)); clear hb7))
        go_ret
        exact ⟨rfl, HB7.out⟩
      · have hcn : (C != 0) = true := by simpa using hC0
        clear hC0
        go_wp2_with fail
        go_ret
        exact ⟨rfl, HB6.out⟩
  · have hbg : decide (4096 < N) = true := by simp; omega
    have HBIG := Lib.hid (l_big w A N c)
    rw [hbg] at HBIG
    go_enter Tryz.func4, Tryz.ntmps4
    go_wp2_with (go_at_call 10; refine HBIG.out.mono ?_; rintro e w1 ⟨rfl, rfl⟩)
    go_ret
    exact ⟨rfl, Below.refl _ _⟩
end Go.Proofs.YtnnfjjadehgmeaaGreatDoor

set_option maxRecDepth 100000
set_option linter.unusedVariables false
set_option linter.unusedSimpArgs false
namespace Go.Proofs.YtnnfjjadehgmeaaGreatDoor
open Go.ChangeShapes Go.WideShapes Go.ChangeAt Go.RowKit

end Go.Proofs.YtnnfjjadehgmeaaGreatDoor

set_option maxRecDepth 100000
set_option linter.unusedVariables false
set_option linter.unusedSimpArgs false
namespace Go.Proofs.YtnnfjjadehgmeaaGreatDoor
open Go.ChangeShapes Go.WideShapes Go.ChangeAt Go.RowKit

theorem u8_of_wf {z : Int} (h : (Lit.int .u8 z).wf = true) : 0 ≤ z ∧ z ≤ 255 := by
  simp [Lit.wf, IntKind.min, IntKind.max, IntKind.signed, IntKind.bits] at h
  omega
theorem open_bytes {H : Type} {enc : TypeId × Value → H} {W : World} {base : Nat} {v : Value} {d : DataW H} {p : List MemPlace}
    (hv : Value.okWide Tryz.prog W .any base 30 v) (h : DataW.Trod enc Tryz.prog W 0 (fun _ => true) true 30 v d p) : ∃ n, Bts W v n := by
  obtain ⟨a, len, cap, rfl⟩ := okWide_slice Tryz.underlying30 hv
  obtain ⟨fuel, hf⟩ := h
  rcases open_ints Tryz.underlying30 Tryz.underlying5 (by kernel_rfl) hf with ⟨hcs, _⟩ | ⟨x, l, c, zs, hcs, _, hl, hm, hz, _, hcell, hwz⟩
  · simp [Value.cells] at hcs
    obtain ⟨rfl, rfl, rfl⟩ := hcs
    exact ⟨0, none, 0, rfl, fun k hk => by omega⟩
  · simp [Value.cells] at hcs
    obtain ⟨rfl, rfl, rfl⟩ := hcs
    have hz' : zs.length = cap := by simpa using hz
    refine ⟨len, some x, cap, rfl, fun k hk => ?_⟩
    have hk2 : k < zs.length := by omega
    have hc := hcell k (by omega)
    have hw := u8_of_wf (hwz _ (List.getElem_mem hk2))
    have e : zs.getD k 0 = zs[k] := by simp [List.getD, hk2]
    rw [e] at hc
    have hb := World.block_lt_of_cell? W _ hc
    rw [block_add] at hb
    exact ⟨x, zs[k], rfl, hb, hb, hw.1, hw.2, hc⟩
end Go.Proofs.YtnnfjjadehgmeaaGreatDoor

