/- Walk: IsField of the program. -/
import Derived.Test.YtgnmnpjbmdifbaaFld2
import Derived.Test.YtgnmnpjbmdifbaaFldP
import Derived.Test.YtgnmnpjbmdifbaaGrowQ
set_option maxRecDepth 100000
set_option linter.unusedVariables false
set_option linter.unusedSimpArgs false
namespace Go.Proofs.Ytgnmnpjbmdifbaa
open Go.RowKit

set_option maxHeartbeats 400000 in
theorem lib_lengthM (w : World) (v : Value) (pss : List (List Mono)) (ha : MRows w v pss) : Calls Try.prog 62 #[v] w fun e w' => e = .returned (.int .i64 pss.length) ∧ w = w' := by
  obtain ⟨A, c, rfl, h1, h2, -⟩ := ha.open_
  go_enter Try.func62, Try.ntmps62
  go_wp2
  go_ret
  exact ⟨rfl, rfl⟩

set_option maxHeartbeats 8000000 in
theorem i_IsField (w : World) (v : Value) (n : Int) (pss : List (List Mono)) (ha : FieldArg w v n pss) (hs : ∀ ms ∈ pss, ∀ m ∈ ms, m.2.length ≤ 4294967296) :
    Calls Try.prog 21 #[v] w fun e w' => e = .returned (.bool (fieldB n pss)) ∧ Below w.heap.size w w' := by
  obtain ⟨vp, rfl, hn64, hP⟩ := ha
  have HP := Lib.hid hP
  obtain ⟨A, c, rfl, l1, l2, h3⟩ := hP.open_
  have H3 := Lib.hid h3
  have HS := Lib.hid hs
  clear hP h3 hs
  have B0 := Lib.hid (below1 w (.cells #[.int .i64 n, .slice A pss.length c] 40))
  have K0 := Lib.hid (Blk.new w #[.int .i64 n, .slice A pss.length c] 40)
  go_enter Try.func21, Try.ntmps21
  go_wp2_with fail
  generalize (w.alloc (.cells #[.int .i64 n, .slice A pss.length c] 40)) = w1 at B0 K0 ⊢
  have g0 : w1.cell? ⟨w.heap.size, 0, none⟩ = some (.int .i64 n) := K0.out.cell 0
  have g1 : w1.cell? ⟨w.heap.size, 1, none⟩ = some (.slice A pss.length c) := K0.out.cell 1
  cases hr : inR n 1 3 with
  | false =>
    have HF := Lib.hid (show fieldB n pss = false by simp [fieldB, hr])
    have HIR : ∀ W, Calls Try.prog 61 #[.int .i64 n, .int .i64 1, .int .i64 3] W (fun e w' => e = .returned (.bool false) ∧ W = w') := fun W => by have h := i_inRange n 1 3 W; rwa [hr] at h
    go_quiet ((go_at_call 61; first | exact quiet_same0 (HIR _) | exact quiet_same (HIR _)))
    go_wp2_with fail
    go_ret
    exact ⟨ret_bool HF.out.symm, below_drewN B0.out _⟩
  | true =>
    have HIR : ∀ W, Calls Try.prog 61 #[.int .i64 n, .int .i64 1, .int .i64 3] W (fun e w' => e = .returned (.bool true) ∧ W = w') := fun W => by have h := i_inRange n 1 3 W; rwa [hr] at h
    have hnb := inR_iff.1 hr
    have HR := Lib.hid hr
    clear hr
    have HLN : ∀ W, Below w.heap.size w W → Calls Try.prog 62 #[.slice A pss.length c] W (fun e w' => e = .returned (.int .i64 pss.length) ∧ W = w') := fun W hW => lib_lengthM W _ pss (HP.out.below hW)
    by_cases hl : (pss.length : Int) = n
    · have hlb : ((pss.length : Int) != n) = false := by simp [hl]
      have HL := Lib.hid hl
      clear hl
      go_quiet ((first | (go_at_call 61; first | exact quiet_same0 (HIR _) | exact quiet_same (HIR _)) | (go_at_call 62; first | exact quiet_same0 (HLN _ (below_drewN B0.out _)) | exact quiet_same (HLN _ (below_drewN B0.out _)))))
      go_wp2_with fail
      clear g0 g1 HIR HLN hlb
      have hcb : c ≤ 9223372036854775807 := l2
      go_loopw [22] (fun i wr => ∃ j : Nat, j ≤ pss.length ∧ i = .int .i64 j ∧ Hid (∀ i ms, i < j → pss[i]? = some ms → partB n ms = true) ∧ Blk wr w.heap.size 40 #[.int .i64 n, .slice A pss.length c] ∧ Below w.heap.size w wr) (fun i _ => pss.length - (intOf i).toNat)
      case atStart => exact ⟨0, Nat.zero_le _, rfl, fun i ms h => by omega, K0.out.drewN _, below_drewN B0.out _⟩
      case round =>
        obtain ⟨j, hj, rfl, hI, hk0, hb⟩ := hrel
        clear K0 B0
        have KW := Lib.hid hk0
        have BW := Lib.hid hb
        clear hk0 hb
        by_cases hlt : j < pss.length
        · obtain ⟨ad, u, ms, rfl, hm, hu, hc0⟩ := H3.out j hlt
          obtain ⟨A5, c5, rfl, p1, p2, hu3⟩ := hu.open_
          have HU := Lib.hid hu3
          have HM := Lib.hid hm
          have HSM := Lib.hid (HS.out ms (List.mem_of_getElem? hm))
          have hc : wr.cell? (ad.add j) = some (.slice A5 ms.length c5) := by
            rw [BW.out.cell (by rw [block_add]; have := World.block_lt_of_cell? w _ hc0; rwa [block_add] at this)]; exact hc0
          clear hm hu hc0 hu3
          go_wp2_with fail
          clear hc
          obtain ⟨wo, rfl⟩ : ∃ wo : World, wo = wr := ⟨_, rfl⟩
          go_loopw [28] (fun i wi => ∃ k : Nat, k ≤ ms.length ∧ i = .int .i64 k ∧ Hid (∀ q, q < k → badAt n ms q = false) ∧ Blk wi w.heap.size 40 #[.int .i64 n, .slice (some ad) pss.length c] ∧ Below w.heap.size w wi) (fun i _ => ms.length - (intOf i).toNat)
          case atStart => exact ⟨0, Nat.zero_le _, rfl, fun q h => by omega, KW.out, BW.out⟩
          case round =>
            obtain ⟨k, hk, rfl, hJ, hk0, hb⟩ := hrel
            clear KW BW
            have KW := Lib.hid hk0
            have BW := Lib.hid hb
            clear hk0 hb
            by_cases hlt2 : k < ms.length
            · obtain ⟨bm, om, m, um, rfl, hmk, hf64, hum, hcf, hcu⟩ := HU.out k hlt2
              obtain ⟨f, ps⟩ := m
              have hab : bm < w.heap.size := World.block_lt_of_cell? w _ hcf
              have q0 : wr.cell? ⟨bm, om + k * 2, none⟩ = some (.int .i64 f) := by rw [BW.out.cell (by exact hab)]; exact hcf
              have q1 : wr.cell? ⟨bm, om + k * 2 + 1, none⟩ = some um := by rw [BW.out.cell (by exact hab)]; exact hcu
              obtain ⟨Ap, cp, rfl, hp1, hp2, -⟩ := hum.open_
              simp only at hcu hum q1 hp1
              have HMA := Lib.hid (show MonoArg w (.agg #[.int .i64 f, .slice Ap ps.length cp]) (f, ps) from ⟨_, rfl, hf64, hum⟩)
              have HPP := Lib.hid hum
              have HGK := Lib.hid (show ms.getD k (0, []) = (f, ps) by simp [List.getD, hmk])
              have HPL := Lib.hid (HSM.out (f, ps) (List.mem_of_getElem? hmk))
              clear hmk hf64 hum hcf hcu
              go_wp2_with fail
              clear q0 q1
              have KM := Lib.hid (Blk.new wr #[.int .i64 f, .slice Ap ps.length cp] 80)
              have K2 := Lib.hid (KW.out.alloc (.cells #[.int .i64 f, .slice Ap ps.length cp] 80))
              have B2 := Lib.hid (BW.out.alloc BW.out.size (.cells #[.int .i64 f, .slice Ap ps.length cp] 80))
              generalize (wr.alloc (.cells #[.int .i64 f, .slice Ap ps.length cp] 80)) = w3 at KM K2 B2 ⊢
              generalize wr.heap.size = pm at KM ⊢
              obtain ⟨S, hSd⟩ : ∃ S : World → Prop, S = fun w' => Below w.heap.size w w' ∧ Blk w' w.heap.size 40 #[.int .i64 n, .slice (some ad) pss.length c] ∧ Blk w' pm 80 #[.int .i64 f, .slice Ap ps.length cp] := ⟨_, rfl⟩
              have hSe : ∀ w', S w' ↔ (Below w.heap.size w w' ∧ Blk w' w.heap.size 40 #[.int .i64 n, .slice (some ad) pss.length c] ∧ Blk w' pm 80 #[.int .i64 f, .slice Ap ps.length cp]) := fun w' => by rw [hSd]
              have HSI := Lib.hid (show S w3.drew from (hSe _).2 ⟨B2.out.drew, K2.out.drewN 1, KM.out.drewN 1⟩)
              have HSE := Lib.hid (show ∀ x : GW S, Below w.heap.size w x.w ∧ Blk x.w w.heap.size 40 #[.int .i64 n, .slice (some ad) pss.length c] ∧ Blk x.w pm 80 #[.int .i64 f, .slice Ap ps.length cp] from fun x => (hSe x.w).1 x.h)
              have HSB := Lib.hid (show ∀ (x : GW S) (w' : World), Below x.w.heap.size x.w w' → S w' from fun x w' hb => by
                have h := HSE.out x
                exact (hSe w').2 ⟨h.1.trans (hb.mono h.1.size), h.2.1.below hb h.2.1.lt, h.2.2.below hb h.2.2.lt⟩)
              clear hSe hSd
              have k0 : ∀ x : GW S, x.w.cell? ⟨w.heap.size, 0, none⟩ = some (.int .i64 n) := fun x => (HSE.out x).2.1.cell 0
              have m0 : ∀ x : GW S, x.w.cell? ⟨pm, 0, none⟩ = some (.int .i64 f) := fun x => (HSE.out x).2.2.cell 0
              have m1 : ∀ x : GW S, x.w.cell? ⟨pm, 1, none⟩ = some (.slice Ap ps.length cp) := fun x => (HSE.out x).2.2.cell 1
              cases hmb : monoB n (f, ps) with
              | false =>
                have HBD := Lib.hid (show partB n ms = false from partB_no hlt2 (by unfold badAt; rw [HGK.out, hmb]; rfl))
                have HFB := Lib.hid (show fieldB n pss = false by simp [fieldB, parts_no HM.out HBD.out])
                have HIM := Lib.hid (show ∀ x : GW S, Calls Try.prog 63 #[.agg #[.int .i64 f, .slice Ap ps.length cp], .int .i64 n] x.w (fun e w' => e = .returned (.bool false) ∧ S w') from fun x => (i_isMonomial _ _ (f, ps) n (HMA.out.below (HSE.out x).1) HPL.out).mono (by rintro e w5 ⟨rfl, hb5⟩; rw [hmb]; exact ⟨rfl, HSB.out x _ hb5⟩))
                clear hmb
                refine wp_region_grow S (by kernel_rfl) (by kernel_rfl) HSI.out (fun hne => ?_)
                repeat (go_big_quiet_step ((go_at_call 63; exact grow_call (HIM.out _))))
                refine wpQuiet_nil ?_
                rintro _ ⟨xq, rfl⟩
                clear k0 m0 m1
                go_wp2_with fail
                go_ret
                exact ⟨ret_bool HFB.out.symm, (HSE.out xq).1⟩
              | true =>
                have HIM := Lib.hid (show ∀ x : GW S, Calls Try.prog 63 #[.agg #[.int .i64 f, .slice Ap ps.length cp], .int .i64 n] x.w (fun e w' => e = .returned (.bool true) ∧ S w') from fun x => (i_isMonomial _ _ (f, ps) n (HMA.out.below (HSE.out x).1) HPL.out).mono (by rintro e w5 ⟨rfl, hb5⟩; rw [hmb]; exact ⟨rfl, HSB.out x _ hb5⟩))
                have HMB := Lib.hid hmb
                clear hmb
                by_cases hk0 : k = 0
                · subst hk0
                  have HGD := Lib.hid (show badAt n ms 0 = false by unfold badAt; rw [HGK.out, HMB.out]; simp)
                  refine wp_region_grow S (by kernel_rfl) (by kernel_rfl) HSI.out (fun hne => ?_)
                  repeat (go_big_quiet_step ((go_at_call 63; exact grow_call (HIM.out _))))
                  refine wpQuiet_nil ?_
                  rintro _ ⟨xq, rfl⟩
                  clear k0 m0 m1
                  go_wp2_with fail
                  go_roundw
                  case rel =>
                    refine ⟨1, by omega, by go_num, fun q hq => ?_, (HSE.out xq).2.1, (HSE.out xq).1⟩
                    have : q = 0 := by omega
                    subst this
                    exact HGD.out
                  case measure => simp [intOf]; omega
                · obtain ⟨bq, oq, mq, uq, he, hmq, -, huq, -, hcq⟩ := HU.out (k - 1) (by omega)
                  simp only [Option.some.injEq, Addr.mk.injEq, and_true] at he
                  obtain ⟨rfl, rfl⟩ := he
                  obtain ⟨fq, qs⟩ := mq
                  obtain ⟨Aq, cq, rfl, -, -, -⟩ := huq.open_
                  simp only at hcq huq
                  have HPQ := Lib.hid huq
                  have HGQ := Lib.hid (show ms.getD (k - 1) (0, []) = (fq, qs) by simp [List.getD, hmq])
                  have m2 : ∀ x : GW S, x.w.cell? ⟨bm, om + (k - 1) * 2 + 1, none⟩ = some (.slice Aq qs.length cq) := fun x => by rw [(HSE.out x).1.cell (by exact hab)]; exact hcq
                  have HBE := Lib.hid (show badAt n ms k = !lessL qs ps by unfold badAt; rw [HGK.out, HGQ.out, HMB.out]; simp; omega)
                  have hkn : 0 < k := by omega
                  have hkn2 : decide (0 < k) = true := by simp; omega
                  have hkp : (0 : Int) < (k : Int) := by omega
                  have hkw : IntKind.i64.wrap ((k : Int) - 1) = (k : Int) - 1 := IntWalk.i64_in _ (by omega)
                  have hk1 : ((k : Int) - 1).toNat = k - 1 := by omega
                  have hk2 : (0 : Int) ≤ (k : Int) - 1 := by omega
                  have hk3 : (k : Int) - 1 < (ms.length : Int) := by omega
                  clear hmq huq hcq
                  have HCP := Lib.hid (show ∀ x : GW S, Calls Try.prog 64 #[.slice Aq qs.length cq, .slice Ap ps.length cp] x.w (fun e w' => e = .returned (.int .i64 (cmpL qs ps)) ∧ S w') from fun x => (lib_Compare _ _ _ qs ps (HPQ.out.below (HSE.out x).1) (HPP.out.below (HSE.out x).1)).mono (by rintro e w5 ⟨rfl, rfl⟩; exact ⟨rfl, x.h⟩))
                  refine wp_region_grow S (by kernel_rfl) (by kernel_rfl) HSI.out (fun hne => ?_)
                  cases hless : lessL qs ps with
                  | true =>
                    have hcz : ¬ 0 ≤ cmpL qs ps := by simp [lessL] at hless; omega
                    have hcz2 : cmpL qs ps < 0 := by omega
                    have HGD := Lib.hid (show badAt n ms k = false by rw [HBE.out, hless]; rfl)
                    clear hless
                    generalize cmpL qs ps = cz at HCP hcz hcz2
                    repeat (go_big_quiet_step (first | (go_at_call 63; exact grow_call (HIM.out _)) | (go_at_call 64; exact grow_call (HCP.out _))))
                    refine wpQuiet_nil ?_
                    rintro _ ⟨xq, rfl⟩
                    clear k0 m0 m1 m2
                    go_wp2_with fail
                    go_roundw
                    case rel =>
                      refine ⟨k + 1, by omega, by go_num, fun q hq => ?_, (HSE.out xq).2.1, (HSE.out xq).1⟩
                      by_cases hqk : q = k
                      · subst hqk; exact HGD.out
                      · exact hJ.out q (by omega)
                    case measure => simp [intOf]; omega
                  | false =>
                    have hcz : 0 ≤ cmpL qs ps := by simp [lessL] at hless; omega
                    have HBD := Lib.hid (show partB n ms = false from partB_no hlt2 (by rw [HBE.out, hless]; rfl))
                    have HFB := Lib.hid (show fieldB n pss = false by simp [fieldB, parts_no HM.out HBD.out])
                    clear hless
                    generalize cmpL qs ps = cz at HCP hcz
                    repeat (go_big_quiet_step (first | (go_at_call 63; exact grow_call (HIM.out _)) | (go_at_call 64; exact grow_call (HCP.out _))))
                    refine wpQuiet_nil ?_
                    rintro _ ⟨xq, rfl⟩
                    clear k0 m0 m1 m2
                    go_wp2_with fail
                    go_ret
                    exact ⟨ret_bool HFB.out.symm, (HSE.out xq).1⟩
            · have : k = ms.length := by omega
              subst this
              have HPT := Lib.hid (partB_all hJ.out)
              have HM2 := HM
              go_wp2_with fail
              go_roundw
              case rel =>
                refine ⟨j + 1, by omega, by go_num, fun i ms' hi hms => ?_, KW.out, BW.out⟩
                by_cases hij : i = j
                · subst hij
                  have e := HM2.out.symm.trans hms
                  injection e with e
                  subst e
                  exact HPT.out
                · exact hI.out i ms' (by omega) hms
              case measure => simp [intOf]; omega
        · have : j = pss.length := by omega
          subst this
          have HF := Lib.hid (show fieldB n pss = true by simp [fieldB, HR.out, HL.out, parts_all hI.out])
          go_wp2_with fail
          go_ret
          exact ⟨ret_bool HF.out.symm, BW.out⟩
    · have hlb : ((pss.length : Int) != n) = true := by simp [hl]
      have HF := Lib.hid (show fieldB n pss = false by simp [fieldB, hl])
      go_quiet ((first | (go_at_call 61; first | exact quiet_same0 (HIR _) | exact quiet_same (HIR _)) | (go_at_call 62; first | exact quiet_same0 (HLN _ (below_drewN B0.out _)) | exact quiet_same (HLN _ (below_drewN B0.out _)))))
      go_wp2_with fail
      go_ret
      exact ⟨ret_bool HF.out.symm, below_drewN B0.out _⟩
end Go.Proofs.Ytgnmnpjbmdifbaa
