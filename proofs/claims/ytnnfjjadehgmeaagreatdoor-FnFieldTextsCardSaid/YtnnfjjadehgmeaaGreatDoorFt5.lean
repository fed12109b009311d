/- Walk: IsField of the program. | Walk of the reference: l13Text. | Plain: fields read from texts. No walk. -/
import Derived.Test.YtnnfjjadehgmeaaGreatDoorFt3
import Derived.Test.YtnnfjjadehgmeaaGreatDoorFt4
import Derived.Deep.CutRange
set_option maxRecDepth 100000
set_option linter.unusedVariables false
set_option linter.unusedSimpArgs false
namespace Go.Proofs.YtnnfjjadehgmeaaGreatDoor
open Go.RowKit

set_option maxHeartbeats 400000 in
theorem lib_lengthM (w : World) (v : Value) (pss : List (List Mono)) (ha : MRows w v pss) : Calls Tryz.prog 31 #[v] w fun e w' => e = .returned (.int .i64 pss.length) ∧ w = w' := by
  obtain ⟨A, c, rfl, h1, h2, -⟩ := ha.open_
  go_enter Tryz.func31, Tryz.ntmps31
  go_wp2
  go_ret
  exact ⟨rfl, rfl⟩

set_option maxHeartbeats 8000000 in
theorem i_IsField (w : World) (v : Value) (n : Int) (pss : List (List Mono)) (ha : FieldArg w v n pss) (hs : ∀ ms ∈ pss, ∀ m ∈ ms, m.2.length ≤ 4294967296) :
    Calls Tryz.prog 14 #[v] w fun e w' => e = .returned (.bool (fieldB n pss)) ∧ Below w.heap.size w w' := by
  obtain ⟨vp, rfl, hn64, hP⟩ := ha
  have HP := Lib.hid hP
  obtain ⟨A, c, rfl, l1, l2, h3⟩ := hP.open_
  have H3 := Lib.hid h3
  have HS := Lib.hid hs
  clear hP h3 hs
  have B0 := Lib.hid (below1 w (.cells #[.int .i64 n, .slice A pss.length c] 24))
  have K0 := Lib.hid (Blk.new w #[.int .i64 n, .slice A pss.length c] 24)
  go_enter Tryz.func14, Tryz.ntmps14
  go_wp2_with fail
  generalize (w.alloc (.cells #[.int .i64 n, .slice A pss.length c] 24)) = w1 at B0 K0 ⊢
  have g0 : w1.cell? ⟨w.heap.size, 0, none⟩ = some (.int .i64 n) := K0.out.cell 0
  have g1 : w1.cell? ⟨w.heap.size, 1, none⟩ = some (.slice A pss.length c) := K0.out.cell 1
  cases hr : inR n 1 3 with
  | false =>
    have HF := Lib.hid (show fieldB n pss = false by simp [fieldB, hr])
    have HIR : ∀ W, Calls Tryz.prog 30 #[.int .i64 n, .int .i64 1, .int .i64 3] W (fun e w' => e = .returned (.bool false) ∧ W = w') := fun W => by have h := i_inRange n 1 3 W; rwa [hr] at h
    go_quiet ((go_at_call 30; first | exact quiet_same0 (HIR _) | exact quiet_same (HIR _)))
    go_wp2_with fail
    go_ret
    exact ⟨ret_bool HF.out.symm, below_drewN B0.out _⟩
  | true =>
    have HIR : ∀ W, Calls Tryz.prog 30 #[.int .i64 n, .int .i64 1, .int .i64 3] W (fun e w' => e = .returned (.bool true) ∧ W = w') := fun W => by have h := i_inRange n 1 3 W; rwa [hr] at h
    have hnb := inR_iff.1 hr
    have HR := Lib.hid hr
    clear hr
    have HLN : ∀ W, Below w.heap.size w W → Calls Tryz.prog 31 #[.slice A pss.length c] W (fun e w' => e = .returned (.int .i64 pss.length) ∧ W = w') := fun W hW => lib_lengthM W _ pss (HP.out.below hW)
    by_cases hl : (pss.length : Int) = n
    · have hlb : ((pss.length : Int) != n) = false := by simp [hl]
      have HL := Lib.hid hl
      clear hl
      go_quiet ((first | (go_at_call 30; first | exact quiet_same0 (HIR _) | exact quiet_same (HIR _)) | (go_at_call 31; first | exact quiet_same0 (HLN _ (below_drewN B0.out _)) | exact quiet_same (HLN _ (below_drewN B0.out _)))))
      go_wp2_with fail
      clear g0 g1 HIR HLN hlb
      have hcb : c ≤ 9223372036854775807 := l2
      go_loopw [22] (fun i wr => ∃ j : Nat, j ≤ pss.length ∧ i = .int .i64 j ∧ Hid (∀ i ms, i < j → pss[i]? = some ms → partB n ms = true) ∧ Blk wr w.heap.size 24 #[.int .i64 n, .slice A pss.length c] ∧ Below w.heap.size w wr) (fun i _ => pss.length - (intOf i).toNat)
      case atStart => exact ⟨0, Nat.zero_le _, rfl, fun i ms h => by omega, K0.out.drewN _, below_drewN B0.out _⟩
      case round =>
        obtain ⟨j, hj, rfl, hI, hk0, hb⟩ := hrel
        clear K0 B0
        have KW := Lib.hid hk0
        have BW := Lib.hid hb
        clear hk0 hb
        by_cases hlt : j < pss.length
        · obtain ⟨ad, u, ms, rfl, hm, hu, hc0⟩ := H3.out j hlt
          obtain ⟨A5, c5, rfl, p1, p2, hu3⟩ := hu.open_
          have HU := Lib.hid hu3
          have HM := Lib.hid hm
          have HSM := Lib.hid (HS.out ms (List.mem_of_getElem? hm))
          have hc : wr.cell? (ad.add j) = some (.slice A5 ms.length c5) := by
            rw [BW.out.cell (by rw [block_add]; have := World.block_lt_of_cell? w _ hc0; rwa [block_add] at this)]; exact hc0
          clear hm hu hc0 hu3
          go_wp2_with fail
          clear hc
          obtain ⟨wo, rfl⟩ : ∃ wo : World, wo = wr := ⟨_, rfl⟩
          go_loopw [28] (fun i wi => ∃ k : Nat, k ≤ ms.length ∧ i = .int .i64 k ∧ Hid (∀ q, q < k → badAt n ms q = false) ∧ Blk wi w.heap.size 24 #[.int .i64 n, .slice (some ad) pss.length c] ∧ Below w.heap.size w wi) (fun i _ => ms.length - (intOf i).toNat)
          case atStart => exact ⟨0, Nat.zero_le _, rfl, fun q h => by omega, KW.out, BW.out⟩
          case round =>
            obtain ⟨k, hk, rfl, hJ, hk0, hb⟩ := hrel
            clear KW BW
            have KW := Lib.hid hk0
            have BW := Lib.hid hb
            clear hk0 hb
            by_cases hlt2 : k < ms.length
            · obtain ⟨bm, om, m, um, rfl, hmk, hf64, hum, hcf, hcu⟩ := HU.out k hlt2
              obtain ⟨f, ps⟩ := m
              have hab : bm < w.heap.size := World.block_lt_of_cell? w _ hcf
              have q0 : wr.cell? ⟨bm, om + k * 2, none⟩ = some (.int .i64 f) := by rw [BW.out.cell (by exact hab)]; exact hcf
              have q1 : wr.cell? ⟨bm, om + k * 2 + 1, none⟩ = some um := by rw [BW.out.cell (by exact hab)]; exact hcu
              obtain ⟨Ap, cp, rfl, hp1, hp2, -⟩ := hum.open_
              simp only at hcu hum q1 hp1
              have HMA := Lib.hid (show MonoArg w (.agg #[.int .i64 f, .slice Ap ps.length cp]) (f, ps) from ⟨_, rfl, hf64, hum⟩)
              have HPP := Lib.hid hum
              have HGK := Lib.hid (show ms.getD k (0, []) = (f, ps) by simp [List.getD, hmk])
              have HPL := Lib.hid (HSM.out (f, ps) (List.mem_of_getElem? hmk))
              clear hmk hf64 hum hcf hcu
              go_wp2_with fail
              clear q0 q1
              have KM := Lib.hid (Blk.new wr #[.int .i64 f, .slice Ap ps.length cp] 44)
              have K2 := Lib.hid (KW.out.alloc (.cells #[.int .i64 f, .slice Ap ps.length cp] 44))
              have B2 := Lib.hid (BW.out.alloc BW.out.size (.cells #[.int .i64 f, .slice Ap ps.length cp] 44))
              generalize (wr.alloc (.cells #[.int .i64 f, .slice Ap ps.length cp] 44)) = w3 at KM K2 B2 ⊢
              generalize wr.heap.size = pm at KM ⊢
              obtain ⟨S, hSd⟩ : ∃ S : World → Prop, S = fun w' => Below w.heap.size w w' ∧ Blk w' w.heap.size 24 #[.int .i64 n, .slice (some ad) pss.length c] ∧ Blk w' pm 44 #[.int .i64 f, .slice Ap ps.length cp] := ⟨_, rfl⟩
              have hSe : ∀ w', S w' ↔ (Below w.heap.size w w' ∧ Blk w' w.heap.size 24 #[.int .i64 n, .slice (some ad) pss.length c] ∧ Blk w' pm 44 #[.int .i64 f, .slice Ap ps.length cp]) := fun w' => by rw [hSd]
              have HSI := Lib.hid (show S w3.drew from (hSe _).2 ⟨B2.out.drew, K2.out.drewN 1, KM.out.drewN 1⟩)
              have HSE := Lib.hid (show ∀ x : GW S, Below w.heap.size w x.w ∧ Blk x.w w.heap.size 24 #[.int .i64 n, .slice (some ad) pss.length c] ∧ Blk x.w pm 44 #[.int .i64 f, .slice Ap ps.length cp] from fun x => (hSe x.w).1 x.h)
              have HSB := Lib.hid (show ∀ (x : GW S) (w' : World), Below x.w.heap.size x.w w' → S w' from fun x w' hb => by
                have h := HSE.out x
                exact (hSe w').2 ⟨h.1.trans (hb.mono h.1.size), h.2.1.below hb h.2.1.lt, h.2.2.below hb h.2.2.lt⟩)
              clear hSe hSd
              have k0 : ∀ x : GW S, x.w.cell? ⟨w.heap.size, 0, none⟩ = some (.int .i64 n) := fun x => (HSE.out x).2.1.cell 0
              have m0 : ∀ x : GW S, x.w.cell? ⟨pm, 0, none⟩ = some (.int .i64 f) := fun x => (HSE.out x).2.2.cell 0
              have m1 : ∀ x : GW S, x.w.cell? ⟨pm, 1, none⟩ = some (.slice Ap ps.length cp) := fun x => (HSE.out x).2.2.cell 1
              cases hmb : monoB n (f, ps) with
              | false =>
                have HBD := Lib.hid (show partB n ms = false from partB_no hlt2 (by unfold badAt; rw [HGK.out, hmb]; rfl))
                have HFB := Lib.hid (show fieldB n pss = false by simp [fieldB, parts_no HM.out HBD.out])
                have HIM := Lib.hid (show ∀ x : GW S, Calls Tryz.prog 32 #[.agg #[.int .i64 f, .slice Ap ps.length cp], .int .i64 n] x.w (fun e w' => e = .returned (.bool false) ∧ S w') from fun x => (i_isMonomial _ _ (f, ps) n (HMA.out.below (HSE.out x).1) HPL.out).mono (by rintro e w5 ⟨rfl, hb5⟩; rw [hmb]; exact ⟨rfl, HSB.out x _ hb5⟩))
                clear hmb
                refine wp_region_grow S (by kernel_rfl) (by kernel_rfl) HSI.out (fun hne => ?_)
                repeat (go_big_quiet_step ((go_at_call 32; exact grow_call (HIM.out _))))
                refine wpQuiet_nil ?_
                rintro _ ⟨xq, rfl⟩
                clear k0 m0 m1
                go_wp2_with fail
                go_ret
                exact ⟨ret_bool HFB.out.symm, (HSE.out xq).1⟩
              | true =>
                have HIM := Lib.hid (show ∀ x : GW S, Calls Tryz.prog 32 #[.agg #[.int .i64 f, .slice Ap ps.length cp], .int .i64 n] x.w (fun e w' => e = .returned (.bool true) ∧ S w') from fun x => (i_isMonomial _ _ (f, ps) n (HMA.out.below (HSE.out x).1) HPL.out).mono (by rintro e w5 ⟨rfl, hb5⟩; rw [hmb]; exact ⟨rfl, HSB.out x _ hb5⟩))
                have HMB := Lib.hid hmb
                clear hmb
                by_cases hk0 : k = 0
                · subst hk0
                  have HGD := Lib.hid (show badAt n ms 0 = false by unfold badAt; rw [HGK.out, HMB.out]; simp)
                  refine wp_region_grow S (by kernel_rfl) (by kernel_rfl) HSI.out (fun hne => ?_)
                  repeat (go_big_quiet_step ((go_at_call 32; exact grow_call (HIM.out _))))
                  refine wpQuiet_nil ?_
                  rintro _ ⟨xq, rfl⟩
                  clear k0 m0 m1
                  go_wp2_with fail
                  go_roundw
                  case rel =>
                    refine ⟨1, by omega, by go_num, fun q hq => ?_, (HSE.out xq).2.1, (HSE.out xq).1⟩
                    have : q = 0 := by omega
                    subst this
                    exact HGD.out
                  case measure => simp [intOf]; omega
                · obtain ⟨bq, oq, mq, uq, he, hmq, -, huq, -, hcq⟩ := HU.out (k - 1) (by omega)
                  simp only [Option.some.injEq, Addr.mk.injEq, and_true] at he
                  obtain ⟨rfl, rfl⟩ := he
                  obtain ⟨fq, qs⟩ := mq
                  obtain ⟨Aq, cq, rfl, -, -, -⟩ := huq.open_
                  simp only at hcq huq
                  have HPQ := Lib.hid huq
                  have HGQ := Lib.hid (show ms.getD (k - 1) (0, []) = (fq, qs) by simp [List.getD, hmq])
                  have m2 : ∀ x : GW S, x.w.cell? ⟨bm, om + (k - 1) * 2 + 1, none⟩ = some (.slice Aq qs.length cq) := fun x => by rw [(HSE.out x).1.cell (by exact hab)]; exact hcq
                  have HBE := Lib.hid (show badAt n ms k = !lessL qs ps by unfold badAt; rw [HGK.out, HGQ.out, HMB.out]; simp; omega)
                  have hkn : 0 < k := by omega
                  have hkn2 : decide (0 < k) = true := by simp; omega
                  have hkp : (0 : Int) < (k : Int) := by omega
                  have hkw : IntKind.i64.wrap ((k : Int) - 1) = (k : Int) - 1 := IntWalk.i64_in _ (by omega)
                  have hk1 : ((k : Int) - 1).toNat = k - 1 := by omega
                  have hk2 : (0 : Int) ≤ (k : Int) - 1 := by omega
                  have hk3 : (k : Int) - 1 < (ms.length : Int) := by omega
                  clear hmq huq hcq
                  have HCP := Lib.hid (show ∀ x : GW S, Calls Tryz.prog 33 #[.slice Aq qs.length cq, .slice Ap ps.length cp] x.w (fun e w' => e = .returned (.int .i64 (cmpL qs ps)) ∧ S w') from fun x => (lib_Compare _ _ _ qs ps (HPQ.out.below (HSE.out x).1) (HPP.out.below (HSE.out x).1)).mono (by rintro e w5 ⟨rfl, rfl⟩; exact ⟨rfl, x.h⟩))
                  refine wp_region_grow S (by kernel_rfl) (by kernel_rfl) HSI.out (fun hne => ?_)
                  cases hless : lessL qs ps with
                  | true =>
                    have hcz : ¬ 0 ≤ cmpL qs ps := by simp [lessL] at hless; omega
                    have hcz2 : cmpL qs ps < 0 := by omega
                    have HGD := Lib.hid (show badAt n ms k = false by rw [HBE.out, hless]; rfl)
                    clear hless
                    generalize cmpL qs ps = cz at HCP hcz hcz2
                    repeat (go_big_quiet_step (first | (go_at_call 32; exact grow_call (HIM.out _)) | (go_at_call 33; exact grow_call (HCP.out _))))
                    refine wpQuiet_nil ?_
                    rintro _ ⟨xq, rfl⟩
                    clear k0 m0 m1 m2
                    go_wp2_with fail
                    go_roundw
                    case rel =>
                      refine ⟨k + 1, by omega, by go_num, fun q hq => ?_, (HSE.out xq).2.1, (HSE.out xq).1⟩
                      by_cases hqk : q = k
                      · subst hqk; exact HGD.out
                      · exact hJ.out q (by omega)
                    case measure => simp [intOf]; omega
                  | false =>
                    have hcz : 0 ≤ cmpL qs ps := by simp [lessL] at hless; omega
                    have HBD := Lib.hid (show partB n ms = false from partB_no hlt2 (by rw [HBE.out, hless]; rfl))
                    have HFB := Lib.hid (show fieldB n pss = false by simp [fieldB, parts_no HM.out HBD.out])
                    clear hless
                    generalize cmpL qs ps = cz at HCP hcz
                    repeat (go_big_quiet_step (first | (go_at_call 32; exact grow_call (HIM.out _)) | (go_at_call 33; exact grow_call (HCP.out _))))
                    refine wpQuiet_nil ?_
                    rintro _ ⟨xq, rfl⟩
                    clear k0 m0 m1 m2
                    go_wp2_with fail
                    go_ret
                    exact ⟨ret_bool HFB.out.symm, (HSE.out xq).1⟩
            · have : k = ms.length := by omega
              subst this
              have HPT := Lib.hid (partB_all hJ.out)
              have HM2 := HM
              go_wp2_with fail
              go_roundw
              case rel =>
                refine ⟨j + 1, by omega, by go_num, fun i ms' hi hms => ?_, KW.out, BW.out⟩
                by_cases hij : i = j
                · subst hij
                  have e := HM2.out.symm.trans hms
                  injection e with e
                  subst e
                  exact HPT.out
                · exact hI.out i ms' (by omega) hms
              case measure => simp [intOf]; omega
        · have : j = pss.length := by omega
          subst this
          have HF := Lib.hid (show fieldB n pss = true by simp [fieldB, HR.out, HL.out, parts_all hI.out])
          go_wp2_with fail
          go_ret
          exact ⟨ret_bool HF.out.symm, BW.out⟩
    · have hlb : ((pss.length : Int) != n) = true := by simp [hl]
      have HF := Lib.hid (show fieldB n pss = false by simp [fieldB, hl])
      go_quiet ((first | (go_at_call 30; first | exact quiet_same0 (HIR _) | exact quiet_same (HIR _)) | (go_at_call 31; first | exact quiet_same0 (HLN _ (below_drewN B0.out _)) | exact quiet_same (HLN _ (below_drewN B0.out _)))))
      go_wp2_with fail
      go_ret
      exact ⟨ret_bool HF.out.symm, below_drewN B0.out _⟩
end Go.Proofs.YtnnfjjadehgmeaaGreatDoor

set_option maxRecDepth 100000
set_option linter.unusedVariables false
set_option linter.unusedSimpArgs false
namespace Go.Proofs.YtnnfjjadehgmeaaGreatDoor
open Go.RowKit

theorem monoB_bd {n : Int} {m : Mono} (hn : n ≤ 3) (h : monoB n m = true) : 1 ≤ m.1 ∧ m.1 ≤ 10006 ∧ m.2.length ≤ 3 ∧ ∀ e ∈ m.2, 0 ≤ e ∧ e ≤ 3 := by
  unfold monoB at h
  simp only [Bool.and_eq_true, Bool.not_eq_true', decide_eq_false_iff_not, decide_eq_true_eq] at h
  obtain ⟨h1, h2, h3, h4⟩ := h
  unfold isNum at h3
  have h3' := inR_iff.1 h3
  unfold degOk powOk at h1
  simp only [Bool.and_eq_true, List.all_eq_true] at h1
  refine ⟨by omega, by omega, by omega, fun e he => inR_iff.1 (h1.1 e he)⟩
theorem fieldB_mono {n : Int} {pss : List (List Mono)} (h : fieldB n pss = true) : 1 ≤ pss.length ∧ pss.length ≤ 3 ∧ ∀ ms ∈ pss, ∀ m ∈ ms, 1 ≤ m.1 ∧ m.1 ≤ 10006 ∧ m.2.length ≤ 3 ∧ ∀ e ∈ m.2, 0 ≤ e ∧ e ≤ 3 := by
  unfold fieldB at h
  simp only [Bool.and_eq_true, decide_eq_true_eq, List.all_eq_true] at h
  obtain ⟨h1, h2, h3⟩ := h
  have h1' := inR_iff.1 h1
  refine ⟨by omega, by omega, fun ms hms m hm => monoB_bd h1'.2 ?_⟩
  have h4 := h3 ms hms
  unfold partB at h4
  simp only [List.all_eq_true] at h4
  obtain ⟨k, hk, rfl⟩ := List.getElem_of_mem hm
  have h5 := h4 k (List.mem_range.2 hk)
  unfold badAt at h5
  simp only [List.getD, List.getElem?_eq_getElem hk, Option.getD_some] at h5
  cases hb : monoB n ms[k] with
  | true => rfl
  | false => rw [hb] at h5; simp at h5
theorem len1 (a : List UInt8) (x : UInt8) : (a ++ [x]).length = a.length + 1 := by simp
theorem bd1 {a J k q : Nat} (h : a ≤ J + 2 + k * 10110 + 10102 + q) (hq : q ≤ 3) : a ≤ J + 2 + (k + 1) * 10110 := by omega
theorem s_l01Dec_digit (e : Int) (W : World) (h0 : 0 ≤ e) (h1 : e ≤ 3) : Calls Tryz.prog 44 #[.int .i64 e] W fun x w' => x = .returned (strB [digB e]) ∧ Below W.heap.size W w' := by
  have h := s_l01Dec_small e.toNat W (by omega)
  rw [show ((e.toNat : Nat) : Int) = e by omega] at h
  refine h.mono fun x w' ⟨hx, hb⟩ => ⟨?_, hb⟩
  rw [hx, Lib.decDigits, dif_pos (by omega)]
  rfl
theorem l13_fin {pss : List (List Mono)} {j : Nat} {ms : List Mono} {T T2 T3 X : List UInt8} (hm : pss[j]? = some ms) (hT : T = fldTx (pss.take j)) (hT2 : T2 = if j = 0 then T else T ++ [59]) (hT3 : T3 = if ms.length = 0 then T2 ++ [48] else T2) (hX : X = T3 ++ Lib.join ((ms.take ms.length).map mTx) [43]) : X = fldTx (pss.take (j + 1)) := by
  rw [fldTx_take hm, hX, hT3, hT2, hT, List.take_length]
  unfold parTx
  by_cases h0 : j = 0
  · subst h0
    by_cases hm0 : ms = []
    · subst hm0; simp [Lib.join_nil, fldTx]
    · have hl : ms.length ≠ 0 := fun h => hm0 (List.eq_nil_of_length_eq_zero h)
      simp [hm0, hl, Lib.join_nil, fldTx]
  · by_cases hm0 : ms = []
    · subst hm0; simp [h0, Lib.join_nil]
    · have hl : ms.length ≠ 0 := fun h => hm0 (List.eq_nil_of_length_eq_zero h)
      simp [hm0, hl, h0]
theorem l13_mono {ms : List Mono} {k : Nat} {f : Int} {ps : List Int} {T3 X X2 X3 Y : List UInt8} (hm : ms[k]? = some (f, ps)) (hX : X = T3 ++ Lib.join ((ms.take k).map mTx) [43]) (hX2 : X2 = if k = 0 then X else X ++ [43]) (hX3 : X3 = X2 ++ numTx f ++ [58]) (hY : Y = X3 ++ (ps.take ps.length).map digB) : Y = T3 ++ Lib.join ((ms.take (k + 1)).map mTx) [43] := by
  rw [parTx_take hm, hY, hX3, hX2, hX, List.take_length]
  unfold mTx
  by_cases h0 : k = 0
  · subst h0; simp [Lib.join_nil]
  · simp [h0]
set_option maxHeartbeats 8000000 in
theorem s_l13TextM (w : World) (v : Value) (n : Int) (pss : List (List Mono)) (ha : FieldArg w v n pss) (hpl : pss.length ≤ 3) (hmon : ∀ ms ∈ pss, ∀ m ∈ ms, 0 ≤ m.1 ∧ m.1 ≤ 10006 ∧ m.2.length ≤ 3 ∧ ∀ e ∈ m.2, 0 ≤ e ∧ e ≤ 3) (hs : ∀ ms ∈ pss, ms.length ≤ 4294967296) :
    Calls Tryz.prog 20 #[v] w fun e w' => e = .returned (strB (fldTx pss)) ∧ Below w.heap.size w w' := by
  obtain ⟨vp, rfl, hn64, hP⟩ := ha
  obtain ⟨A, c, rfl, l1, l2, h3⟩ := hP.open_
  have H3 := Lib.hid h3
  have HS := Lib.hid hs
  have HMN := Lib.hid hmon
  clear hP h3 hs hmon hn64
  have B0 := Lib.hid (below1 w (.cells #[.int .i64 n, .slice A pss.length c] 24))
  have K0 := Lib.hid (Blk.new w #[.int .i64 n, .slice A pss.length c] 24)
  go_enter Tryz.func20, Tryz.ntmps20
  go_wp2_with fail
  generalize (w.alloc (.cells #[.int .i64 n, .slice A pss.length c] 24)) = w1 at B0 K0 ⊢
  go_loopw [3, 4] (fun t i wr => ∃ (j : Nat) (T : List UInt8), j ≤ pss.length ∧ i = .int .i64 j ∧ t = strB T ∧ Hid (T = fldTx (pss.take j)) ∧ T.length ≤ j * 60000000000000 ∧ Blk wr w.heap.size 24 #[.int .i64 n, .slice A pss.length c] ∧ Below w.heap.size w wr) (fun _ i _ => pss.length - (intOf i).toNat)
  case atStart => exact ⟨0, [], Nat.zero_le _, rfl, rfl, Lib.hid rfl, by simp, K0.out, B0.out⟩
  case round =>
    obtain ⟨j, T, hj, rfl, rfl, hT, hTl, hk0, hb⟩ := hrel
    clear K0 B0
    have KW := Lib.hid hk0
    have BW := Lib.hid hb
    clear hk0 hb
    have g1 : wr.cell? ⟨w.heap.size, 1, none⟩ = some (.slice A pss.length c) := KW.out.cell 1
    by_cases hlt : j < pss.length
    · obtain ⟨ad, u, ms, rfl, hm, hu, hc0⟩ := H3.out j hlt
      obtain ⟨A5, c5, rfl, p1, p2, hu3⟩ := hu.open_
      have HU := Lib.hid hu3
      have HM := Lib.hid hm
      have HSM := Lib.hid (HMN.out ms (List.mem_of_getElem? hm))
      have hms := HS.out ms (List.mem_of_getElem? hm)
      have HCJ := Lib.hid (show ∀ W : World, Below w.heap.size w W → W.cell? (ad.add j) = some (.slice A5 ms.length c5) from fun W hW => by rw [hW.cell (by rw [block_add]; have := World.block_lt_of_cell? w _ hc0; rwa [block_add] at this)]; exact hc0)
      have hji : (j : Int) < (pss.length : Int) := by omega
      clear hm hu hc0 hu3
      have hb1 : ¬ (9223372036854775807 < T.length + 1) := by omega
      obtain ⟨T2, hT2⟩ : ∃ T2, T2 = if j = 0 then T else T ++ [59] := ⟨_, rfl⟩
      have hT2l : T2.length ≤ j * 60000000000000 + 1 := by rw [hT2]; split <;> (first | exact Nat.le_succ_of_le hTl | (rw [len1]; exact Nat.succ_le_succ hTl))
      have HT2 := Lib.hid hT2
      clear hT2
      go_upto_if 15 with fail
      go_cut [3] from 7 to 82 (fun x wx => x = strB T2 ∧ Blk wx w.heap.size 24 #[.int .i64 n, .slice (some ad) pss.length c] ∧ Below w.heap.size w wx)
      case first =>
        by_cases hj0 : j = 0
        · have HE := Lib.hid (show T2 = T by rw [HT2.out, if_pos hj0])
          have hjn : ¬ (0 : Int) < (j : Int) := by omega
          clear hj0
          go_wp2_with fail
          go_meet
          exact ⟨by rw [HE.out], KW.out, BW.out⟩
        · have HE := Lib.hid (show T2 = T ++ [59] by rw [HT2.out, if_neg hj0])
          have hjp : (0 : Int) < (j : Int) := by omega
          clear hj0
          go_wp2_with fail
          go_meet
          exact ⟨by rw [HE.out, str_cat2], KW.out, BW.out⟩
      case rest =>
        obtain ⟨rfl, hk1, hb1'⟩ := hcut
        rename World => wz
        clear g1 hb1
        have KW2 := Lib.hid hk1
        have BW2 := Lib.hid hb1'
        clear hk1 hb1' KW BW
        have g1 : wz.cell? ⟨w.heap.size, 1, none⟩ = some (.slice (some ad) pss.length c) := KW2.out.cell 1
        have gj : wz.cell? (ad.add j) = some (.slice A5 ms.length c5) := HCJ.out wz BW2.out
        have hb2 : ¬ (9223372036854775807 < T2.length + 1) := by omega
        obtain ⟨T3, hT3⟩ : ∃ T3, T3 = if ms.length = 0 then T2 ++ [48] else T2 := ⟨_, rfl⟩
        have hT3l : T3.length ≤ j * 60000000000000 + 2 := by rw [hT3]; split <;> (first | exact Nat.le_succ_of_le hT2l | (rw [len1]; exact Nat.succ_le_succ hT2l))
        have HT3 := Lib.hid hT3
        clear hT3
        go_upto_if 24 with fail
        go_cut [3] from 7 to 82 (fun x wx => x = strB T3 ∧ Blk wx w.heap.size 24 #[.int .i64 n, .slice (some ad) pss.length c] ∧ Below w.heap.size w wx)
        case first =>
          by_cases hm0 : ms.length = 0
          · have HE := Lib.hid (show T3 = T2 ++ [48] by rw [HT3.out, if_pos hm0])
            have hmb : ((ms.length : Int) == 0) = true := by simp [hm0]
            clear hm0
            go_wp2_with fail
            go_meet
            exact ⟨by rw [HE.out, str_cat2], KW2.out, BW2.out⟩
          · have HE := Lib.hid (show T3 = T2 by rw [HT3.out, if_neg hm0])
            have hmb : ((ms.length : Int) == 0) = false := by rw [beq_eq_false_iff_ne]; omega
            clear hm0
            go_wp2_with fail
            go_meet
            exact ⟨by rw [HE.out], KW2.out, BW2.out⟩
        case rest =>
          obtain ⟨rfl, hk1, hb1'⟩ := hcut
          rename World => wy
          clear g1 gj hb2
          have KW3 := Lib.hid hk1
          have BW3 := Lib.hid hb1'
          clear hk1 hb1' KW2 BW2
          go_wp2_with fail
          go_loopw [3, 5] (fun t i wi => ∃ (k : Nat) (X : List UInt8), k ≤ ms.length ∧ i = .int .i64 k ∧ t = strB X ∧ Hid (X = T3 ++ Lib.join ((ms.take k).map mTx) [43]) ∧ X.length ≤ j * 60000000000000 + 2 + k * 10110 ∧ Blk wi w.heap.size 24 #[.int .i64 n, .slice (some ad) pss.length c] ∧ Below w.heap.size w wi) (fun _ i _ => ms.length - (intOf i).toNat)
          case atStart => exact ⟨0, T3, Nat.zero_le _, rfl, rfl, Lib.hid (by simp [Lib.join_nil]), by omega, KW3.out, BW3.out⟩
          case round =>
            obtain ⟨k, X, hk, rfl, rfl, hX, hXl, hk0, hb⟩ := hrel
            rename World => wv
            clear KW3 BW3
            have KW := Lib.hid hk0
            have BW := Lib.hid hb
            clear hk0 hb
            have g1 : wv.cell? ⟨w.heap.size, 1, none⟩ = some (.slice (some ad) pss.length c) := KW.out.cell 1
            have gj : wv.cell? (ad.add j) = some (.slice A5 ms.length c5) := HCJ.out wv BW.out
            by_cases hlt2 : k < ms.length
            · obtain ⟨bm, om, m, um, rfl, hmk, hf64, hum, hcf, hcu⟩ := HU.out k hlt2
              obtain ⟨f, ps⟩ := m
              have hab : bm < w.heap.size := World.block_lt_of_cell? w _ hcf
              obtain ⟨Ap, cp, rfl, hp1, hp2, hup⟩ := hum.open_
              simp only at hcu hcf hum hp1 hup
              have HQ0 := Lib.hid (show ∀ W : World, Below w.heap.size w W → W.cell? ⟨bm, om + k * 2, none⟩ = some (.int .i64 f) from fun W hW => by rw [hW.cell (by exact hab)]; exact hcf)
              have HQ1 := Lib.hid (show ∀ W : World, Below w.heap.size w W → W.cell? ⟨bm, om + k * 2 + 1, none⟩ = some (.slice Ap ps.length cp) from fun W hW => by rw [hW.cell (by exact hab)]; exact hcu)
              have HUP := Lib.hid hup
              have HMK := Lib.hid hmk
              obtain ⟨hf1, hf2, hpl3, hpe⟩ := HSM.out (f, ps) (List.mem_of_getElem? hmk)
              simp only at hf1 hf2 hpl3 hpe
              have HPE := Lib.hid hpe
              have hki : (k : Int) < (ms.length : Int) := by omega
              clear hmk hf64 hum hcf hcu hup hpe
              have hb1 : ¬ (9223372036854775807 < X.length + 1) := by omega
              obtain ⟨X2, hX2⟩ : ∃ X2, X2 = if k = 0 then X else X ++ [43] := ⟨_, rfl⟩
              have hX2l : X2.length ≤ j * 60000000000000 + 2 + k * 10110 + 1 := by rw [hX2]; split <;> (first | exact Nat.le_succ_of_le hXl | (rw [len1]; exact Nat.succ_le_succ hXl))
              have HX2 := Lib.hid hX2
              clear hX2
              go_upto_if 38 with fail
              go_cut [3] from 27 to 82 (fun x wx => x = strB X2 ∧ Blk wx w.heap.size 24 #[.int .i64 n, .slice (some ad) pss.length c] ∧ Below w.heap.size w wx)
              case first =>
                by_cases hk0 : k = 0
                · have HE := Lib.hid (show X2 = X by rw [HX2.out, if_pos hk0])
                  have hkn : ¬ (0 : Int) < (k : Int) := by omega
                  clear hk0
                  go_wp2_with fail
                  go_meet
                  exact ⟨by rw [HE.out], KW.out, BW.out⟩
                · have HE := Lib.hid (show X2 = X ++ [43] by rw [HX2.out, if_neg hk0])
                  have hkp : (0 : Int) < (k : Int) := by omega
                  have hkp2 : 0 < k := by omega
                  clear hk0
                  go_wp2_with fail
                  go_meet
                  exact ⟨by rw [HE.out, str_cat2], KW.out, BW.out⟩
              case rest =>
                obtain ⟨rfl, hk1, hb1'⟩ := hcut
                rename World => ws
                clear g1 gj hb1
                have KS := Lib.hid hk1
                have BS := Lib.hid hb1'
                clear hk1 hb1' KW BW
                have g1 : ws.cell? ⟨w.heap.size, 1, none⟩ = some (.slice (some ad) pss.length c) := KS.out.cell 1
                have gj : ws.cell? (ad.add j) = some (.slice (some ⟨bm, om, none⟩) ms.length c5) := HCJ.out ws BS.out
                have gk : ws.cell? ⟨bm, om + k * 2, none⟩ = some (.int .i64 f) := HQ0.out ws BS.out
                have hNl := numTx_len (a := f) (by omega) hf2
                have HLT := Lib.hid (fun W => s_l01Text f W (by omega) hf2)
                obtain ⟨NT, hNT⟩ : ∃ NT, NT = numTx f := ⟨_, rfl⟩
                rw [← hNT] at hNl HLT
                have HNT := Lib.hid hNT
                clear hNT
                have hb3 : ¬ (9223372036854775807 < X2.length + NT.length) := by omega
                have hb4 : ¬ (9223372036854775807 < X2.length + NT.length + 1) := by omega
                go_wp2_with (go_at_call 43; refine (HLT.out _).mono ?_; rintro e w2 ⟨rfl, hb2⟩; have B2 := Lib.hid (BS.out.trans (hb2.mono BS.out.size)); have K2 := Lib.hid (KS.out.below hb2 KS.out.lt); clear hb2)
                clear g1 gj gk
                obtain ⟨X3, hX3⟩ : ∃ X3, X3 = X2 ++ NT ++ [58] := ⟨_, rfl⟩
                have hX3l : X3.length ≤ j * 60000000000000 + 2 + k * 10110 + 10102 := by rw [hX3]; simp; omega
                have hX3s : Value.string ((⟨X2.toArray⟩ : ByteArray) ++ ⟨NT.toArray⟩ ++ ⟨#[58]⟩) = strB X3 := by rw [hX3, str_cat X2 NT, str_cat2]
                first | rw [hX3s] | skip
                have HX3 := Lib.hid hX3
                clear hX3
                go_loopw [3, 6] (fun t i wx => ∃ (q : Nat) (Y : List UInt8), q ≤ ps.length ∧ i = .int .i64 q ∧ t = strB Y ∧ Hid (Y = X3 ++ (ps.take q).map digB) ∧ Y.length ≤ j * 60000000000000 + 2 + k * 10110 + 10102 + q ∧ Blk wx w.heap.size 24 #[.int .i64 n, .slice (some ad) pss.length c] ∧ Below w.heap.size w wx) (fun _ i _ => ps.length - (intOf i).toNat)
                case atStart => exact ⟨0, X3, Nat.zero_le _, rfl, by first | rfl | exact hX3s, Lib.hid (by simp), by omega, K2.out, B2.out⟩
                case round =>
                  obtain ⟨q, Y, hq, rfl, rfl, hY, hYl, hk0, hb⟩ := hrel
                  rename World => wu
                  clear K2 B2 hX3s
                  have KU := Lib.hid hk0
                  have BU := Lib.hid hb
                  clear hk0 hb
                  have g1 : wu.cell? ⟨w.heap.size, 1, none⟩ = some (.slice (some ad) pss.length c) := KU.out.cell 1
                  have gj : wu.cell? (ad.add j) = some (.slice (some ⟨bm, om, none⟩) ms.length c5) := HCJ.out wu BU.out
                  have gk : wu.cell? ⟨bm, om + k * 2 + 1, none⟩ = some (.slice Ap ps.length cp) := HQ1.out wu BU.out
                  by_cases hlt3 : q < ps.length
                  · obtain ⟨ap, e, rfl, he, he64, hce⟩ := HUP.out q hlt3
                    have hce2 : wu.cell? (ap.add q) = some (.int .i64 e) := by
                      rw [BU.out.cell (by rw [block_add]; have := World.block_lt_of_cell? w _ hce; rwa [block_add] at this)]; exact hce
                    have hqi : (q : Int) < (ps.length : Int) := by omega
                    have hee := HPE.out e (List.mem_of_getElem? he)
                    have HLD := Lib.hid (fun W => s_l01Dec_digit e W hee.1 hee.2)
                    have HTK := Lib.hid (show (ps.take (q + 1)).map digB = (ps.take q).map digB ++ [digB e] by rw [List.take_add_one, he]; simp)
                    clear he he64 hce hee
                    have hb5 : ¬ (9223372036854775807 < Y.length + 1) := by omega
                    go_wp2_with (go_at_call 44; refine (HLD.out _).mono ?_; rintro e w2 ⟨rfl, hb2⟩)
                    clear g1 gj gk hce2
                    go_roundw
                    case rel => exact ⟨q + 1, Y ++ [digB e], by omega, by go_num, congrArg Value.string (str_cat Y [digB e]), Lib.hid (by rw [hY.out, HTK.out, List.append_assoc]), by rw [len1, ← Nat.add_assoc]; exact Nat.succ_le_succ hYl, KU.out.below hb2 KU.out.lt, BU.out.trans (hb2.mono BU.out.size)⟩
                    case measure => simp [intOf]; omega
                  · have hqe : q = ps.length := by omega
                    subst hqe
                    have HFN := Lib.hid (l13_mono HMK.out hX.out HX2.out (by rw [HX3.out, HNT.out]) hY.out)
                    go_wp2_with fail
                    clear g1 gj gk
                    go_roundw
                    case rel => exact ⟨k + 1, Y, by omega, by go_num, rfl, HFN, bd1 hYl hpl3, KU.out, BU.out⟩
                    case measure => simp [intOf]; omega
            · have hke : k = ms.length := by omega
              subst hke
              have HFN := Lib.hid (l13_fin HM.out hT.out HT2.out HT3.out hX.out)
              go_wp2_with fail
              clear g1 gj
              go_roundw
              case rel => exact ⟨j + 1, X, by omega, by go_num, rfl, HFN, by omega, KW.out, BW.out⟩
              case measure => simp [intOf]; omega
    · have hje : j = pss.length := by omega
      subst hje
      have HFN := Lib.hid (show T = fldTx pss by rw [hT.out, List.take_length])
      go_wp2_with fail
      go_ret
      exact ⟨by rw [HFN.out]; rfl, BW.out⟩
theorem s_l13Text (w : World) (v : Value) (n : Int) (pss : List (List Mono)) (ha : FieldArg w v n pss) (hF : fieldB n pss = true) (hs : ∀ ms ∈ pss, ms.length ≤ 4294967296) :
    Calls Tryz.prog 20 #[v] w fun e w' => e = .returned (strB (fldTx pss)) ∧ Below w.heap.size w w' := by
  obtain ⟨-, hpl, hmon⟩ := fieldB_mono hF
  exact s_l13TextM w v n pss ha hpl (fun ms h1 m h2 => by obtain ⟨a, b⟩ := hmon ms h1 m h2; exact ⟨by omega, b⟩) hs
end Go.Proofs.YtnnfjjadehgmeaaGreatDoor

set_option maxRecDepth 100000
set_option linter.unusedVariables false
set_option linter.unusedSimpArgs false
namespace Go.Proofs.YtnnfjjadehgmeaaGreatDoor
open Go.RowKit

/-- each read, or none -/
def optL {α β : Type} (M : α → Option β) : List α → Option (List β)
  | [] => some []
  | t :: r => match M t with
    | none => none
    | some m => match optL M r with
      | none => none
      | some ms => some (m :: ms)
theorem optL_snoc {α β : Type} {M : α → Option β} : ∀ {xs : List α} {ms : List β} {t : α} {m : β}, optL M xs = some ms → M t = some m → optL M (xs ++ [t]) = some (ms ++ [m])
  | [], ms, t, m, h, ht => by
    rw [optL] at h
    injection h with h
    subst h
    simp [optL, ht]
  | x :: r, ms, t, m, h, ht => by
    rw [optL] at h
    rw [List.cons_append, optL]
    cases hx : M x with
    | none => rw [hx] at h; cases h
    | some y =>
      rw [hx] at h
      simp only at h ⊢
      cases hr : optL M r with
      | none => rw [hr] at h; cases h
      | some ys =>
        rw [hr] at h
        injection h with h
        subst h
        rw [optL_snoc hr ht]
        rfl
theorem optL_none {α β : Type} {M : α → Option β} : ∀ {xs : List α} {t : α}, t ∈ xs → M t = none → optL M xs = none
  | x :: r, t, h, ht => by
    rw [optL]
    rcases List.mem_cons.1 h with rfl | h
    · rw [ht]
    · cases M x with
      | none => rfl
      | some y => simp only; rw [optL_none h ht]
theorem optL_take {α β : Type} {M : α → Option β} {xs : List α} {k : Nat} {t : α} {ms : List β} {m : β} (h : optL M (xs.take k) = some ms) (hk : xs[k]? = some t) (ht : M t = some m) : optL M (xs.take (k + 1)) = some (ms ++ [m]) := by
  rw [List.take_add_one, hk]
  exact optL_snoc h ht
theorem optL_map {α β : Type} {M : α → Option β} {f : β → α} : ∀ {ms : List β}, (∀ m ∈ ms, M (f m) = some m) → optL M (ms.map f) = some ms
  | [], _ => rfl
  | m :: r, h => by
    rw [List.map_cons, optL, h m (by simp), optL_map fun x hx => h x (by simp [hx])]
theorem optL_len {α β : Type} {M : α → Option β} : ∀ {xs : List α} {ms : List β}, optL M xs = some ms → ms.length = xs.length
  | [], ms, h => by rw [optL] at h; injection h with h; subst h; rfl
  | x :: r, ms, h => by
    rw [optL] at h
    cases hx : M x with
    | none => rw [hx] at h; cases h
    | some y =>
      rw [hx] at h
      simp only at h
      cases hr : optL M r with
      | none => rw [hr] at h; cases h
      | some ys =>
        rw [hr] at h
        injection h with h
        subst h
        rw [List.length_cons, List.length_cons, optL_len hr]

def pwB (l : List UInt8) : List Int := l.map fun b => (b.toNat : Int) - 48
/-- a monomial, as the program reads it -/
def rdMF (t : List UInt8) : Option Mono :=
  if (cutB 58 t).2.2 = false ∨ (pnF (cutB 58 t).1).2 ≠ 0 ∨ 3 < (cutB 58 t).2.1.length then none else some ((pnF (cutB 58 t).1).1, pwB (cutB 58 t).2.1)
/-- .. as the reference reads it -/
def rdMR (t : List UInt8) : Option Mono :=
  if (pnR ((splB 58 t).headD [])).2 ≠ 0 ∨ (splB 58 t).length ≠ 2 then none else some ((pnR ((splB 58 t).headD [])).1, pwB ((splB 58 t).getD 1 []))
def rdP (M : List UInt8 → Option Mono) (t : List UInt8) : Option (List Mono) := if t = [48] then some [] else optL M (splB 43 t)
def rdF (M : List UInt8 → Option Mono) (t : List UInt8) : Option (List (List Mono)) := optL (rdP M) (splB 59 t)
/-- the field that is read -/
def pfX (M : List UInt8 → Option Mono) (t : List UInt8) : Option (List (List Mono)) := match rdF M t with
  | none => none
  | some pss => if fieldB pss.length pss = true ∧ fldTx pss = t then some pss else none

theorem numTx_not {a : Int} (ha : 0 ≤ a) (ha' : a ≤ 10006) {b : UInt8} (hb : b.toNat < 48 ∨ 57 < b.toNat) (h1 : b ≠ 45) (h2 : b ≠ 47) : ∀ x ∈ numTx a, x ≠ b := by
  obtain ⟨neg, P, Q, e, -⟩ := numTx_form ha ha'
  rw [e]
  unfold numForm
  intro x hx
  rcases List.mem_append.1 hx with hx | hx
  · cases neg with
    | true => simp at hx; subst hx; exact fun e => h1 e.symm
    | false => simp at hx
  · rcases List.mem_append.1 hx with hx | hx
    · exact dig_not hb x hx
    · split at hx
      · simp at hx
      · rcases List.mem_cons.1 hx with rfl | hx
        · exact fun e => h2 e.symm
        · exact dig_not hb x hx
theorem digB_nat {e : Int} (h0 : 0 ≤ e) (h1 : e ≤ 3) : (digB e).toNat = 48 + e.toNat := by
  unfold digB
  exact ofNat_toNat (by omega)
/-- what is known of a monomial of a field -/
def MOk (m : Mono) : Prop := 1 ≤ m.1 ∧ m.1 ≤ 10006 ∧ m.2.length ≤ 3 ∧ ∀ e ∈ m.2, 0 ≤ e ∧ e ≤ 3
theorem pow_not {ps : List Int} (h : ∀ e ∈ ps, 0 ≤ e ∧ e ≤ 3) {b : UInt8} (hb : b.toNat < 48 ∨ 57 < b.toNat) : ∀ x ∈ ps.map digB, x ≠ b := fun x hx e => by
  obtain ⟨p, hp, rfl⟩ := List.mem_map.1 hx
  have := digB_nat (h p hp).1 (h p hp).2
  have := h p hp
  rw [e] at *
  omega
theorem mTx_not {m : Mono} (h : MOk m) {b : UInt8} (hb : b.toNat < 48 ∨ 57 < b.toNat) (h1 : b ≠ 45) (h2 : b ≠ 47) (h3 : b ≠ 58) : ∀ x ∈ mTx m, x ≠ b := by
  obtain ⟨g1, g2, g3, g4⟩ := h
  unfold mTx
  intro x hx
  rcases List.mem_append.1 hx with hx | hx
  · exact numTx_not (by omega) g2 hb h1 h2 x hx
  · rcases List.mem_cons.1 hx with rfl | hx
    · exact fun e => h3 e.symm
    · exact pow_not g4 hb x hx
theorem pwB_dig {ps : List Int} (h : ∀ e ∈ ps, 0 ≤ e ∧ e ≤ 3) : pwB (ps.map digB) = ps := by
  unfold pwB
  rw [List.map_map]
  refine (List.map_congr_left (g := id) fun e he => ?_).trans (List.map_id ps)
  have h1 := h e he
  simp only [Function.comp, digB_nat h1.1 h1.2, id_eq]
  omega
theorem rdMF_m {m : Mono} (h : MOk m) : rdMF (mTx m) = some m := by
  obtain ⟨g1, g2, g3, g4⟩ := h
  have hn := numTx_not (a := m.1) (by omega) g2 (b := 58) (by decide) (by decide) (by decide)
  have hc : cutB 58 (mTx m) = (numTx m.1, m.2.map digB, true) := by unfold mTx; exact cutB_hit hn
  unfold rdMF
  rw [hc]
  simp only
  rw [pnF_num (by omega) g2, if_neg, pwB_dig g4]
  rintro (h | h | h)
  · cases h
  · exact h rfl
  · rw [List.length_map] at h; omega
theorem rdMR_m {m : Mono} (h : MOk m) : rdMR (mTx m) = some m := by
  obtain ⟨g1, g2, g3, g4⟩ := h
  have hn := numTx_not (a := m.1) (by omega) g2 (b := 58) (by decide) (by decide) (by decide)
  have hs : splB 58 (mTx m) = [numTx m.1, m.2.map digB] := by
    unfold mTx
    rw [splB_cons hn, splB_one (pow_not g4 (by decide))]
  have hp := pnR_num (a := m.1) (by omega) g2
  unfold rdMR
  rw [hs, if_neg]
  · show some ((pnR (numTx m.1)).1, pwB (m.2.map digB)) = some m
    rw [hp, pwB_dig g4]
  · rintro (h | h)
    · exact h (by show (pnR (numTx m.1)).2 = 0; rw [hp])
    · exact h rfl
theorem rdP_part {M : List UInt8 → Option Mono} (hM : ∀ m, MOk m → M (mTx m) = some m) {ms : List Mono} (h : ∀ m ∈ ms, MOk m) : rdP M (parTx ms) = some ms := by
  unfold rdP parTx
  by_cases h0 : ms = []
  · subst h0; simp
  · rw [if_neg h0]
    have hsp : splB 43 (Lib.join (ms.map mTx) [43]) = ms.map mTx := splB_join (by simpa using h0) fun x hx => by
      obtain ⟨m, hm, rfl⟩ := List.mem_map.1 hx
      exact mTx_not (h m hm) (by decide) (by decide) (by decide) (by decide)
    rw [hsp, optL_map fun m hm => hM m (h m hm), if_neg]
    intro e
    rw [e] at hsp
    obtain ⟨m, r, rfl⟩ : ∃ m r, ms = m :: r := by
      cases ms with
      | nil => exact absurd rfl h0
      | cons m r => exact ⟨m, r, rfl⟩
    have h1 : mTx m = [48] := by
      have := congrArg List.head? hsp
      simpa [splB] using this.symm
    have h2 : (58 : UInt8) ∈ mTx m := by unfold mTx; simp
    rw [h1] at h2
    simp at h2
theorem parTx_not {ms : List Mono} (h : ∀ m ∈ ms, MOk m) : ∀ x ∈ parTx ms, x ≠ 59 := by
  unfold parTx
  split
  · intro x hx; simp at hx; subst hx; decide
  · have hj : ∀ (xs : List (List UInt8)), (∀ x ∈ xs, ∀ c ∈ x, c ≠ (59 : UInt8)) → ∀ c ∈ Lib.join xs [43], c ≠ 59 := by
      intro xs
      cases xs with
      | nil => intro _ c hc; simp [Lib.join_nil] at hc
      | cons x r =>
        intro hx c hc
        rw [Lib.join_cons] at hc
        rcases List.mem_append.1 hc with hc | hc
        · exact hx x (by simp) c hc
        · unfold Lib.joinTail at hc
          simp only [List.mem_flatten, List.mem_map] at hc
          obtain ⟨l, ⟨y, hy, rfl⟩, hcl⟩ := hc
          rcases List.mem_append.1 hcl with hcl | hcl
          · simp at hcl; subst hcl; decide
          · exact hx y (by simp [hy]) c hcl
    refine hj _ fun x hx => ?_
    obtain ⟨m, hm, rfl⟩ := List.mem_map.1 hx
    exact mTx_not (h m hm) (by decide) (by decide) (by decide) (by decide)
theorem rdF_field {M : List UInt8 → Option Mono} (hM : ∀ m, MOk m → M (mTx m) = some m) {n : Int} {pss : List (List Mono)} (h : fieldB n pss = true) : rdF M (fldTx pss) = some pss := by
  obtain ⟨h1, -, hm⟩ := fieldB_mono h
  unfold rdF fldTx
  rw [splB_join]
  · exact optL_map fun ms hms => rdP_part hM fun m hmm => hm ms hms m hmm
  · intro e
    have := congrArg List.length e
    rw [List.length_map, List.length_nil] at this
    omega
  · intro x hx
    obtain ⟨ms, hms, rfl⟩ := List.mem_map.1 hx
    exact parTx_not fun m hmm => hm ms hms m hmm
theorem pfX_sound {M : List UInt8 → Option Mono} {t : List UInt8} {pss : List (List Mono)} (h : pfX M t = some pss) : fieldB pss.length pss = true ∧ fldTx pss = t := by
  unfold pfX at h
  split at h
  · cases h
  · split at h
    · rename_i hh
      injection h with h
      subst h
      exact hh
    · cases h
theorem pfX_full {M : List UInt8 → Option Mono} (hM : ∀ m, MOk m → M (mTx m) = some m) {pss : List (List Mono)} (h : fieldB pss.length pss = true) : pfX M (fldTx pss) = some pss := by
  unfold pfX
  rw [rdF_field hM h]
  simp only
  rw [if_pos ⟨h, trivial⟩]
/-- both read alike -/
theorem pf_eq (t : List UInt8) : pfX rdMF t = pfX rdMR t := by
  cases hF : pfX rdMF t with
  | some pss =>
    obtain ⟨h1, h2⟩ := pfX_sound hF
    rw [← h2, pfX_full (fun m hm => rdMR_m hm) h1]
  | none =>
    cases hR : pfX rdMR t with
    | none => rfl
    | some pss =>
      obtain ⟨h1, h2⟩ := pfX_sound hR
      rw [← h2, pfX_full (fun m hm => rdMF_m hm) h1] at hF
      cases hF
end Go.Proofs.YtnnfjjadehgmeaaGreatDoor

