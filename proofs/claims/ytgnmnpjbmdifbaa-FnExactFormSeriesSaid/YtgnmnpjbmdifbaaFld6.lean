/- Walk: l13Is of the reference. -/
import Derived.Test.YtgnmnpjbmdifbaaFldP
set_option maxRecDepth 100000
set_option linter.unusedVariables false
set_option linter.unusedSimpArgs false
namespace Go.Proofs.Ytgnmnpjbmdifbaa
open Go.RowKit

theorem quiet_lessF {w : World} {n : Nat} {v v' : Value} {a b : List Int} (h : Ints w v a) (h' : Ints w v' b) :
    Calls Try.prog 112 #[v, v'] (w.drewN n) fun e w'' => e = .returned (.bool (lessL a b)) ∧ ∃ m, w'' = w.drewN m :=
  (s_l01Less _ _ _ a b (h.drewN n) (h'.drewN n)).mono fun _ _ ⟨he, m, hm⟩ => ⟨he, n + m, by rw [hm, World.drewN_drewN]⟩

theorem factor_in (f : Int) : inR f 1 10006 = (!decide (f = 0) && isNum f) := by
  unfold isNum inR
  by_cases h : f = 0
  · subst h; decide
  · by_cases h1 : 1 ≤ f
    · have : 0 ≤ f := by omega
      simp [h, h1, this]
    · have : ¬ 0 ≤ f := by omega
      simp [h1, this]

theorem monoB_eq (n f : Int) (ps : List Int) : monoB n (f, ps) = (inR f 1 10006 && (decide ((ps.length : Int) = n) && degOk ps)) := by
  unfold monoB
  rw [factor_in]
  cases degOk ps <;> cases decide (f = 0) <;> cases isNum f <;> cases decide ((ps.length : Int) = n) <;> rfl

set_option maxHeartbeats 4000000 in
theorem s_l13Is (w : World) (v : Value) (n : Int) (pss : List (List Mono)) (ha : FieldArg w v n pss) (hs : ∀ ms ∈ pss, ∀ m ∈ ms, m.2.length ≤ 4294967296) :
    Calls Try.prog 59 #[v] w fun e w' => e = .returned (.bool (fieldB n pss)) ∧ Below w.heap.size w w' := by
  obtain ⟨vp, rfl, hn64, hP⟩ := ha
  obtain ⟨A, c, rfl, l1, l2, h3⟩ := hP.open_
  have H3 := Lib.hid h3
  have HS := Lib.hid hs
  clear hP h3 hs
  have B0 := Lib.hid (below1 w (.cells #[.int .i64 n, .slice A pss.length c] 40))
  have K0 := Lib.hid (Blk.new w #[.int .i64 n, .slice A pss.length c] 40)
  go_enter Try.func59, Try.ntmps59
  cases hr : inR n 1 3 with
  | false =>
    have HF := Lib.hid (show fieldB n pss = false by simp [fieldB, hr])
    go_wp2_with (go_at_call 89; refine (s_l01In _ _ _ _).mono ?_; rintro e w' ⟨rfl, rfl⟩; rw [hr])
    go_ret
    exact ⟨ret_bool HF.out.symm, B0.out⟩
  | true =>
    have HR := Lib.hid hr
    by_cases hl : (pss.length : Int) = n
    · have hlb : ((pss.length : Int) != n) = false := by simp [hl]
      have HL := Lib.hid hl
      clear hl
      go_wp2_with (go_at_call 89; refine (s_l01In _ _ _ _).mono ?_; rintro e w' ⟨rfl, rfl⟩; rw [hr])
      generalize (w.alloc (.cells #[.int .i64 n, .slice A pss.length c] 40)) = w1 at B0 K0 ⊢
      go_loopw [3] (fun i wr => ∃ j : Nat, j ≤ pss.length ∧ i = .int .i64 j ∧ Hid (∀ i ms, i < j → pss[i]? = some ms → partB n ms = true) ∧ Blk wr w.heap.size 40 #[.int .i64 n, .slice A pss.length c] ∧ Below w.heap.size w wr) (fun i _ => pss.length - (intOf i).toNat)
      case atStart => exact ⟨0, Nat.zero_le _, rfl, fun i ms h => by omega, K0.out, B0.out⟩
      case round =>
        obtain ⟨j, hj, rfl, hI, hk0, hb⟩ := hrel
        clear K0 B0
        have KW := Lib.hid hk0
        have BW := Lib.hid hb
        have g1 : wr.cell? ⟨w.heap.size, 1, none⟩ = some (.slice A pss.length c) := KW.out.cell 1
        clear hk0 hb
        by_cases hlt : j < pss.length
        · obtain ⟨ad, u, ms, rfl, hm, hu, hc0⟩ := H3.out j hlt
          obtain ⟨A5, c5, rfl, p1, p2, hu3⟩ := hu.open_
          have HU := Lib.hid hu3
          have HM := Lib.hid hm
          have HSM := Lib.hid (HS.out ms (List.mem_of_getElem? hm))
          have HCJ := Lib.hid (show ∀ W : World, Below w.heap.size w W → W.cell? (ad.add j) = some (.slice A5 ms.length c5) from fun W hW => by rw [hW.cell (by rw [block_add]; have := World.block_lt_of_cell? w _ hc0; rwa [block_add] at this)]; exact hc0)
          have hji : (j : Int) < (pss.length : Int) := by omega
          clear hm hu hc0 hu3
          go_wp2_with fail
          clear g1
          obtain ⟨wo, rfl⟩ : ∃ wo : World, wo = wr := ⟨_, rfl⟩
          go_loopw [4] (fun i wi => ∃ k : Nat, k ≤ ms.length ∧ i = .int .i64 k ∧ Hid (∀ q, q < k → badAt n ms q = false) ∧ Blk wi w.heap.size 40 #[.int .i64 n, .slice (some ad) pss.length c] ∧ Below w.heap.size w wi) (fun i _ => ms.length - (intOf i).toNat)
          case atStart => exact ⟨0, Nat.zero_le _, rfl, fun q h => by omega, KW.out, BW.out⟩
          case round =>
            obtain ⟨k, hk, rfl, hJ, hk0, hb⟩ := hrel
            clear KW BW
            have KW := Lib.hid hk0
            have BW := Lib.hid hb
            clear hk0 hb
            have g1 : wr.cell? ⟨w.heap.size, 1, none⟩ = some (.slice (some ad) pss.length c) := KW.out.cell 1
            have gj : wr.cell? (ad.add j) = some (.slice A5 ms.length c5) := HCJ.out wr BW.out
            by_cases hlt2 : k < ms.length
            · obtain ⟨bm, om, m, um, rfl, hmk, hf64, hum, hcf, hcu⟩ := HU.out k hlt2
              obtain ⟨f, ps⟩ := m
              have hab : bm < w.heap.size := World.block_lt_of_cell? w _ hcf
              have q0 : wr.cell? ⟨bm, om + k * 2, none⟩ = some (.int .i64 f) := by rw [BW.out.cell (by exact hab)]; exact hcf
              have q1 : wr.cell? ⟨bm, om + k * 2 + 1, none⟩ = some um := by rw [BW.out.cell (by exact hab)]; exact hcu
              obtain ⟨Ap, cp, rfl, hp1, hp2, -⟩ := hum.open_
              simp only at hcu hum q1 hp1
              have HUM := Lib.hid hum
              have HGK := Lib.hid (show ms.getD k (0, []) = (f, ps) by simp [List.getD, hmk])
              have hpl := HSM.out (f, ps) (List.mem_of_getElem? hmk)
              simp only at hpl
              have hki : (k : Int) < (ms.length : Int) := by omega
              have kf : (wr.alloc (.cells #[.int .i64 f, .slice Ap ps.length cp] 80)).cell? ⟨w.heap.size, 0, none⟩ = some (.int .i64 n) := (KW.out.alloc (.cells #[.int .i64 f, .slice Ap ps.length cp] 80)).cell 0
              have HUW := Lib.hid (HUM.out.below (BW.out.alloc BW.out.size (.cells #[.int .i64 f, .slice Ap ps.length cp] 80)))
              have B2 := Lib.hid (BW.out.alloc BW.out.size (.cells #[.int .i64 f, .slice Ap ps.length cp] 80))
              have K2 := Lib.hid (KW.out.alloc (.cells #[.int .i64 f, .slice Ap ps.length cp] 80))
              clear hmk hf64 hum hcf hcu
              have bad : ∀ b : Bool, monoB n (f, ps) = false → partB n ms = false := fun _ h => partB_no hlt2 (by unfold badAt; rw [HGK.out, h]; rfl)
              have BAD := Lib.hid bad
              clear bad
              have FB := Lib.hid (show monoB n (f, ps) = false → fieldB n pss = false from fun h => by rw [fieldB, parts_no HM.out (BAD.out true h)]; simp)
              cases hin : inR f 1 10006 with
              | false =>
                have HFB := Lib.hid (FB.out (by rw [monoB_eq, hin]; rfl))
                go_wp2_with (first | (go_at_call 89; refine (s_l01In _ _ _ _).mono ?_; rintro e w' ⟨rfl, rfl⟩; rw [hin]) | (go_at_call 111; refine (s_l13Degree _ _ ps HUW.out hpl).mono ?_; rintro e w' ⟨rfl, rfl⟩))
                go_ret
                exact ⟨ret_bool HFB.out.symm, B2.out⟩
              | true =>
                by_cases hl2 : (ps.length : Int) = n
                · have hlb2 : ((ps.length : Int) != n) = false := by simp [hl2]
                  have HL2 := Lib.hid hl2
                  clear hl2
                  by_cases hd : 3 < degV ps
                  · have HFB := Lib.hid (FB.out (by rw [monoB_eq, ← degV_ok]; simp; omega))
                    go_wp2_with (first | (go_at_call 89; refine (s_l01In _ _ _ _).mono ?_; rintro e w' ⟨rfl, rfl⟩; rw [hin]) | (go_at_call 111; refine (s_l13Degree _ _ ps HUW.out hpl).mono ?_; rintro e w' ⟨rfl, rfl⟩))
                    go_ret
                    exact ⟨ret_bool HFB.out.symm, B2.out⟩
                  · have HMB := Lib.hid (show monoB n (f, ps) = true by rw [monoB_eq, ← degV_ok, hin]; simp; exact ⟨HL2.out, by omega⟩)
                    by_cases hk0 : k = 0
                    · subst hk0
                      simp only [Nat.zero_mul, Nat.add_zero] at q0 q1
                      have HGD := Lib.hid (show badAt n ms 0 = false by unfold badAt; rw [HGK.out, HMB.out]; simp)
                      go_wp2_with (first | (go_at_call 89; refine (s_l01In _ _ _ _).mono ?_; rintro e w' ⟨rfl, rfl⟩; rw [hin]) | (go_at_call 111; refine (s_l13Degree _ _ ps HUW.out hpl).mono ?_; rintro e w' ⟨rfl, rfl⟩))
                      go_quiet (fail)
                      clear kf q0 q1 g1 gj
                      go_wp2_with fail
                      go_roundw
                      case rel =>
                        refine ⟨1, by omega, by go_num, fun q hq => ?_, K2.out.drewN _, below_drewN B2.out _⟩
                        have : q = 0 := by omega
                        subst this
                        exact HGD.out
                      case measure => simp [intOf]; omega
                    · obtain ⟨bq, oq, mq, uq, he, hmq, -, huq, -, hcq⟩ := HU.out (k - 1) (by omega)
                      simp only [Option.some.injEq, Addr.mk.injEq, and_true] at he
                      obtain ⟨rfl, rfl⟩ := he
                      obtain ⟨fq, qs⟩ := mq
                      obtain ⟨Aq, cq, rfl, -, -, -⟩ := huq.open_
                      simp only at hcq huq
                      have HPQ := Lib.hid (huq.below B2.out)
                      have HGQ := Lib.hid (show ms.getD (k - 1) (0, []) = (fq, qs) by simp [List.getD, hmq])
                      have HBE := Lib.hid (show badAt n ms k = !lessL qs ps by unfold badAt; rw [HGK.out, HGQ.out, HMB.out]; simp; omega)
                      have pv : (wr.alloc (.cells #[.int .i64 f, .slice Ap ps.length cp] 80)).cell? ⟨bm, om + (k - 1) * 2 + 1, none⟩ = some (.slice Aq qs.length cq) := by rw [B2.out.cell (by exact hab)]; exact hcq
                      have g1' : (wr.alloc (.cells #[.int .i64 f, .slice Ap ps.length cp] 80)).cell? ⟨w.heap.size, 1, none⟩ = some (.slice (some ad) pss.length c) := K2.out.cell 1
                      have gj' : (wr.alloc (.cells #[.int .i64 f, .slice Ap ps.length cp] 80)).cell? (ad.add j) = some (.slice (some ⟨bm, om, none⟩) ms.length c5) := HCJ.out _ B2.out
                      have hkp : (0 : Int) < (k : Int) := by omega
                      have hkn : 0 < k := by omega
                      have hkn2 : decide (0 < k) = true := by simpa using hkn
                      have hkd : decide ((0 : Int) < (k : Int)) = true := by simpa using hkp
                      have hkw : IntKind.i64.wrap ((k : Int) - 1) = (k : Int) - 1 := IntWalk.i64_in _ (by omega)
                      have hk1 : ((k : Int) - 1).toNat = k - 1 := by omega
                      have hk2 : (0 : Int) ≤ (k : Int) - 1 := by omega
                      have hk3 : (k : Int) - 1 < (ms.length : Int) := by omega
                      clear hmq huq hcq
                      cases hle : lessL qs ps with
                      | true =>
                        have HGD := Lib.hid (show badAt n ms k = false by rw [HBE.out, hle]; rfl)
                        have LT : ∀ N, Calls Try.prog 112 #[.slice Aq qs.length cq, .slice Ap ps.length cp] ((wr.alloc (.cells #[.int .i64 f, .slice Ap ps.length cp] 80)).drewN N) fun e w'' => e = .returned (.bool true) ∧ ∃ m, w'' = (wr.alloc (.cells #[.int .i64 f, .slice Ap ps.length cp] 80)).drewN m := fun N => by have h := quiet_lessF (w := wr.alloc (.cells #[.int .i64 f, .slice Ap ps.length cp] 80)) (n := N) HPQ.out HUW.out; rwa [hle] at h
                        go_wp2_with (first | (go_at_call 89; refine (s_l01In _ _ _ _).mono ?_; rintro e w' ⟨rfl, rfl⟩; rw [hin]) | (go_at_call 111; refine (s_l13Degree _ _ ps HUW.out hpl).mono ?_; rintro e w' ⟨rfl, rfl⟩))
                        go_quiet ((go_at_call 112; exact LT _))
                        clear kf q0 q1 g1 gj pv g1' gj'
                        go_wp2_with fail
                        go_roundw
                        case rel =>
                          refine ⟨k + 1, by omega, by go_num, fun q hq => ?_, K2.out.drewN _, below_drewN B2.out _⟩
                          by_cases e : q = k
                          · subst e; exact HGD.out
                          · exact hJ.out q (by omega)
                        case measure => simp [intOf]; omega
                      | false =>
                        have HFB := Lib.hid (show fieldB n pss = false by rw [fieldB, parts_no HM.out (partB_no hlt2 (by rw [HBE.out, hle]; rfl))]; simp)
                        have LT : ∀ N, Calls Try.prog 112 #[.slice Aq qs.length cq, .slice Ap ps.length cp] ((wr.alloc (.cells #[.int .i64 f, .slice Ap ps.length cp] 80)).drewN N) fun e w'' => e = .returned (.bool false) ∧ ∃ m, w'' = (wr.alloc (.cells #[.int .i64 f, .slice Ap ps.length cp] 80)).drewN m := fun N => by have h := quiet_lessF (w := wr.alloc (.cells #[.int .i64 f, .slice Ap ps.length cp] 80)) (n := N) HPQ.out HUW.out; rwa [hle] at h
                        go_wp2_with (first | (go_at_call 89; refine (s_l01In _ _ _ _).mono ?_; rintro e w' ⟨rfl, rfl⟩; rw [hin]) | (go_at_call 111; refine (s_l13Degree _ _ ps HUW.out hpl).mono ?_; rintro e w' ⟨rfl, rfl⟩))
                        go_quiet ((go_at_call 112; exact LT _))
                        clear kf q0 q1 g1 gj pv g1' gj'
                        go_wp2_with fail
                        go_ret
                        exact ⟨ret_bool HFB.out.symm, below_drewN B2.out _⟩
                · have hlb2 : ((ps.length : Int) != n) = true := by simp [hl2]
                  have HFB := Lib.hid (FB.out (by rw [monoB_eq]; simp [hl2]))
                  go_wp2_with (first | (go_at_call 89; refine (s_l01In _ _ _ _).mono ?_; rintro e w' ⟨rfl, rfl⟩; rw [hin]) | (go_at_call 111; refine (s_l13Degree _ _ ps HUW.out hpl).mono ?_; rintro e w' ⟨rfl, rfl⟩))
                  go_ret
                  exact ⟨ret_bool HFB.out.symm, B2.out⟩
            · have : k = ms.length := by omega
              subst this
              have HPB := Lib.hid (partB_all hJ.out)
              go_wp2_with fail
              go_roundw
              case rel =>
                refine ⟨j + 1, by omega, by go_num, fun i xs hi hx => ?_, KW.out, BW.out⟩
                by_cases e : i = j
                · subst e
                  rw [HM.out] at hx
                  cases hx
                  exact HPB.out
                · exact hI.out i xs (by omega) hx
              case measure => simp [intOf]; omega
        · have : j = pss.length := by omega
          subst this
          have HF := Lib.hid (show fieldB n pss = true by simp [fieldB, HR.out, HL.out, parts_all hI.out])
          go_wp2_with fail
          go_ret
          exact ⟨ret_bool HF.out.symm, BW.out⟩
    · have hlb : ((pss.length : Int) != n) = true := by simp [hl]
      have HF := Lib.hid (show fieldB n pss = false by simp [fieldB, hl])
      go_wp2_with (go_at_call 89; refine (s_l01In _ _ _ _).mono ?_; rintro e w' ⟨rfl, rfl⟩; rw [hr])
      go_ret
      exact ⟨ret_bool HF.out.symm, B0.out⟩
end Go.Proofs.Ytgnmnpjbmdifbaa
