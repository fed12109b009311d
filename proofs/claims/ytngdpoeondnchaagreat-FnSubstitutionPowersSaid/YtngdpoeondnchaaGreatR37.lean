/- Walk: the reference's inverse by substitution. | Walk: l17Fit of the reference: the map whose substitution is another one, by numbers of nodes. | Walks: SubstitutionInverse, modifiedMap, ModifiedMap, ModifyingMap, ErrorMap of the program and of the reference. -/
import Derived.Test.YtngdpoeondnchaaGreatR32
import Derived.Test.YtngdpoeondnchaaGreatR30
import Derived.Deep.CutRange
import Derived.Deep.CutBlock
import Derived.Deep.DeepCutAuto
import Derived.Test.YtngdpoeondnchaaGreatR36
import Derived.Test.YtngdpoeondnchaaGreatR34
import Derived.Test.YtngdpoeondnchaaGreatR33
set_option maxRecDepth 100000
set_option linter.unusedVariables false
set_option linter.unusedSimpArgs false
namespace Go.Proofs.YtngdpoeondnchaaGreat
open Go.RowKit

theorem grownBy_below {w w' : World} {b : Option Nat} (h : Below w.heap.size w w') : w.grownBy w' b := ⟨h.os, h.tape, h.output, h.size, fun k hk _ => h.block k hk⟩
set_option maxHeartbeats 32000000 in
theorem s_l16Inverse (w : World) (vb : Value) (b : List Int) (h1 : Ints w vb b) (l1 : b.length = 38) (hN1 : Nums b) :
    Calls Tryz.prog 106 #[vb] w fun e w' => ∃ x, e = .returned x ∧ OwnInts w' w.heap.size tI x (invZ b) ∧ Below w.heap.size w w' := by
  obtain ⟨Ab, cb, rfl, -, -, -⟩ := h1.open_
  rw [l1] at h1 ⊢
  obtain ⟨adb, rfl, hcb1, hb10, hb11⟩ := map_cell h1 hN1 (k := 1) (by omega)
  obtain ⟨y1, hy1⟩ : ∃ y1, y1 = b.getD 1 0 := ⟨_, rfl⟩
  rw [← hy1] at hcb1 hb10 hb11
  have HCB1 := Lib.hid (show w.cell? ⟨adb.block, adb.off + 1, none⟩ = some (.int .i64 y1) from by simpa [Addr.add] using hcb1)
  have HY1 := Lib.hid hy1
  have HI1 := Lib.hid h1
  have HNB := Lib.hid hN1
  have hmk : ∀ W : World, (Instr.makeSlice 27 (.int .i64 38) (.int .i64 38)).run Tryz.prog W = .ok (.slice (some ⟨W.heap.size, 0, none⟩) 38 38) (W.alloc (.cells (madeCells #[.int .i64 0] 38) tI)) := fun W => run_make T_int 38 (by omega) W
  clear h1 hN1 l1 hcb1 hy1
  go_enter Tryz.func106, Tryz.ntmps106
  go_upto_region 1 with fail
  go_cut [3, 4] (fun o wv wx => ∃ g g2 c2, o = .slice (some ⟨g, 0, none⟩) 38 38 ∧ wv = .slice (some ⟨g2, 0, none⟩) 38 c2 ∧ g ≠ g2 ∧ OwnInts wx w.heap.size tI (.slice (some ⟨g, 0, none⟩) 38 38) (List.replicate 38 0) ∧ OwnInts wx w.heap.size tI (.slice (some ⟨g2, 0, none⟩) 38 c2) unitL ∧ Below w.heap.size w wx)
  case first =>
    have HM1 := Lib.hid (fun (W : World) => show OwnInts (W.alloc (.cells (madeCells #[.int .i64 0] 38) tI)) W.heap.size tI (.slice (some ⟨W.heap.size, 0, none⟩) 38 38) (List.replicate 38 0) from ⟨by have h := own_made W tI (.int .i64 0) 38 (by simp [maxLen]); rwa [show List.replicate 38 (Value.int .i64 0) = ints (List.replicate 38 0) from by simp [ints]] at h, fun z hz => by simp at hz; subst hz; unfold In64; omega⟩)
    go_region_law ((go_simp; go_at_call 107; refine (s_SubstitutionUnit _).mono ?_; rintro e w3 ⟨x3, rfl, ho3, hb3⟩; rcases ho3.1.cases with ⟨-, he⟩ | ⟨g2, cap2, cur2, he, hg21, hg22, -⟩; (· exact absurd (congrArg List.length he) (by decide)); have he : x3 = .slice (some ⟨g2, 0, none⟩) 38 cap2 := he; subst he; have HO3 := Lib.hid ho3; have HB3 := Lib.hid hb3; have hge := ho3.1.ge g2 rfl; have hlt3 := ho3.1.lt g2 rfl; clear ho3 hb3 hg21 hg22))
    all_goals
      clear hmk
      go_wp2_with fail
      go_meet
      first
        | exact ⟨_, _, _, rfl, rfl, by simp at hge; omega, (HM1.out w).below (below_of_drew HB3.out), HO3.out.mono (by simp), ((below1 w _).trans ((below_of_drew HB3.out).mono (by simp)))⟩
        | (exact ⟨_, _, _, rfl, rfl, by omega, (HM1.out w3).mono (below_of_drew HB3.out).size, (HO3.out.below (below1 w3 _)).mono (by simp), (below_of_drew HB3.out).trans ((below1 w3 _).mono (below_of_drew HB3.out).size)⟩)
  case rest =>
    obtain ⟨g, g2, c2, rfl, rfl, hne, ho, hw, hb⟩ := hcut
    have HNE := Lib.hid hne
    have HO0 := Lib.hid ho
    have HW0 := Lib.hid hw
    have HB0 := Lib.hid hb
    have HGL := Lib.hid (ho.1.lt g rfl)
    have HGG := Lib.hid (ho.1.ge g rfl)
    clear hne ho hw hb hmk
    go_wp2_with (go_at_call 115; go_loud (refine (s_l03All _ 6 (by omega)).mono ?_; rintro e w1 ⟨x1, rfl, hx1, hb1⟩; rw [show allG treesN 6 = T6n from rfl] at hx1; obtain ⟨A1, c1, he1, -, -, -⟩ := hx1.rows.open_; rw [List.length_map, T6n_len] at he1; subst he1; have HX1 := Lib.hid hx1; have HO1 := Lib.hid (HO0.out.below hb1); have HW1 := Lib.hid (HW0.out.below hb1); have HB1W := Lib.hid (HB0.out.trans (hb1.mono HB0.out.size)); clear hx1 hb1))
    go_loopw [6] (fun x wr => ∃ i : Nat, i ≤ 37 ∧ x = .int .i64 i ∧ OwnInts wr w.heap.size tI (.slice (some ⟨g, 0, none⟩) 38 38) (filS (invF b) i) ∧ OwnInts wr w.heap.size tI (.slice (some ⟨g2, 0, none⟩) 38 c2) unitL ∧ w1.grownBy wr (some g) ∧ Below w.heap.size w wr) (fun x _ => 37 - (intOf x).toNat)
    case atStart => exact ⟨0, Nat.zero_le _, rfl, HO1.out, HW1.out, World.grownBy.refl _ _, HB1W.out⟩
    case round =>
      obtain ⟨i, hi, rfl, ho, hw, hg, hb⟩ := hrel
      rename World => wq
      have HO := Lib.hid ho
      have HW := Lib.hid hw
      have HG := Lib.hid hg
      have HB := Lib.hid hb
      have HXQ := Lib.hid (HX1.out.keptLt' hg HGL.out).rows
      have hon := filS_nums (fun o n => invF_bd b o n) i
      clear ho hw hg hb
      by_cases hlt : i < 37
      · obtain ⟨ad, At, ct, t, rfl, ht, hti, hcr⟩ := HXQ.out.tree hlt
        have htr := tr_at ht
        have htm := List.mem_of_getElem? ht
        obtain ⟨htl, ht1, ht6, htl6⟩ := T6n_at htm
        have HTI := Lib.hid hti
        obtain ⟨N, hN, hN2, hN8, hN1⟩ := pw2 t ht1 ht6
        obtain ⟨M, hM⟩ : ∃ M, M = 2 * N := ⟨_, rfl⟩
        have hM8 : M ≤ 64 := by omega
        have HSH := Lib.hid (show wrap64 ((2 : Int) ^ t.length) = (M : Int) ∧ IntKind.i64.wrap ((2 : Int) ^ t.length) = (M : Int) from by
          have e : ((2 : Int) ^ t.length) = ((2 ^ t.length : Nat) : Int) := by simp
          rw [e, ← hN2, ← hM]
          exact ⟨w64_in' _ (by omega), IntWalk.i64_in _ (by omega)⟩)
        obtain ⟨_, haw, hcw, hw0, hw1⟩ := map_cell HW.out.ints (fun z hz => unitL_nums z hz) (k := i + 1) (by omega)
        simp only [Option.some.injEq] at haw
        subst haw
        obtain ⟨wt, hwt⟩ : ∃ wt, wt = unitL.getD (i + 1) 0 := ⟨_, rfl⟩
        rw [← hwt, addr_add] at hcw
        rw [← hwt] at hw0 hw1
        have hidx : idxN T6n t = i + 1 := by rw [← htr]; exact idx_tr hlt
        have HPA := Lib.hid (fun k (hk : k < N) => prt_at htm (i := k) (by rw [← hN]; exact hk))
        have HSK := Lib.hid (fun W m r (hm : m < 256) (h : Ints W (.slice At t.length ct) (up t)) (hr : canO 9 (sklN t m) = some r) => s_l16Skeleton W _ t m r h (by omega) ht1 hm (fun l hl => by have := htl6 l hl; omega) hr)
        have HPC := Lib.hid (fun W m pcs (hm : m < 256) (h : Ints W (.slice At t.length ct) (up t)) (hp : mapO (fun i => canO 9 (pieN t m i)) (0 :: cutsN m (t.length - 1) 1) = some pcs) (hpl : ∀ i < t.length, (pieN t m i).length ≤ 8) => s_l16Pieces W _ t m pcs h (by omega) ht1 hm (fun l hl => by have := htl6 l hl; omega) hp hpl)
        obtain ⟨cc, hcc⟩ : ∃ cc, cc = filS (invF b) i := ⟨_, rfl⟩
        have HCC := Lib.hid hcc
        have HMF := Lib.hid (fun k => msk_succ (fun p => p != i + 1) cc b t k)
        have HNN := Lib.hid hN
        have hlast : allm (fun p => p != i + 1) cc b t = msk (fun p => p != i + 1) cc b t (N - 1) := by
          unfold allm
          rw [← hN, show N = N - 1 + 1 from by omega, msk_succ]
          obtain ⟨sk, pcs, hpa⟩ := HPA.out (N - 1) (by omega)
          have hfu := hpa.full.1 (by rw [← hN]; omega)
          have e : (plU (prtN t (2 * (N - 1)))).2 = i + 1 := by rw [hpa.prt]; show idxN T6n sk = i + 1; rw [hfu, hidx]
          have : fC (fun p => p != i + 1) cc b (plU (prtN t (2 * (N - 1)))) = 0 := by
            unfold fC
            simp only [e]
            simp
          rw [show N - 1 + 1 - 1 = N - 1 from by omega, this]
          omega
        obtain ⟨tn, htn⟩ : ∃ tn, tn = t.length := ⟨_, rfl⟩
        have hpb := pw_bd y1 tn
        have hpc := pw_bd (pw y1 tn) 10005
        have HSE2 := Lib.hid (show filS (invF b) (i + 1) = (filS (invF b) i).set (i + 1) ((wt - msk (fun p => p != i + 1) cc b t (N - 1)) % 10007 * pw (pw y1 tn) 10005 % 10007) from by
          rw [filS, ← hlast, hcc, hwt, HY1.out, htn, ← htr]
          rfl)
        have HMM := Lib.hid hM
        have hii : (i : Int) < 37 := by omega
        have hi1 : (i : Int) + 1 < 38 := by omega
        have ht63 : (t.length : Int) < 64 := by omega
        have ht0 : (0 : Int) ≤ (t.length : Int) := by omega
        have hwm : IntKind.i64.wrap ((M : Int) - 2) = (M : Int) - 2 := IntWalk.i64_in _ (by omega)
        have hNM : M = 2 * N := hM
        rw [hcc.symm] at hon
        have HON := Lib.hid hon
        have HWT := Lib.hid (show wt = (wt - msk (fun p => p != i + 1) cc b t 0) % 10007 from by rw [msk_zero]; omega)
        clear ht htl htl6 hti hN hN2 hM hlast hwt hcc hon
        go_upto_region 6 with fail
        go_quiet (fail)
        rename Nat => n
        obtain ⟨wz, hwz⟩ : ∃ wz, wz = wq.drewN n := ⟨_, rfl⟩
        have hbz : Below wq.heap.size wq wz := by rw [hwz]; exact below_drewN (Below.refl _ _) _
        have HBZ := Lib.hid hbz
        rw [← hwz]
        clear hwz hbz
        have hsh := HSH.out.1
        have hsh2 := HSH.out.2
        go_wp2_with fail
        clear hsh hsh2
        go_loopw [8, 10] (fun s x wr => ∃ k m : Nat, k ≤ N - 1 ∧ x = .int .i64 (m : Nat) ∧ Hid (m = 2 * k) ∧ s = .int .i64 ((wt - msk (fun p => p != i + 1) cc b t k) % 10007) ∧ Below wz.heap.size wz wr) (fun _ x _ => M - (intOf x).toNat)
        case atStart => exact ⟨0, 0, Nat.zero_le _, rfl, rfl, by rw [← HWT.out], Below.refl _ _⟩
        case round =>
          obtain ⟨k, m, hk, rfl, HMK, rfl, hb⟩ := hrel
          rename World => wc
          have HBC := Lib.hid (HBZ.out.trans (hb.mono HBZ.out.size))
          have hmk := HMK.out
          have hMM := HMM.out
          by_cases hlk : k < N - 1
          · have hml : m < M - 2 := by omega
            have hmi : (m : Int) < (M : Int) - 2 := by omega
            obtain ⟨sk, pcs, hpa⟩ := HPA.out k (by omega)
            have hsk := hpa.hsk
            have hpc' := hpa.hpc
            have hpie := hpa.pie
            have hopc := hpa.opc
            have hpl := hpa.pl
            rw [← hmk] at hsk hpc' hpie
            obtain ⟨p0, hp0, hp37, hfi⟩ := find_at hpa.osk
            have hne1 : p0 + 1 ≠ i + 1 := fun e => by
              have h := hpa.full.2 (by rw [hp0, hidx]; exact e)
              rw [← HNN.out] at h
              omega
            obtain ⟨Q, hQ⟩ : ∃ Q, Q = srtB pcs := ⟨_, rfl⟩
            have HF := Lib.hid (show fC (fun p => p != i + 1) cc b (plU (prtN t (2 * k))) = cc.getD (p0 + 1) 0 * prodZ (gat b (Q.map (idxN T6n))) from by
              rw [hpa.prt, hQ]
              unfold fC fP plU
              simp only [hp0]
              rw [show ((p0 + 1) != (i + 1)) = true from by simpa using hne1]
              rfl)
            rw [← hQ] at hopc hpl
            have HOPC := Lib.hid hopc
            have HFI := Lib.hid hfi
            have HPIE := Lib.hid hpie
            have HSKE := Lib.hid hsk
            have HPCE := Lib.hid hpc'
            have HQE := Lib.hid hQ
            have HML := Lib.hid (show m < 256 from by omega)
            obtain ⟨_, he, hcx, hx0, hx1⟩ := map_cell (a := cc) (by rw [HCC.out]; exact (HO.out.below HBC.out).ints) HON.out (k := p0 + 1) (by omega)
            simp only [Option.some.injEq] at he
            subst he
            rw [addr_add] at hcx
            have HCX := Lib.hid hcx
            have hpl1 : (p0 : Int) + 1 < 38 := by omega
            generalize cc.getD (p0 + 1) 0 = y at *
            clear hsk hpc' hpie hopc hQ hpa hfi hp0 hcx hmk hMM hne1
            go_wp2_with (first
              | (go_at_call 130; go_loud (refine (HSK.out _ m sk HML.out (HTI.out.below HBC.out) HSKE.out).mono ?_; rintro e w3 ⟨x3, rfl, ho3, hb3⟩; have HO3 := Lib.hid ho3.ints; have HB3 := Lib.hid (HBC.out.trans (hb3.mono HBC.out.size)); have HB3C := Lib.hid hb3; clear ho3 hb3))
              | (go_at_call 118; go_loud (refine (HFI.out _ _ _ (HXQ.out.below HB3.out) HO3.out).mono ?_; rintro e w4 ⟨rfl, n4, hw4⟩; have hb4 : Below w3.heap.size w3 w4 := hw4.symm ▸ below_drewN (Below.refl w3.heap.size w3) n4; clear hw4; have hcx := keepCell (HB3C.out.trans (hb4.mono HB3C.out.size)) HCX.out; have HB4 := Lib.hid (HB3.out.trans (hb4.mono HB3.out.size)); have HB4C := Lib.hid (HB3C.out.trans (hb4.mono HB3C.out.size)); clear hb4))
              | (go_at_call 131; go_loud (refine (HPC.out _ m pcs HML.out (HTI.out.below HB4.out) HPCE.out HPIE.out).mono ?_; rintro e w5 ⟨x5, rfl, ho5, hb5⟩; rw [← HQE.out] at ho5; obtain ⟨A5, c5, he5, -, -, -⟩ := ho5.rows.open_; rw [List.length_map] at he5; subst he5; have HO5 := Lib.hid ho5.rows; have HB5Q := Lib.hid (HB4.out.trans (hb5.mono HB4.out.size)); have HB5 := Lib.hid ((hb.trans (HB4C.out.mono hb.size)).trans (hb5.mono (Nat.le_trans hb.size HB4C.out.size))); clear ho5 hb5)))
            clear hb
            go_loopw [11, 13] (fun s x wr => ∃ q : Nat, q ≤ Q.length ∧ x = .int .i64 q ∧ s = .int .i64 (y * prodZ (gat b ((Q.take q).map (idxN T6n))) % 10007) ∧ Below w5.heap.size w5 wr) (fun _ x _ => Q.length - (intOf x).toNat)
            case atStart => exact ⟨0, Nat.zero_le _, rfl, by simp [gat, prodZ]; omega, Below.refl _ _⟩
            case round =>
              obtain ⟨q, hq, rfl, rfl, hb6⟩ := hrel
              rename World => w6
              obtain ⟨pt, hpt⟩ : ∃ pt, pt = y * prodZ (gat b ((Q.take q).map (idxN T6n))) % 10007 := ⟨_, rfl⟩
              rw [← hpt]
              have hpb : 0 ≤ pt ∧ pt ≤ 10006 := by omega
              by_cases hlq : q < Q.length
              · by_cases hz : pt = 0
                · have hd : (pt != 0) = false := by simp [hz]
                  have hdq : decide ((q : Int) < (Q.length : Int)) = true := decide_eq_true (by omega)
                  have HPTF := Lib.hid (show pt = y * prodZ (gat b (Q.map (idxN T6n))) % 10007 from by
                    rw [hz]
                    have e : prodZ (gat b (Q.map (idxN T6n))) = prodZ (gat b ((Q.take q).map (idxN T6n))) * prodZ (gat b ((Q.drop q).map (idxN T6n))) := by
                      rw [← prodZ_append]
                      unfold gat
                      rw [← List.map_append, ← List.map_append, List.take_append_drop]
                    rw [e, ← Int.mul_assoc, ← mul_modL, ← hpt, hz]
                    simp)
                  have hqi : (q : Int) < (Q.length : Int) := by omega
                  clear hpt hz
                  have HBF := Lib.hid (HB5.out.trans (hb6.mono HB5.out.size))
                  have HAD := Lib.hid (show ((wt - msk (fun p => p != i + 1) cc b t k) % 10007 - pt) % 10007 = (wt - msk (fun p => p != i + 1) cc b t (k + 1)) % 10007 from by rw [HMF.out, HF.out, HPTF.out]; omega)
                  have hmb : 0 ≤ (wt - msk (fun p => p != i + 1) cc b t k) % 10007 ∧ (wt - msk (fun p => p != i + 1) cc b t k) % 10007 ≤ 10006 := by omega
                  generalize (wt - msk (fun p => p != i + 1) cc b t k) % 10007 = sm at *
                  clear hb6
                  go_wp2_with (go_at_call 97; refine (s_l01Sub sm pt _ (by omega) (by omega) (by omega) (by omega)).mono ?_; rintro e w9 ⟨rfl, rfl⟩)
                  go_roundw
                  case rel => exact ⟨k + 1, m + 2, by omega, by go_num, by have := HMK.out; show m + 2 = 2 * (k + 1); omega, by rw [HAD.out], HBF.out⟩
                  case measure => have := HMK.out; have := HMM.out; simp [intOf]; omega
                · have hd : (pt != 0) = true := by simp [hz]
                  have hdq : decide ((q : Int) < (Q.length : Int)) = true := decide_eq_true (by omega)
                  obtain ⟨A', c', he, -, -, h3⟩ := rowsAt (HO5.out.below hb6)
                  simp only [Value.slice.injEq, true_and] at he
                  obtain ⟨rfl, rfl⟩ := he
                  obtain ⟨adq, z, A7, c7, rfl, hzq, hzi, hzc⟩ := h3 q hlq
                  obtain ⟨z0, hz0, hz37, hfz⟩ := find_at (HOPC.out z (List.mem_of_getElem? hzq))
                  have HFZ := Lib.hid hfz
                  have HZI := Lib.hid hzi
                  have hbc : Below wq.heap.size wq w6 := HB5Q.out.trans (hb6.mono HB5Q.out.size)
                  have HXR := Lib.hid (HXQ.out.below hbc)
                  obtain ⟨_, hab, hcb, hy0, hy1'⟩ := map_cell ((HI1.out.below HB.out).below hbc) HNB.out (k := z0 + 1) (by omega)
                  simp only [Option.some.injEq] at hab
                  subst hab
                  have HCB := Lib.hid (show w6.cell? ⟨adb.block, adb.off + (z0 + 1), none⟩ = some (.int .i64 (b.getD (z0 + 1) 0)) from by simpa [Addr.add] using hcb)
                  have hpl2 : (z0 : Int) + 1 < 38 := by omega
                  have hpn : y * prodZ (gat b ((Q.take (q + 1)).map (idxN T6n))) % 10007 = pt * b.getD (z0 + 1) 0 % 10007 := by
                    rw [List.take_add_one, hzq, List.map_append]
                    show y * prodZ (gat b ((Q.take q).map (idxN T6n) ++ [idxN T6n z])) % 10007 = _
                    unfold gat
                    rw [List.map_append]
                    show y * prodZ (((Q.take q).map (idxN T6n)).map (fun k => b.getD k 0) ++ [b.getD (idxN T6n z) 0]) % 10007 = _
                    rw [prodZ_snoc, hz0, ← Int.mul_assoc, ← mul_modL, hpt]
                    rfl
                  have HPN := Lib.hid hpn
                  generalize b.getD (z0 + 1) 0 = yb at *
                  have hqi : (q : Int) < (Q.length : Int) := by omega
                  have HB6 := Lib.hid hb6
                  clear hpt hz h3 hzq hz0 hfz hzi hbc hcb hpn hb6
                  go_wp2_with (first
                    | (go_at_call 118; go_loud (refine (HFZ.out _ _ _ HXR.out HZI.out).mono ?_; rintro e w8 ⟨rfl, n8, hw8⟩; have hb8 : Below w6.heap.size w6 w8 := hw8.symm ▸ below_drewN (Below.refl w6.heap.size w6) n8; clear hw8; have hcy := keepCell hb8 HCB.out; have HB8 := Lib.hid hb8; clear hb8))
                    | (go_at_call 96; refine (s_l01Mul pt yb _ (by omega) (by omega) (by omega) (by omega)).mono ?_; rintro e w9 ⟨rfl, rfl⟩))
                  go_roundw
                  case rel => exact ⟨q + 1, by omega, by go_num, by rw [HPN.out], HB6.out.trans (HB8.out.mono HB6.out.size)⟩
                  case measure => simp [intOf]; omega
              · have hdq : decide ((q : Int) < (Q.length : Int)) = false := decide_eq_false (by omega)
                have hqi : ¬ (q : Int) < (Q.length : Int) := by omega
                have HPTF := Lib.hid (show pt = y * prodZ (gat b (Q.map (idxN T6n))) % 10007 from by rw [hpt, List.take_of_length_le (by omega)])
                clear hpt
                have HBF := Lib.hid (HB5.out.trans (hb6.mono HB5.out.size))
                have HAD := Lib.hid (show ((wt - msk (fun p => p != i + 1) cc b t k) % 10007 - pt) % 10007 = (wt - msk (fun p => p != i + 1) cc b t (k + 1)) % 10007 from by rw [HMF.out, HF.out, HPTF.out]; omega)
                have hmb : 0 ≤ (wt - msk (fun p => p != i + 1) cc b t k) % 10007 ∧ (wt - msk (fun p => p != i + 1) cc b t k) % 10007 ≤ 10006 := by omega
                generalize (wt - msk (fun p => p != i + 1) cc b t k) % 10007 = sm at *
                clear hb6
                go_wp2_with (go_at_call 97; refine (s_l01Sub sm pt _ (by omega) (by omega) (by omega) (by omega)).mono ?_; rintro e w9 ⟨rfl, rfl⟩)
                go_roundw
                case rel => exact ⟨k + 1, m + 2, by omega, by go_num, by have := HMK.out; show m + 2 = 2 * (k + 1); omega, by rw [HAD.out], HBF.out⟩
                case measure => have := HMK.out; have := HMM.out; simp [intOf]; omega
          · have hkN : k = N - 1 := by omega
            subst hkN
            have hmi : ¬ ((m : Int) < (M : Int) - 2) := by omega
            have hml : ¬ (m < M - 2) := by omega
            have hse := HSE2.out
            have hcb1 := keepCell (HB.out.trans (HBC.out.mono HB.out.size)) HCB1.out
            have hmb : 0 ≤ (wt - msk (fun p => p != i + 1) cc b t (N - 1)) % 10007 ∧ (wt - msk (fun p => p != i + 1) cc b t (N - 1)) % 10007 ≤ 10006 := by omega
            generalize (wt - msk (fun p => p != i + 1) cc b t (N - 1)) % 10007 = sm at *
            have HPW := Lib.hid (fun W => show Calls Tryz.prog 95 #[.int .i64 y1, .int .i64 (t.length : Int)] W fun e w' => e = .returned (.int .i64 (pw y1 tn)) ∧ W = w' from by
              have h := s_l01Pow y1 (t.length : Int) W (by omega) (by omega) (by omega) (by omega)
              rw [htn]
              simpa using h)
            generalize hyt : pw y1 tn = yt at *
            generalize hyy : pw yt 10005 = yy at *
            have HYY := Lib.hid hyy
            have HSQ := Lib.hid hse
            have HOC := Lib.hid (HO.out.below HBC.out)
            obtain ⟨u0, -, hcg, hfg, -, -, hown', hgr⟩ := HOC.out.1.storeAt (k := i + 1) (by rw [ints_len, filS_len]; omega) (.int .i64 (sm * yy % 10007))
            rw [ints_set, ← HSQ.out] at hown'
            have HO4 := Lib.hid hown'
            have HGR := Lib.hid hgr
            have HW4 := Lib.hid ((HW.out.below HBC.out).kept (v' := .slice (some ⟨g, 0, none⟩) 38 38) hgr (.inr (by simp [Value.ownBlock]; exact fun e => HNE.out e.symm)))
            have HBW := Lib.hid (HB.out.trans (HBC.out.mono HB.out.size))
            clear hse hb hmk hMM hyt hyy hown' hgr
            go_wp2_with (first
              | (go_at_call 95; refine (HPW.out _).mono ?_; rintro e w7 ⟨rfl, rfl⟩)
              | (go_at_call 98; refine (s_l01Inv yt _ (by omega) (by omega)).mono ?_; rintro e w7 ⟨rfl, rfl⟩; rw [HYY.out])
              | (go_at_call 96; refine (s_l01Mul sm yy _ (by omega) (by omega) (by omega) (by omega)).mono ?_; rintro e w7 ⟨rfl, rfl⟩))
            go_roundw
            case rel =>
              exact ⟨i + 1, by omega, by go_num, ⟨HO4.out, fun z hz => in64_num (filS_nums (fun o n => invF_bd b o n) (i + 1) z hz)⟩, HW4.out, grownBy_trans HG.out (grownBy_trans (grownBy_below HBC.out) HGR.out), HBW.out.setCell (p := ⟨g, i + 1, none⟩) HGG.out _⟩
            case measure => simp [intOf]; omega
      · have hil : i = 37 := by omega
        subst hil
        go_wp2_with fail
        go_ret
        exact ⟨_, rfl, HO.out, HB.out⟩
end Go.Proofs.YtngdpoeondnchaaGreat

set_option maxRecDepth 100000
set_option linter.unusedVariables false
set_option linter.unusedSimpArgs false
namespace Go.Proofs.YtngdpoeondnchaaGreat
open Go.RowKit

end Go.Proofs.YtngdpoeondnchaaGreat

set_option maxRecDepth 100000
set_option linter.unusedVariables false
set_option linter.unusedSimpArgs false
namespace Go.Proofs.YtngdpoeondnchaaGreat
open Go.RowKit

def sbiC (b : List Int) : Int := if infC b = 0 then (if b.getD 1 0 = 0 then 5 else 0) else infC b
def sbiR (b : List Int) : List Int := if sbiC b = 0 then invZ b else []
theorem invZ_nums (b : List Int) : Nums (invZ b) := filS_nums (fun o n => invF_bd b o n) 37
theorem inf_of' {a : List Int} (h : infC a = 0) : mapB a = true ∧ a.getD 0 0 = 0 := by
  unfold infC at h
  cases hm : mapB a with
  | false => rw [hm] at h; simp at h
  | true =>
    rw [hm] at h
    refine ⟨rfl, ?_⟩
    by_cases e : a.getD 0 0 = 0
    · exact e
    · rw [if_pos rfl, if_neg e] at h; exact absurd h (by decide)
/-- the value at the tree with one node -/
theorem map_one {w : World} {ad : Addr} {c : Nat} {a : List Int} (h : Ints w (.slice (some ad) 38 c) a) (hm : ∀ z ∈ a, 0 ≤ z ∧ z ≤ 10006) : w.cell? ⟨ad.block, ad.off + 1, none⟩ = some (.int .i64 (a.getD 1 0)) := by
  obtain ⟨ad', he, hc, -, -⟩ := map_cell h hm (k := 1) (by omega)
  simp only [Option.some.injEq] at he
  subst he
  simpa [Addr.add] using hc

set_option maxHeartbeats 8000000 in
theorem i_SubstitutionInverse (w : World) (v : Value) (b : List Int) (h1 : Ints w v b) :
    Calls Tryz.prog 44 #[v] w fun e w' => ∃ x, e = .returned (.tuple #[x, .int .i64 (sbiC b)]) ∧ OwnInts w' w.heap.size tI x (sbiR b) ∧ Below w.heap.size w w' := by
  have HCH := Lib.hid (i_checkInf1 w v b h1)
  have HB1 := Lib.hid h1
  obtain ⟨Ab, cb, rfl, -, -, -⟩ := h1.open_
  by_cases hc : infC b = 0
  · obtain ⟨hm1, -⟩ := inf_of' hc
    obtain ⟨l1, n1⟩ := mapB_true hm1
    rw [l1] at h1 HB1 HCH ⊢
    obtain ⟨ad, rfl, -, -, -⟩ := map_cell h1 n1 (k := 0) (by omega)
    have HC1 := Lib.hid (map_one h1 n1)
    rw [hc] at HCH
    have HLB := Lib.hid l1
    have HNB := Lib.hid (show Nums b from n1)
    obtain ⟨y1, hy1⟩ : ∃ y1, y1 = b.getD 1 0 := ⟨_, rfl⟩
    rw [← hy1] at HC1
    by_cases hz : y1 = 0
    · have hd : (y1 == 0) = true := by simp [hz]
      have HC := Lib.hid (show sbiC b = 5 from by rw [sbiC, if_pos hc, if_pos (by rw [← hy1]; exact hz)])
      have HR := Lib.hid (show sbiR b = [] from by rw [sbiR, HC.out]; rfl)
      clear hc hm1 l1 n1 h1 hy1 hz
      go_enter Tryz.func44, Tryz.ntmps44
      go_wp2_with (go_at_call 53; go_loud (refine HCH.out.mono ?_; rintro e w0 ⟨rfl, hb0⟩; have HB0 := Lib.hid hb0; have hcy := keepCell hb0 HC1.out; clear hb0))
      go_ret2
      rw [HC.out, HR.out]
      exact ⟨_, rfl, OwnInts.nil _ _ _, HB0.out⟩
    · have hd : (y1 == 0) = false := by simp [hz]
      have HC := Lib.hid (show sbiC b = 0 from by rw [sbiC, if_pos hc, if_neg (by rw [← hy1]; exact hz)])
      have HR := Lib.hid (show sbiR b = invZ b from by rw [sbiR, HC.out]; rfl)
      clear hc hm1 l1 n1 h1 hy1 hz
      go_enter Tryz.func44, Tryz.ntmps44
      go_upto_region 7 with (first
        | (go_at_call 53; go_loud (refine HCH.out.mono ?_; rintro e w0 ⟨rfl, hb0⟩; have HB0 := Lib.hid hb0; have hcy := keepCell hb0 HC1.out; clear hb0))
        | (go_at_call 56; go_loud (refine (i_newForms _).mono ?_; rintro e w1 ⟨f, rfl, hf, hb1⟩; obtain ⟨Af, cf, Ay, my, cy, rfl, hrf⟩ := hf.opens; have HRF := Lib.hid hrf; have HB1W := Lib.hid (HB0.out.trans (hb1.mono HB0.out.size)); clear hf hrf hb1)))
      obtain ⟨W, hW⟩ : ∃ W, W = w1.alloc (.cells #[.slice Af 37 cf, .slice Ay my cy] tFo) := ⟨_, rfl⟩
      have hbw : Below w1.heap.size w1 W := by rw [hW]; exact below1 w1 _
      have HBW := Lib.hid (HB1W.out.trans (hbw.mono HB1W.out.size))
      have HKF := Lib.hid (show Blk W w1.heap.size tFo #[.slice Af 37 cf, .slice Ay my cy] from by rw [hW]; exact Blk.new _ _ _)
      have HRW := Lib.hid (HRF.out.below hbw)
      have HAW := Lib.hid (HB1.out.below HBW.out)
      rw [← hW]
      clear hW hbw hcy
      have k1 : W.cell? ⟨w1.heap.size, 0, none⟩ = some (.slice Af 37 cf) := HKF.out.cell 0
      have k2 : W.cell? ⟨w1.heap.size, 1, none⟩ = some (.slice Ay my cy) := HKF.out.cell 1
      go_region_law (first
        | (go_simp; go_at_call 55; refine (i_mapPartitions _ _ Ay my cy (by exact HRW.out)).mono ?_; rintro e w5 ⟨r5, rfl, hp5, hb5'⟩; have hb5 : Below W.heap.size W w5 := (by exact below_of_drew hb5'); have HP5 := Lib.hid hp5; have HB5 := Lib.hid hb5; have m1 : w5.cell? ⟨w1.heap.size, 0, none⟩ = some (.slice Af 37 cf) := (HKF.out.below hb5 HKF.out.lt).cell 0; have m2 : w5.cell? ⟨w1.heap.size, 1, none⟩ = some (.slice Ay my cy) := (HKF.out.below hb5 HKF.out.lt).cell 1; clear hp5 hb5')
        | (go_simp; go_at_call 93; refine (i_substitutionInverse w5 (.slice Af 37 cf) r5 _ Ay my cy _ b (by exact HRW.out.below HB5.out) (by exact HP5.out) (by exact HAW.out.below HB5.out) HLB.out HNB.out).mono ?_; rintro e w7 ⟨x7, rfl, ho7, hb7⟩; have HO7 := Lib.hid ho7; have HB7 := Lib.hid hb7; clear ho7 hb7))
      all_goals
        go_wp2_with fail
        go_ret2
        rw [HC.out, HR.out]
        exact ⟨_, rfl, HO7.out.mono (Nat.le_trans HBW.out.size HB5.out.size), (HBW.out.trans (HB5.out.mono HBW.out.size)).trans (HB7.out.mono (Nat.le_trans HBW.out.size HB5.out.size))⟩
  · have HC := Lib.hid (show sbiC b = infC b from if_neg hc)
    have HR := Lib.hid (show sbiR b = [] from by rw [sbiR, HC.out, if_neg hc])
    rw [HR.out, HC.out]
    have hd : (infC b != 0) = true := by simp [hc]
    generalize infC b = cc at *
    clear hc HR HC h1
    go_enter Tryz.func44, Tryz.ntmps44
    go_wp2_with (go_at_call 53; go_loud (refine HCH.out.mono ?_; rintro e w0 ⟨rfl, hb0⟩; have HB0 := Lib.hid hb0; clear hb0))
    go_ret2
    exact ⟨_, rfl, OwnInts.nil _ _ _, HB0.out⟩
end Go.Proofs.YtngdpoeondnchaaGreat

