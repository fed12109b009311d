/- DROP Walk: the reference's substitution. -/
import Derived.Test.YtngdpoeondnchaaGreatR28
import Derived.Test.YtngdpoeondnchaaGreatR29
import Derived.Test.YtngdpoeondnchaaGreatR31
import Derived.Test.YtngdpoeondnchaaGreatR17
set_option maxRecDepth 100000
set_option linter.unusedVariables false
set_option linter.unusedSimpArgs false
namespace Go.Proofs.YtngdpoeondnchaaGreat
open Go.RowKit

/-- what the search tells of a tree that is on the list -/
theorem find_at {q : List Nat} (h : okPl q = true) : ∃ p0 : Nat, idxN T6n q = p0 + 1 ∧ p0 < 37 ∧ ∀ W x y, Rows W x (T6n.map up) → Ints W y (up q) → Calls Tryz.prog 118 #[x, y] W fun e w' => e = .returned (.int .i64 (p0 : Nat)) ∧ ∃ n, w' = W.drewN n := by
  obtain ⟨h1, h2, h3, -⟩ := okPl_at h
  obtain ⟨p0, hp⟩ : ∃ p0, idxN T6n q = p0 + 1 := ⟨idxN T6n q - 1, by omega⟩
  refine ⟨p0, hp, by omega, fun W x y hx hy => ?_⟩
  have hf := s_l03Find W x y T6n q hx hy (by rw [T6n_len]; omega)
  rw [h1, hp, show (((p0 + 1 : Nat) : Int) - 1) = (p0 : Int) from by omega] at hf
  exact hf
theorem pw2 (t : List Nat) (h0 : 0 < t.length) (h6 : t.length ≤ 6) : ∃ N : Nat, N = 2 ^ (t.length - 1) ∧ 2 * N = 2 ^ t.length ∧ N ≤ 32 ∧ 1 ≤ N := by
  refine ⟨_, rfl, ?_, ?_, Nat.pow_pos (by omega)⟩
  · obtain ⟨k, hk⟩ : ∃ k, t.length = k + 1 := ⟨t.length - 1, by omega⟩
    rw [hk, Nat.pow_succ]; simp; omega
  · exact Nat.le_trans (Nat.pow_le_pow_right (by omega) (show t.length - 1 ≤ 5 by omega)) (by decide)
set_option maxHeartbeats 16000000 in
theorem s_l16Substitute (w : World) (vb va : Value) (b a : List Int) (h1 : Ints w vb b) (l1 : b.length = 38) (hN1 : Nums b) (h2 : Ints w va a) (l2 : a.length = 38) (hN2 : Nums a) :
    Calls Tryz.prog 91 #[vb, va] w fun e w' => ∃ x, e = .returned x ∧ OwnInts w' w.heap.size tI x (subZ b a) ∧ Below w.heap.size w w' := by
  obtain ⟨Ab, cb, rfl, -, -, -⟩ := h1.open_
  obtain ⟨Aa, ca, rfl, -, -, -⟩ := h2.open_
  rw [l1] at h1 ⊢
  rw [l2] at h2 ⊢
  obtain ⟨ada, rfl, hc0, ha0, ha1⟩ := map_cell h2 hN2 (k := 0) (by omega)
  obtain ⟨adb, rfl, -, -, -⟩ := map_cell h1 hN1 (k := 0) (by omega)
  have HB1 := Lib.hid h1
  have HA1 := Lib.hid h2
  have HNB := Lib.hid hN1
  have HNA := Lib.hid hN2
  have HSZ := Lib.hid (subZ_len b a)
  obtain ⟨y0, hy0⟩ : ∃ y0, y0 = a.getD 0 0 := ⟨_, rfl⟩
  rw [← hy0] at hc0
  have HS0 := Lib.hid (show ints ((subZ b a).take 1) = [.int .i64 y0] from by rw [hy0]; rfl)
  have OL := Lib.hid (show Own (w.alloc (.cells #[.int .i64 y0] tI)) w.heap.size tI (.slice (some ⟨w.heap.size, 0, none⟩) 1 1) (ints ((subZ b a).take 1)) from by rw [HS0.out]; exact own_lit w tI [.int .i64 y0] (by simp [maxLen]))
  have hc0' : w.cell? ada = some (.int .i64 y0) := by simpa [Addr.add] using hc0
  clear h1 h2 l1 l2 hN1 hN2 hc0 hy0 ha0 ha1
  go_enter Tryz.func91, Tryz.ntmps91
  go_wp2_with (go_at_call 115; go_loud (refine (s_l03All _ 6 (by omega)).mono ?_; rintro e w1 ⟨x1, rfl, hx1, hb1⟩; rw [show allG treesN 6 = T6n from rfl] at hx1; obtain ⟨A1, c1, he1, -, -, -⟩ := hx1.rows.open_; rw [List.length_map, T6n_len] at he1; subst he1; have HX1 := Lib.hid (show LA w1 (w.heap.size + 1) _ (T6n.map up) from by rw [size_alloc'] at hx1; exact hx1); have HO1 := Lib.hid (OL.out.below hb1); have HB1W := Lib.hid (show Below w.heap.size w w1 from (below1 w _).trans (hb1.mono (by simp))); clear hx1 hb1))
  go_loopw [5, 7] (fun o x wr => ∃ i : Nat, i ≤ 37 ∧ x = .int .i64 i ∧ Own wr w.heap.size tI o (ints ((subZ b a).take (i + 1))) ∧ Grow w1 wr (.slice (some ⟨w.heap.size, 0, none⟩) 1 1) o) (fun _ x _ => 37 - (intOf x).toNat)
  case atStart => exact ⟨0, Nat.zero_le _, rfl, HO1.out, Grow.refl _ _⟩
  case round =>
    obtain ⟨i, hi, rfl, ho, hg⟩ := hrel
    rename World => wq
    clear OL
    have hel : ((subZ b a).take (i + 1)).length = i + 1 := by rw [List.length_take, HSZ.out]; omega
    have hol := ho.cells.open_
    rw [ints_len, hel] at hol
    obtain ⟨Ao, co, rfl, -, -⟩ := hol
    have HEL := Lib.hid hel
    have HO := Lib.hid ho
    have HG := Lib.hid hg
    have HBQ := Lib.hid (show Below w.heap.size w wq from hg.below HB1W.out HB1W.out.size HO1.out.ge)
    have HXQ := Lib.hid (HX1.out.keptLt' hg.1 (Nat.lt_succ_self _)).rows
    clear ho hel hg
    by_cases hlt : i < 37
    · obtain ⟨ad, At, ct, t, rfl, ht, hti, hcr⟩ := HXQ.out.tree hlt
      have htr := tr_at ht
      have htm := List.mem_of_getElem? ht
      obtain ⟨htl, ht1, ht6, htl6⟩ := T6n_at htm
      have HTI := Lib.hid hti
      obtain ⟨N, hN, hN2, hN8, hN1⟩ := pw2 t ht1 ht6
      obtain ⟨M, hM⟩ : ∃ M, M = 2 * N := ⟨_, rfl⟩
      have hM8 : M ≤ 64 := by omega
      have HSH := Lib.hid (show wrap64 ((2 : Int) ^ t.length) = (M : Int) ∧ IntKind.i64.wrap ((2 : Int) ^ t.length) = (M : Int) from by
        have e : ((2 : Int) ^ t.length) = ((2 ^ t.length : Nat) : Int) := by simp
        rw [e, ← hN2, ← hM]
        exact ⟨w64_in' _ (by omega), IntWalk.i64_in _ (by omega)⟩)
      have HPA := Lib.hid (fun k (hk : k < N) => prt_at htm (i := k) (by rw [← hN]; exact hk))
      have HSK := Lib.hid (fun W m r (hm : m < 256) (h : Ints W (.slice At t.length ct) (up t)) (hr : canO 9 (sklN t m) = some r) => s_l16Skeleton W _ t m r h (by omega) ht1 hm (fun l hl => by have := htl6 l hl; omega) hr)
      have HPC := Lib.hid (fun W m pcs (hm : m < 256) (h : Ints W (.slice At t.length ct) (up t)) (hp : mapO (fun i => canO 9 (pieN t m i)) (0 :: cutsN m (t.length - 1) 1) = some pcs) (hpl : ∀ i < t.length, (pieN t m i).length ≤ 8) => s_l16Pieces W _ t m pcs h (by omega) ht1 hm (fun l hl => by have := htl6 l hl; omega) hp hpl)
      have HMF := Lib.hid (fun k => msk_succ (fun _ => true) a b t k)
      have HTS := Lib.hid (show ints ((subZ b a).take (i + 1 + 1)) = ints ((subZ b a).take (i + 1)) ++ [.int .i64 (msk (fun _ => true) a b t N % 10007)] from by
        have h1 : (subZ b a)[i + 1]? = some (msk (fun _ => true) a b t N % 10007) := by
          rw [← htr, hN, htr]
          unfold subZ
          simp [hlt, allm, htr]
        rw [List.take_add_one, h1, ints, ints, List.map_append]; rfl)
      have HMM := Lib.hid hM
      have hii : (i : Int) < 37 := by omega
      have ht63 : (t.length : Int) < 64 := by omega
      have ht0 : (0 : Int) ≤ (t.length : Int) := by omega
      clear ht htr htm htl htl6 hti hN hN2 hM
      go_wp2_with fail
      go_loopw [9, 10] (fun s x wr => ∃ k m : Nat, k ≤ N ∧ x = .int .i64 (m : Nat) ∧ Hid (m = 2 * k) ∧ s = .int .i64 (msk (fun _ => true) a b t k % 10007) ∧ Below wq.heap.size wq wr) (fun _ x _ => M - (intOf x).toNat)
      case atStart => exact ⟨0, 0, Nat.zero_le _, rfl, rfl, rfl, Below.refl _ _⟩
      case round =>
        obtain ⟨k, m, hk, rfl, HMK, rfl, hb⟩ := hrel
        rename World => wc
        have HBC := Lib.hid hb
        have hmk := HMK.out
        have hMM := HMM.out
        by_cases hlk : k < N
        · have hml : m < M := by omega
          have hmi : (m : Int) < (M : Int) := by omega
          obtain ⟨sk, pcs, hpa⟩ := HPA.out k hlk
          have hsk := hpa.hsk
          have hpc := hpa.hpc
          have hpie := hpa.pie
          have hopc := hpa.opc
          have hpl := hpa.pl
          rw [← hmk] at hsk hpc hpie
          obtain ⟨p0, hp0, hp37, hfi⟩ := find_at hpa.osk
          obtain ⟨Q, hQ⟩ : ∃ Q, Q = srtB pcs := ⟨_, rfl⟩
          have HF := Lib.hid (show fC (fun _ => true) a b (plU (prtN t (2 * k))) = a.getD (p0 + 1) 0 * prodZ (gat b (Q.map (idxN T6n))) from by rw [hpa.prt, hQ]; unfold fC fP plU; simp only [cond_true]; rw [hp0])
          rw [← hQ] at hopc hpl
          have HOPC := Lib.hid hopc
          have HFI := Lib.hid hfi
          have HPIE := Lib.hid hpie
          have HSKE := Lib.hid hsk
          have HPCE := Lib.hid hpc
          have HQE := Lib.hid hQ
          have HML := Lib.hid (show m < 256 from by omega)
          obtain ⟨_, he, hcx, hx0, hx1⟩ := map_cell ((HA1.out.below HBQ.out).below hb) HNA.out (k := p0 + 1) (by omega)
          simp only [Option.some.injEq] at he
          subst he
          have HCX := Lib.hid (show wc.cell? ⟨ada.block, ada.off + (p0 + 1), none⟩ = some (.int .i64 (a.getD (p0 + 1) 0)) from by simpa [Addr.add] using hcx)
          have hpl1 : (p0 : Int) + 1 < 38 := by omega
          generalize a.getD (p0 + 1) 0 = y at *
          clear hsk hpc hpie hopc hQ hpa hfi hp0 hcx hb hmk hMM
          have hsh := HSH.out.1
          have hsh2 := HSH.out.2
          go_upto_region 10 with fail
          clear hsh hsh2
          go_wp2_with (first
            | (go_at_call 130; go_loud (refine (HSK.out _ m sk HML.out (HTI.out.below HBC.out) HSKE.out).mono ?_; rintro e w3 ⟨x3, rfl, ho3, hb3⟩; have HO3 := Lib.hid ho3.ints; have HB3 := Lib.hid (HBC.out.trans (hb3.mono HBC.out.size)); have HB3C := Lib.hid hb3; clear ho3 hb3))
            | (go_at_call 118; go_loud (refine (HFI.out _ _ _ (HXQ.out.below HB3.out) HO3.out).mono ?_; rintro e w4 ⟨rfl, n4, hw4⟩; have hb4 : Below w3.heap.size w3 w4 := hw4.symm ▸ below_drewN (Below.refl w3.heap.size w3) n4; clear hw4; have hcx := keepCell (HB3C.out.trans (hb4.mono HB3C.out.size)) HCX.out; have HB4 := Lib.hid (HB3.out.trans (hb4.mono HB3.out.size)); clear hb4))
            | (go_at_call 131; go_loud (refine (HPC.out _ m pcs HML.out (HTI.out.below HB4.out) HPCE.out HPIE.out).mono ?_; rintro e w5 ⟨x5, rfl, ho5, hb5⟩; rw [← HQE.out] at ho5; obtain ⟨A5, c5, he5, -, -, -⟩ := ho5.rows.open_; rw [List.length_map] at he5; subst he5; have HO5 := Lib.hid ho5.rows; have HB5 := Lib.hid (HB4.out.trans (hb5.mono HB4.out.size)); clear ho5 hb5)))
          go_loopw [11, 13] (fun s x wr => ∃ q : Nat, q ≤ Q.length ∧ x = .int .i64 q ∧ s = .int .i64 (y * prodZ (gat b ((Q.take q).map (idxN T6n))) % 10007) ∧ Below w5.heap.size w5 wr) (fun _ x _ => Q.length - (intOf x).toNat)
          case atStart => exact ⟨0, Nat.zero_le _, rfl, by simp [gat, prodZ]; omega, Below.refl _ _⟩
          case round =>
            obtain ⟨q, hq, rfl, rfl, hb6⟩ := hrel
            rename World => w6
            obtain ⟨pt, hpt⟩ : ∃ pt, pt = y * prodZ (gat b ((Q.take q).map (idxN T6n))) % 10007 := ⟨_, rfl⟩
            rw [← hpt]
            have hpb : 0 ≤ pt ∧ pt ≤ 10006 := by omega
            by_cases hlq : q < Q.length
            · by_cases hz : pt = 0
              · have hd : (pt != 0) = false := by simp [hz]
                have hdq : decide ((q : Int) < (Q.length : Int)) = true := decide_eq_true (by omega)
                have HPTF := Lib.hid (show pt = y * prodZ (gat b (Q.map (idxN T6n))) % 10007 from by
                  rw [hz]
                  have e : prodZ (gat b (Q.map (idxN T6n))) = prodZ (gat b ((Q.take q).map (idxN T6n))) * prodZ (gat b ((Q.drop q).map (idxN T6n))) := by
                    rw [← prodZ_append]
                    unfold gat
                    rw [← List.map_append, ← List.map_append, List.take_append_drop]
                  rw [e, ← Int.mul_assoc, ← mul_modL, ← hpt, hz]
                  simp)
                have hqi : (q : Int) < (Q.length : Int) := by omega
                clear hpt hz
                have HBF := Lib.hid (HB5.out.trans (hb6.mono HB5.out.size))
                have HAD := Lib.hid (show (msk (fun _ => true) a b t k % 10007 + pt) % 10007 = msk (fun _ => true) a b t (k + 1) % 10007 from by rw [HMF.out, HF.out, HPTF.out]; omega)
                have hmb : 0 ≤ msk (fun _ => true) a b t k % 10007 ∧ msk (fun _ => true) a b t k % 10007 ≤ 10006 := by omega
                generalize msk (fun _ => true) a b t k % 10007 = sm at *
                clear hb6
                go_wp2_with (go_at_call 119; refine (s_l01Add sm pt _ (by omega) (by omega) (by omega) (by omega)).mono ?_; rintro e w9 ⟨rfl, rfl⟩)
                go_roundw
                case rel => exact ⟨k + 1, m + 2, by omega, by go_num, by have := HMK.out; show m + 2 = 2 * (k + 1); omega, by rw [HAD.out], HBF.out⟩
                case measure => have := HMK.out; have := HMM.out; simp [intOf]; omega
              · have hd : (pt != 0) = true := by simp [hz]
                have hdq : decide ((q : Int) < (Q.length : Int)) = true := decide_eq_true (by omega)
                obtain ⟨A', c', he, -, -, h3⟩ := rowsAt (HO5.out.below hb6)
                simp only [Value.slice.injEq, true_and] at he
                obtain ⟨rfl, rfl⟩ := he
                obtain ⟨adq, z, A7, c7, rfl, hzq, hzi, hzc⟩ := h3 q hlq
                obtain ⟨z0, hz0, hz37, hfz⟩ := find_at (HOPC.out z (List.mem_of_getElem? hzq))
                have HFZ := Lib.hid hfz
                have HZI := Lib.hid hzi
                have hbc : Below wq.heap.size wq w6 := HB5.out.trans (hb6.mono HB5.out.size)
                have HBC6 := Lib.hid hbc
                have HXR := Lib.hid (HXQ.out.below hbc)
                obtain ⟨_, hab, hcb, hy0, hy1⟩ := map_cell ((HB1.out.below HBQ.out).below hbc) HNB.out (k := z0 + 1) (by omega)
                simp only [Option.some.injEq] at hab
                subst hab
                have HCB := Lib.hid (show w6.cell? ⟨adb.block, adb.off + (z0 + 1), none⟩ = some (.int .i64 (b.getD (z0 + 1) 0)) from by simpa [Addr.add] using hcb)
                have hpl2 : (z0 : Int) + 1 < 38 := by omega
                have hpn : y * prodZ (gat b ((Q.take (q + 1)).map (idxN T6n))) % 10007 = pt * b.getD (z0 + 1) 0 % 10007 := by
                  rw [List.take_add_one, hzq, List.map_append]
                  show y * prodZ (gat b ((Q.take q).map (idxN T6n) ++ [idxN T6n z])) % 10007 = _
                  unfold gat
                  rw [List.map_append]
                  show y * prodZ (((Q.take q).map (idxN T6n)).map (fun k => b.getD k 0) ++ [b.getD (idxN T6n z) 0]) % 10007 = _
                  rw [prodZ_snoc, hz0, ← Int.mul_assoc, ← mul_modL, hpt]
                  rfl
                have HPN := Lib.hid hpn
                generalize b.getD (z0 + 1) 0 = yb at *
                have hqi : (q : Int) < (Q.length : Int) := by omega
                have HB6 := Lib.hid hb6
                clear hpt hz h3 hzq hz0 hfz hzi hbc hcb hpn hb6
                go_wp2_with (first
                  | (go_at_call 118; go_loud (refine (HFZ.out _ _ _ HXR.out HZI.out).mono ?_; rintro e w8 ⟨rfl, n8, hw8⟩; have hb8 : Below w6.heap.size w6 w8 := hw8.symm ▸ below_drewN (Below.refl w6.heap.size w6) n8; clear hw8; have hcy := keepCell hb8 HCB.out; have HB8 := Lib.hid hb8; clear hb8))
                  | (go_at_call 96; refine (s_l01Mul pt yb _ (by omega) (by omega) (by omega) (by omega)).mono ?_; rintro e w9 ⟨rfl, rfl⟩))
                go_roundw
                case rel => exact ⟨q + 1, by omega, by go_num, by rw [HPN.out], HB6.out.trans (HB8.out.mono HB6.out.size)⟩
                case measure => simp [intOf]; omega
            · have hdq : decide ((q : Int) < (Q.length : Int)) = false := decide_eq_false (by omega)
              have hqi : ¬ (q : Int) < (Q.length : Int) := by omega
              have HPTF := Lib.hid (show pt = y * prodZ (gat b (Q.map (idxN T6n))) % 10007 from by rw [hpt, List.take_of_length_le (by omega)])
              clear hpt
              have HBF := Lib.hid (HB5.out.trans (hb6.mono HB5.out.size))
              have HAD := Lib.hid (show (msk (fun _ => true) a b t k % 10007 + pt) % 10007 = msk (fun _ => true) a b t (k + 1) % 10007 from by rw [HMF.out, HF.out, HPTF.out]; omega)
              have hmb : 0 ≤ msk (fun _ => true) a b t k % 10007 ∧ msk (fun _ => true) a b t k % 10007 ≤ 10006 := by omega
              generalize msk (fun _ => true) a b t k % 10007 = sm at *
              clear hb6
              go_wp2_with (go_at_call 119; refine (s_l01Add sm pt _ (by omega) (by omega) (by omega) (by omega)).mono ?_; rintro e w9 ⟨rfl, rfl⟩)
              go_roundw
              case rel => exact ⟨k + 1, m + 2, by omega, by go_num, by have := HMK.out; show m + 2 = 2 * (k + 1); omega, by rw [HAD.out], HBF.out⟩
              case measure => have := HMK.out; have := HMM.out; simp [intOf]; omega
        · have hkN : k = N := by omega
          subst hkN
          have hmi : ¬ ((m : Int) < (M : Int)) := by omega
          have hml : ¬ (m < M) := by omega
          have HOX := Lib.hid (HO.out.below hb)
          have hmb : 0 ≤ msk (fun _ => true) a b t k % 10007 ∧ msk (fun _ => true) a b t k % 10007 ≤ 10006 := by omega
          clear hb hmk hMM
          generalize msk (fun _ => true) a b t k % 10007 = sm at *
          have hsh := HSH.out.1
          have hsh2 := HSH.out.2
          go_upto_region 17 with fail
          clear hsh hsh2
          go_wp2_with (at_builtin; go_loud (refine wpList_app1 T_int HOX.out (by rw [ints_len, HEL.out]; omega) (Nat.le_trans HBQ.out.size HBC.out.size) (by rfl) rfl (by rfl) (by rfl) (by rfl) ?_; intro v1 w9 hown1 hgr1; have HN := Lib.hid hown1; have HGR := Lib.hid hgr1; clear hown1 hgr1))
          go_roundw
          case rel =>
            refine ⟨i + 1, by omega, by go_num, ?_, HG.out.trans (Grow.pre HBC.out HGR.out)⟩
            rw [HTS.out]; exact HN.out
          case measure => simp [intOf]; omega
    · have hil : i + 1 = (subZ b a).length := by rw [HSZ.out]; omega
      have HF := Lib.hid (show (subZ b a).take (i + 1) = subZ b a from by rw [hil]; exact List.take_length)
      clear hil
      go_wp2_with fail
      go_ret
      refine ⟨_, rfl, ⟨?_, fun z hz => in64_num (subZ_nums HNA.out z hz)⟩, HBQ.out⟩
      have h := HO.out
      rw [HF.out] at h
      exact h
end Go.Proofs.YtngdpoeondnchaaGreat

