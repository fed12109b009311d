/- Walk of the reference: LinearField. | Arguments that came in, opened to the words of the Mem text. -/
import Derived.Test.YtofabikjjkapmaaLf10
import Derived.Test.YtofabikjjkapmaaRows
import Derived.Test.YtofabikjjkapmaaLf1
import Derived.WalkKit
import Derived.ProofKit
import Derived.OpenShut
set_option maxRecDepth 100000
set_option linter.unusedVariables false
set_option linter.unusedSimpArgs false
namespace Go.Proofs.Ytofabikjjkapmaa
open Go.RowKit Go.Sort Go.Shelf

set_option maxHeartbeats 8000000 in
theorem s_LinearField (w : World) (v : Value) (m : List (List Int)) (ha : Rows w v m) :
    Calls Try.prog 6 #[v] w fun e w' => ∃ u, e = .returned (.tuple #[.agg #[.int .i64 (lfN m : Nat), u], .int .i64 (lfC m)]) ∧ PF w' w.heap.size w'.heap.size u (lfR m) ∧ Below w.heap.size w w' := by
  have HA := Lib.hid ha
  obtain ⟨A, c, rfl, l1, l2, h3⟩ := ha.open_
  have H3 := Lib.hid h3
  have K0 := Lib.hid (Blk.new w #[.int .i64 0, .slice none 0 0] tFi)
  have HB1 := Lib.hid (below1 w (.cells #[.int .i64 0, .slice none 0 0] tFi))
  obtain ⟨C, hC⟩ : ∃ C, C = lfC m := ⟨_, rfl⟩
  obtain ⟨N, hN⟩ : ∃ N, N = lfN m := ⟨_, rfl⟩
  obtain ⟨R, hR⟩ : ∃ R, R = lfR m := ⟨_, rfl⟩
  rw [← hC, ← hN, ← hR]
  unfold lfN at hN
  unfold lfR at hR
  rw [← hC] at hN hR
  unfold lfC at hC
  obtain ⟨t, ht⟩ : ∃ t, t = matB m := ⟨_, rfl⟩
  have HM := Lib.hid (s_l01Matrix _ (.slice A m.length c) m (HA.out.below HB1.out))
  unfold matC at HM
  rw [← ht] at HM hC
  have HT := Lib.hid ht
  clear ha h3 ht
  cases t with
  | false =>
    rw [if_pos rfl] at hC
    subst hC
    rw [if_neg (by decide)] at hN hR
    subst hN; subst hR
    go_enter Try.func6, Try.ntmps6
    go_wp2_with (go_at_call 23; go_loud (refine HM.out.mono ?_; rintro e w2 ⟨rfl, hb2⟩; rw [if_neg (by decide)]; have HB2 := Lib.hid hb2; have f0 : w2.cell? ⟨w.heap.size, 0, none⟩ = some (.int .i64 0) := (K0.out.below hb2 K0.out.lt).cell 0; have f1 : w2.cell? ⟨w.heap.size, 1, none⟩ = some (.slice none 0 0) := (K0.out.below hb2 K0.out.lt).cell 1; have f2 := (K0.out.below hb2 K0.out.lt).frozen 0; have f3 := (K0.out.below hb2 K0.out.lt).frozen 1; clear hb2))
    have hbw := HB1.out.trans (HB2.out.mono HB1.out.size)
    have c0 := Chg.refl w.heap.size (w.heap.size + 1) w2
    have c1' := c0.setCell (p := ⟨w.heap.size, 0, none⟩) (Nat.le_refl _) (by simp) (.int .i64 0)
    have c2' := c1'.setCell (p := ⟨w.heap.size, 1, none⟩) (Nat.le_refl _) (by simp) (.slice none 0 0)
    have hsz := c2'.size
    have hsb := hbw.size
    exact bodyPost_ret (v := .tuple #[.agg #[.int .i64 ((0 : Nat) : Int), .slice none 0 0], .int .i64 1]) (by simp [results, Try.results6, go_sem, f0, f1]) rfl ⟨_, rfl, ⟨[], [], (PFd.nil _ w.heap.size).mono (Nat.le_refl _) (by omega)⟩, c2'.below hbw (Nat.le_refl _) (by omega)⟩
  | true =>
    rw [if_neg (by decide)] at hC
    obtain ⟨q1, q2, q3, q4, q5⟩ := matOk HT.out.symm
    obtain ⟨ad, u0, zs0, rfl, hz0, hu0, hc0⟩ := H3.out 0 (by omega)
    obtain ⟨A0, c0, rfl, -, -, -⟩ := hu0.open_
    rw [head_of hz0] at hC q3 q4 q5
    have HROW := Lib.hid q5
    rw [show ad.add 0 = ad by simp [Addr.add]] at hc0
    have HC0 := Lib.hid (fun W (h : Below w.heap.size w W) => show W.cell? ad = some (.slice A0 zs0.length c0) from (h.cell (World.block_lt_of_cell? w _ hc0)).trans hc0)
    have hpos : (0 : Int) < (m.length : Int) := by omega
    by_cases hbad : m.length ≠ zs0.length ∨ 3 < m.length
    · have hC5 : C = 5 := by
        rw [hC, if_pos]
        rcases hbad with h | h <;> simp [h]
      subst hC5
      rw [if_neg (by decide)] at hN hR
      subst hN; subst hR
      have hcnd : ((m.length : Int) != (zs0.length : Int)) = true ∨ (((m.length : Int) = (zs0.length : Int)) ∧ (3 : Int) < (m.length : Int)) := by
        by_cases he : m.length = zs0.length
        · right; refine ⟨by omega, ?_⟩; rcases hbad with h | h; exact absurd he h; omega
        · left; simpa using (by omega : (m.length : Int) ≠ (zs0.length : Int))
      obtain ⟨l0, hl0⟩ : ∃ l0, l0 = zs0.length := ⟨_, rfl⟩
      rw [← hl0] at hcnd HC0
      clear hC hbad hz0 hu0 hc0 q3 q4 q5 q1 q2 l1 l2 hl0
      rcases hcnd with hei | ⟨hei, h4i⟩
      · have hei2 : (m.length : Int) ≠ (l0 : Int) := by simpa using hei
        go_enter Try.func6, Try.ntmps6
        go_wp2_with (go_at_call 23; go_loud (refine HM.out.mono ?_; rintro e w2 ⟨rfl, hb2⟩; rw [if_pos rfl]; have HB2 := Lib.hid hb2; have e0 := HC0.out w2 (HB1.out.trans (hb2.mono HB1.out.size)); have f0 : w2.cell? ⟨w.heap.size, 0, none⟩ = some (.int .i64 0) := (K0.out.below hb2 K0.out.lt).cell 0; have f1 : w2.cell? ⟨w.heap.size, 1, none⟩ = some (.slice none 0 0) := (K0.out.below hb2 K0.out.lt).cell 1; have f2 := (K0.out.below hb2 K0.out.lt).frozen 0; have f3 := (K0.out.below hb2 K0.out.lt).frozen 1; clear hb2))
        have hbw := HB1.out.trans (HB2.out.mono HB1.out.size)
        have c0 := Chg.refl w.heap.size (w.heap.size + 1) w2
        have c1' := c0.setCell (p := ⟨w.heap.size, 0, none⟩) (Nat.le_refl _) (by simp) (.int .i64 0)
        have c2' := c1'.setCell (p := ⟨w.heap.size, 1, none⟩) (Nat.le_refl _) (by simp) (.slice none 0 0)
        have hsz := c2'.size
        have hsb := hbw.size
        exact bodyPost_ret (v := .tuple #[.agg #[.int .i64 ((0 : Nat) : Int), .slice none 0 0], .int .i64 5]) (by simp [results, Try.results6, go_sem, f0, f1]) rfl ⟨_, rfl, ⟨[], [], (PFd.nil _ w.heap.size).mono (Nat.le_refl _) (by omega)⟩, c2'.below hbw (Nat.le_refl _) (by omega)⟩
      · have hl : l0 = m.length := by omega
        subst hl
        clear hei
        go_enter Try.func6, Try.ntmps6
        go_wp2_with (go_at_call 23; go_loud (refine HM.out.mono ?_; rintro e w2 ⟨rfl, hb2⟩; rw [if_pos rfl]; have HB2 := Lib.hid hb2; have e0 := HC0.out w2 (HB1.out.trans (hb2.mono HB1.out.size)); have f0 : w2.cell? ⟨w.heap.size, 0, none⟩ = some (.int .i64 0) := (K0.out.below hb2 K0.out.lt).cell 0; have f1 : w2.cell? ⟨w.heap.size, 1, none⟩ = some (.slice none 0 0) := (K0.out.below hb2 K0.out.lt).cell 1; have f2 := (K0.out.below hb2 K0.out.lt).frozen 0; have f3 := (K0.out.below hb2 K0.out.lt).frozen 1; clear hb2))
        have hbw := HB1.out.trans (HB2.out.mono HB1.out.size)
        have c0 := Chg.refl w.heap.size (w.heap.size + 1) w2
        have c1' := c0.setCell (p := ⟨w.heap.size, 0, none⟩) (Nat.le_refl _) (by simp) (.int .i64 0)
        have c2' := c1'.setCell (p := ⟨w.heap.size, 1, none⟩) (Nat.le_refl _) (by simp) (.slice none 0 0)
        have hsz := c2'.size
        have hsb := hbw.size
        exact bodyPost_ret (v := .tuple #[.agg #[.int .i64 ((0 : Nat) : Int), .slice none 0 0], .int .i64 5]) (by simp [results, Try.results6, go_sem, f0, f1]) rfl ⟨_, rfl, ⟨[], [], (PFd.nil _ w.heap.size).mono (Nat.le_refl _) (by omega)⟩, c2'.below hbw (Nat.le_refl _) (by omega)⟩
    · have he : m.length = zs0.length := by omega
      have h4 : m.length ≤ 3 := by omega
      have hC0 : C = 0 := by
        rw [hC, if_neg]
        simp [he]; omega
      subst hC0
      rw [if_pos rfl] at hN hR
      subst hN; subst hR
      have h4i : ¬ ((3 : Int) < (m.length : Int)) := by omega
      have HLR := Lib.hid (fun r h => by rw [(HROW.out r h).1, he] : ∀ r ∈ m, r.length = m.length)
      rw [← he] at HC0
      clear hC hbad he hz0 hu0 hc0 q3 q4 q5 q1 q2
      go_enter Try.func6, Try.ntmps6
      go_upto_region 6 with (go_at_call 23; go_loud (refine HM.out.mono ?_; rintro e w2 ⟨rfl, hb2⟩; rw [if_pos rfl]; have HB2 := Lib.hid hb2; have e0 := HC0.out w2 (HB1.out.trans (hb2.mono HB1.out.size)); clear hb2))
      have HW2 := Lib.hid (HB1.out.trans (HB2.out.mono HB1.out.size))
      have hba := below1 w2 (.cells #[.int .i64 (m.length : Nat), .slice none 0 0] tFi)
      have K04 := Lib.hid ((K0.out.below HB2.out K0.out.lt).alloc (.cells #[.int .i64 (m.length : Nat), .slice none 0 0] tFi))
      have K1 := Lib.hid (Blk.new w2 #[.int .i64 (m.length : Nat), .slice none 0 0] tFi)
      have HB4 := Lib.hid (HW2.out.trans (hba.mono HW2.out.size))
      have HP := Lib.hid (show w.heap.size < w2.heap.size from Nat.lt_of_lt_of_le K0.out.lt HB2.out.size)
      have HZ := Lib.hid (show w2.heap.size + 1 ≤ (w2.alloc (.cells #[.int .i64 (m.length : Nat), .slice none 0 0] tFi)).heap.size by simp)
      clear hba K0 HB1 e0 h4i
      generalize (w2.alloc (.cells #[.int .i64 (m.length : Nat), .slice none 0 0] tFi)) = w4 at K04 K1 HB4 HZ ⊢
      obtain ⟨p, hp⟩ : ∃ p, p = w2.heap.size := ⟨_, rfl⟩
      rw [← hp] at K1 HP HZ ⊢
      clear hp
      go_wp2_with fail
      go_loopw [5] (fun i wr => ∃ (j : Nat) (u : Value) (vs : List Value) (ivs : List (Nat × Nat)), j ≤ m.length ∧ i = .int .i64 j ∧ Blk wr p tFi #[.int .i64 (m.length : Nat), u] ∧ Blk wr w.heap.size tFi #[.int .i64 0, .slice none 0 0] ∧ PFd wr (p + 1) wr.heap.size u vs ivs ((m.take j).map linMs) ∧ Below w.heap.size w wr) (fun i _ => m.length - (intOf i).toNat)
      case atStart => exact ⟨0, _, [], [], Nat.zero_le _, rfl, K1.out, K04.out, (PFd.nil w4 (p + 1)).mono (Nat.le_refl _) HZ.out, HB4.out⟩
      case round =>
        obtain ⟨j, u, vs, ivs, hj, rfl, k1, k0, hf, hb⟩ := hrel
        clear K04 K1 HB4 HZ HW2 HB2
        have K0 := Lib.hid k0
        have K1 := Lib.hid k1
        have HF := Lib.hid hf
        have HB := Lib.hid hb
        obtain ⟨Au, cu, hu0, -⟩ := hf.own.cells.open_
        clear k0 k1 hf hb
        by_cases hlt : j < m.length
        · obtain ⟨ad', uj, row, hA, hr, hu, hc0⟩ := H3.out j hlt
          injection hA with hA
          subst hA
          obtain ⟨Aj, cj, rfl, -, -, -⟩ := hu.open_
          have hc : wr.cell? (ad.add j) = some (.slice Aj row.length cj) := (HB.out.cell (World.block_lt_of_cell? w _ hc0)).trans hc0
          have HR := Lib.hid hr
          have HU := Lib.hid (hu.below HB.out.drew)
          have HRL := Lib.hid (HLR.out row (List.mem_of_getElem? hr))
          have q0 := (K1.out.cell 1 : wr.cell? ⟨p, 1, none⟩ = some u)
          have q1 := K1.out.frozen 1
          have hji : (j : Int) < (m.length : Int) := by omega
          clear hc0 hr hu H3 hu0
          go_upto_region 9 with fail
          go_region_law (first | (refine step_app1 T_mrs (B := p + 1) (v := u) (vs := vs) (HF.out.own.below (below_of_drew hb5)) (by have h1 := HF.out.len; rw [List.length_map, List.length_take] at h1; omega) (by have h1 := HF.out.le; have h2 := hb5.size; simp at h2; omega) (by rfl) rfl (by rfl) (by rfl) (by rfl) ?_; intro v6 w6 hown6 hgr6; obtain ⟨A6, c6, hv6, -⟩ := hown6.cells.open_; subst hv6; have hpu : u.ownBlock ≠ some p := (fun e => by have h1 := HF.out.own.ge _ e; omega); have q6 := (((K1.out.below (below_of_drew hb5) K1.out.lt).grow hgr6 hpu).cell 1 : w6.cell? ⟨p, 1, none⟩ = some u); have q7 := ((K1.out.below (below_of_drew hb5) K1.out.lt).grow hgr6 hpu).frozen 1) | (go_simp; go_at_call 24; refine (s_l13Linear _ _ row (by exact HU.out) (by have := HRL.out; omega)).mono ?_; rintro e w5 ⟨x5, rfl, ho5, hb5⟩; obtain ⟨A5, c5, hv5, -⟩ := ho5.monos.open_; subst hv5; have q5 := ((K1.out.below (below_of_drew hb5) K1.out.lt).cell 1 : w5.cell? ⟨p, 1, none⟩ = some u); have q5a : ∀ o, (w5.alloc o).cell? ⟨p, 1, none⟩ = some u := fun o => ((K1.out.below (below_of_drew hb5) K1.out.lt).alloc o).cell 1))
          all_goals
            have hw5 := below_of_drew hb5
            have hpu : u.ownBlock ≠ some p := fun e => by have h1 := HF.out.own.ge _ e; omega
            have h0u : u.ownBlock ≠ some w.heap.size := fun e => by have h1 := HF.out.own.ge _ e; have h2 := HP.out; omega
            have hf6 := HF.out.step (Nat.le_refl _) hw5 (by exact ho5) (Below.refl w5.heap.size w5) hown6 hgr6
            have hsame : Same (p + 1) w6.heap.size w6 (w6.setCell ⟨p, 1, none⟩ (.slice A6 (vs ++ [Value.slice A5 (linMs row).length c5]).length c6)) := fun k h1 _ => Below.heap_setCell w6 ⟨p, 1, none⟩ _ k (by show k ≠ p; omega)
            have hF := Lib.hid (hf6.agree hsame)
            have K6 := (((K1.out.below hw5 K1.out.lt).grow hgr6 hpu).set_ 1 (.slice A6 (vs ++ [Value.slice A5 (linMs row).length c5]).length c6))
            have k6 := (((K0.out.below hw5 K0.out.lt).grow hgr6 h0u).far (p := ⟨p, 1, none⟩) (by have h2 := HP.out; simp; omega) (.slice A6 (vs ++ [Value.slice A5 (linMs row).length c5]).length c6))
            have hb6 : Below w.heap.size w w6 := hgr6.below (HB.out.trans (hw5.mono HB.out.size)) (Nat.le_trans HB.out.size hw5.size) (fun b hb => by have h1 := HF.out.own.ge _ hb; have h2 := HP.out; omega)
            have hb7 : Below w.heap.size w (w6.setCell ⟨p, 1, none⟩ (.slice A6 (vs ++ [Value.slice A5 (linMs row).length c5]).length c6)) := hb6.setCell (by have h2 := HP.out; show w.heap.size ≤ p; omega) _
            have HK6 := Lib.hid K6
            have Hk6 := Lib.hid k6
            have HB7 := Lib.hid hb7
            have hsz : (w6.setCell ⟨p, 1, none⟩ (.slice A6 (vs ++ [Value.slice A5 (linMs row).length c5]).length c6)).heap.size = w6.heap.size := by simp
            have HSZ := Lib.hid hsz
            simp only [List.length_append, List.length_singleton] at hF HK6 Hk6 HB7 HSZ
            clear hw5 hpu h0u hf6 hsame K6 k6 hb6 hb7 hsz hown6 hgr6 ho5 hb5 q0 q1 q5 q5a q6 q7 hc
            go_wp2_with fail
            go_roundw
            case rel =>
              refine ⟨j + 1, _, vs ++ [Value.slice A5 (linMs row).length c5], ivs ++ [(wr.heap.size, w5.heap.size)], by omega, by go_num, HK6.out, Hk6.out, ?_, HB7.out⟩
              rw [List.take_add_one, HR.out, Option.toList_some, List.map_append]
              rw [HSZ.out]
              exact hF.out
            case measure => simp [intOf]; omega
        · have : j = m.length := by omega
          subst this
          rw [List.take_length] at HF
          subst hu0
          have e0 : wr.cell? ⟨p, 0, none⟩ = some (.int .i64 (m.length : Nat)) := K1.out.cell 0
          have e1 : wr.cell? ⟨p, 1, none⟩ = some (.slice Au vs.length cu) := K1.out.cell 1
          have f0 : wr.cell? ⟨w.heap.size, 0, none⟩ = some (.int .i64 0) := K0.out.cell 0
          have f1 : wr.cell? ⟨w.heap.size, 1, none⟩ = some (.slice none 0 0) := K0.out.cell 1
          have f2 := K0.out.frozen 0
          have f3 := K0.out.frozen 1
          go_wp2_with fail
          have c0 := Chg.refl w.heap.size (w.heap.size + 1) wr
          have c1' := c0.setCell (p := ⟨w.heap.size, 0, none⟩) (Nat.le_refl _) (by simp) (.int .i64 (m.length : Nat))
          have c2' := c1'.setCell (p := ⟨w.heap.size, 1, none⟩) (Nat.le_refl _) (by simp) (.slice Au vs.length cu)
          have hsb := HB.out.size
          have hsz := c2'.size
          have hpp := HP.out
          have HPF := ((HF.out.agree (Same.of_chg c2' (Nat.le_refl _) (.inr (by omega)))).mono (B' := w.heap.size) (by omega) hsz)
          refine bodyPost_ret (v := .tuple #[.agg #[.int .i64 (m.length : Nat), .slice Au vs.length cu], .int .i64 0]) (by simp [results, Try.results6, go_sem, f0, f1]) rfl ⟨_, rfl, ⟨_, _, HPF⟩, c2'.below HB.out (Nat.le_refl _) hsb⟩
end Go.Proofs.Ytofabikjjkapmaa

set_option maxRecDepth 100000
set_option linter.unusedVariables false
set_option linter.unusedSimpArgs false
namespace Go.Proofs.Ytofabikjjkapmaa
open Go.ChangeShapes Go.WideShapes Go.ChangeAt Go.RowKit

theorem in64_of_wf {z : Int} (h : (Lit.int .i64 z).wf = true) : In64 z := by
  simp [Lit.wf, IntKind.min, IntKind.max, IntKind.signed, IntKind.bits] at h
  unfold In64
  omega

end Go.Proofs.Ytofabikjjkapmaa

