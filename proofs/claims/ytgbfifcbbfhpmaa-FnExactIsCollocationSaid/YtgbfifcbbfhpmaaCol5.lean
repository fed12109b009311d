/- Walk: l11Collocation of the reference. -/
import Derived.Test.YtgbfifcbbfhpmaaCol4
import Derived.Test.YtgbfifcbbfhpmaaTwo
import Derived.Test.YtgbfifcbbfhpmaaScaleP
set_option maxRecDepth 100000
set_option linter.unusedVariables false
set_option linter.unusedSimpArgs false
namespace Go.Proofs.Ytgbfifcbbfhpmaa
open Go.RowKit

def rowTo (zs : List Int) (i m : Nat) : List Int := (List.range m).map fun j => integ (lag zs j) (zs.getD i 0)
theorem rowTo_succ (zs : List Int) (i m : Nat) : rowTo zs i (m + 1) = rowTo zs i m ++ [integ (lag zs m) (zs.getD i 0)] := by simp [rowTo, List.range_succ]
theorem rowTo_len (zs : List Int) (i m : Nat) : (rowTo zs i m).length = m := by simp [rowTo]
theorem rowTo_in (zs : List Int) (i m : Nat) : ∀ z ∈ rowTo zs i m, In64 z := by
  intro z hz
  obtain ⟨j, _, rfl⟩ := List.mem_map.1 hz
  have := integ_bd (lag zs j) (zs.getD i 0)
  unfold In64
  omega
theorem lag_nums (zs : List Int) (j : Nat) : Nums (lag zs j) := lagI_nums _ _ _ _
theorem lag_len (zs : List Int) (j : Nat) : (lag zs j).length ≤ zs.length + 1 := (lagI_len _ _ _ _).2

set_option maxHeartbeats 4000000 in
theorem s_l11Collocation (w : World) (v : Value) (zs : List Int) (ha : Ints w v zs) (hN : Nums zs) (hn : zs.length ≤ 900) :
    Calls Try.prog 54 #[v] w fun e w' => ∃ r, e = .returned r ∧ OT w' w.heap.size w'.heap.size r (colA zs zs.length) (colB zs zs.length) ∧ Below w.heap.size w w' := by
  have HA := Lib.hid ha
  obtain ⟨A, c, rfl, l1, l2, h3⟩ := ha.open_
  have H3 := Lib.hid h3
  have HN := Lib.hid hN
  clear h3 ha hN
  go_enter Try.func54, Try.ntmps54
  go_wp2_with fail
  have HF := Lib.hid (show Fill2 w ((w.alloc (.cells #[.slice none 0 0, .slice none 0 0] 27)).alloc (.cells #[.slice none 0 0, .slice none 0 0] 27)) (w.heap.size + 1) (.slice none 0 0) (.slice none 0 0) [] [] [] from
    ⟨Blk.new1 _ _ _ _, Own.nil _ _ _, RowsOwn.nil _ _ _ _, OwnInts.nil _ _ _, fun k u hu => by simp at hu, below2 _ _ _⟩)
  have K0 := Lib.hid ((Blk.new w #[.slice none 0 0, .slice none 0 0] 27).alloc (.cells #[.slice none 0 0, .slice none 0 0] 27))
  generalize ((w.alloc (.cells #[.slice none 0 0, .slice none 0 0] 27)).alloc (.cells #[.slice none 0 0, .slice none 0 0] 27)) = w3 at HF K0 ⊢
  go_loopw [4] (fun i wr => ∃ (j : Nat) (va vb : Value) (vs : List Value), j ≤ zs.length ∧ i = .int .i64 j ∧ Fill2 w wr (w.heap.size + 1) va vb vs (colA zs j) (colB zs j) ∧ Blk wr w.heap.size 27 #[.slice none 0 0, .slice none 0 0]) (fun i _ => zs.length - (intOf i).toNat)
  case atStart => exact ⟨0, _, _, [], Nat.zero_le _, rfl, HF.out, K0.out⟩
  case round =>
    obtain ⟨j, va, vb, vs, hj, rfl, hfill, hk0⟩ := hrel
    clear HF K0
    have HF := Lib.hid hfill
    have K0 := Lib.hid hk0
    clear hfill hk0
    by_cases hlt : j < zs.length
    · obtain ⟨ad, x, rfl, hx, hx64, hcx0⟩ := H3.out j hlt
      have hxn := HN.out x (List.mem_of_getElem? hx)
      have HX := Lib.hid (show zs.getD j 0 = x by simp [List.getD, hx])
      have HC := Lib.hid hcx0
      have hji : (j : Int) < (zs.length : Int) := by omega
      clear hx hcx0
      have OL := Lib.hid (own_lit wr tI [] (by simp [maxLen]))
      go_wp2_with fail
      obtain ⟨wo, rfl⟩ : ∃ wo : World, wo = wr := ⟨_, rfl⟩
      go_loopw [5, 6] (fun o k wi => ∃ m : Nat, m ≤ zs.length ∧ k = .int .i64 m ∧ Own wi wo.heap.size tI o (ints (rowTo zs j m)) ∧ Below wo.heap.size wo wi) (fun _ k _ => zs.length - (intOf k).toNat)
      case atStart => exact ⟨0, Nat.zero_le _, rfl, by simpa [rowTo, ints] using OL.out, below1 _ _⟩
      case round =>
        obtain ⟨m, hm, rfl, hown, hb⟩ := hrel
        clear OL
        have HO := Lib.hid hown
        have HB := Lib.hid hb
        have HW := Lib.hid (HF.out.below.trans (hb.mono HF.out.below.size))
        clear hown hb
        by_cases hlt2 : m < zs.length
        · have hc : wr.cell? (ad.add j) = some (.int .i64 x) := by
            rw [HW.out.cell (by rw [block_add]; have := World.block_lt_of_cell? w _ HC.out; rwa [block_add] at this)]; exact HC.out
          have HPR := Lib.hid (rowTo_succ zs j m)
          have hmi : (m : Int) < (zs.length : Int) := by omega
          have hll := lag_len zs m
          go_wp2_with fail
          go_region_law (first
            | (refine step_app1 T_int (B := wo.heap.size) (W := w5.drewN n7) (show Own (w5.drewN n7) wo.heap.size tI _ (ints (rowTo zs j m)) from HO.out.below (below_drewN (below_of_drew hb5) _)) (by rw [ints_len, rowTo_len]; omega) (by have h1 := HB.out.size; have h2 := hb5.size; simp at h2 ⊢; omega) (by rfl) rfl (by rfl) (by rfl) (by rfl) ?_; intro v6 w6 hown6 hgr6)
            | (go_simp; go_at_call 106; refine (s_l11Lagrange _ _ zs m (by exact HA.out.below HW.out.drew) HN.out (by omega) hlt2).mono ?_; rintro e w5 ⟨r5, rfl, ho5, hb5⟩; have hc5 : w5.cell? (ad.add j) = some (.int .i64 x) := (by rw [hb5.cell (by exact World.block_lt_of_cell? wr _ hc)]; exact hc))
            | (go_simp; go_at_call 105; refine (s_l11Integral _ _ (lag zs m) x (by exact ho5.ints) (lag_nums _ _) (by omega) hxn.1 hxn.2).mono ?_; rintro e w7 ⟨rfl, n7, rfl⟩))
          all_goals
            have HN6 := Lib.hid (hgr6.below (B := wo.heap.size) (below_drewN (HB.out.trans ((below_of_drew hb5).mono HB.out.size)) _) (by have h1 := HB.out.size; have h2 := hb5.size; simp at h2 ⊢; omega) HO.out.ge)
            have HO6 := Lib.hid hown6
            clear hown6 hgr6 ho5 hb5 hc5 hc
            go_wp2_with fail
            go_roundw
            case rel =>
              refine ⟨m + 1, by omega, by go_num, ?_, HN6.out⟩
              rw [HPR.out, HX.out]
              simpa [ints] using HO6.out
            case measure => simp [intOf]; omega
        · have : m = zs.length := by omega
          subst this
          have HIN := Lib.hid (rowTo_in zs j zs.length)
          obtain ⟨A6, c6, hv6, -, -, -⟩ := (show Ints wr _ (rowTo zs j zs.length) from ⟨HO.out.cells, HIN.out⟩).open_
          rw [rowTo_len] at hv6
          subst hv6
          have HF2 := Lib.hid (HF.out.step HB.out)
          have q0 : wr.cell? ⟨w.heap.size + 1, 0, none⟩ = some va := HF2.out.blk.cell 0
          have hll := lag_len zs j
          go_wp2_with (at_builtin; refine wpList_app1 T_row (B := w.heap.size + 1 + 1) (v := va) (vs := vs) HF2.out.own (by have := HF2.out.rows.1; rw [colA_len] at this; omega) (by have := HF2.out.lt; omega) (by rfl) rfl (by rfl) (by rfl) (by rfl) ?_; intro v1 w1 hown1 hgr1; obtain ⟨A8, c8, hv8, -, -⟩ := hown1.cells.open_; subst hv8; have q6 := ((HF2.out.blk.grow hgr1 HF2.out.npA).both (u := va) rfl).1; have q7 := ((HF2.out.blk.grow hgr1 HF2.out.npA).both (u := va) rfl).2)
          have HA2 := Lib.hid (HF.out.nextA' (zs := rowTo zs j zs.length) (Nat.le_succ _) HB.out ⟨HO.out, HIN.out⟩ hown1 hgr1)
          have KA := Lib.hid (((K0.out.below HB.out K0.out.lt).grow hgr1 (fun e => by have := HF.out.own.ge _ e; omega)).far (p := ⟨w.heap.size + 1, 0, none⟩) (by simp) (.slice A8 (vs ++ [Value.slice A6 zs.length c6]).length c8))
          simp only [List.length_append, List.length_singleton] at HA2 KA
          clear hown1 hgr1 q0 q6 q7 HO HF2 K0 hlt2
          generalize (w1.setCell ⟨w.heap.size + 1, 0, none⟩ (.slice A8 (vs.length + 1) c8)) = w2 at HA2 KA ⊢
          have HW2 := Lib.hid HA2.out.below
          have r0 : w2.cell? ⟨w.heap.size + 1, 1, none⟩ = some vb := HA2.out.blk.cell 1
          go_wp2_with fail
          go_region_law (first
            | (refine step_app1 T_int (B := w.heap.size + 1 + 1) (v := vb) (vs := ints (colB zs j)) (W := w5.drewN n7) (show Own (w5.drewN n7) (w.heap.size + 1 + 1) tI vb (ints (colB zs j)) from HA2.out.ws.1.below (below_drewN (below_of_drew hb5) _)) (by rw [ints_len, colB_len]; omega) (by have h1 := HA2.out.lt; have h2 := hb5.size; simp at h2 ⊢; omega) (by rfl) rfl (by rfl) (by rfl) (by rfl) ?_; intro v9 w9 hown9 hgr9; obtain ⟨A9, c9, hv9, -, -⟩ := hown9.cells.open_; subst hv9; have q6 : w9.cell? ⟨w.heap.size + 1, 1, none⟩ = some vb := ((HA2.out.step (below_drewN (below_of_drew hb5) n7)).blk.grow hgr9 HA2.out.npB).cell 1; have q7 := ((HA2.out.step (below_drewN (below_of_drew hb5) n7)).blk.grow hgr9 HA2.out.npB).frozen 1)
            | (go_simp; go_at_call 106; refine (s_l11Lagrange _ _ zs j (by exact HA.out.below HW2.out.drew) HN.out (by omega) hlt).mono ?_; rintro e w5 ⟨r5, rfl, ho5, hb5⟩; have r5a : w5.cell? ⟨w.heap.size + 1, 1, none⟩ = some vb := (HA2.out.step (below_of_drew hb5)).blk.cell 1; have r5b : ∀ o, (w5.alloc o).cell? ⟨w.heap.size + 1, 1, none⟩ = some vb := fun o => ((HA2.out.step (below_of_drew hb5)).blk.alloc o).cell 1)
            | (go_simp; go_at_call 105; refine (s_l11Integral _ _ (lag zs j) 1 (by exact ho5.ints) (lag_nums _ _) (by omega) (by omega) (by omega)).mono ?_; rintro e w7 ⟨rfl, n7, rfl⟩; have r7b : ∀ o, ((w5.drewN n7).alloc o).cell? ⟨w.heap.size + 1, 1, none⟩ = some vb := fun o => ((HA2.out.step (below_drewN (below_of_drew hb5) n7)).blk.alloc o).cell 1))
          all_goals
            have HZ64 := Lib.hid (show In64 (integ (lag zs j) 1) by have := integ_bd (lag zs j) 1; unfold In64; omega)
            have HB2 := Lib.hid ((HA2.out.step (below_drewN (below_of_drew hb5) n7)).nextB (Nat.le_succ _) HZ64.out hown9 hgr9)
            have KA2 := Lib.hid (((KA.out.below (below_drewN (below_of_drew hb5) n7) KA.out.lt).grow hgr9 (fun e => by have := HA2.out.ws.1.ge _ e; omega)).far (p := ⟨w.heap.size + 1, 1, none⟩) (by simp) (.slice A9 (ints (colB zs j) ++ [Value.int .i64 (integ (lag zs j) 1)]).length c9))
            simp only [List.length_append, List.length_singleton] at HB2 KA2
            clear hown9 hgr9 q6 q7 r0 r5a r5b r7b ho5 hb5
            go_wp2_with fail
            go_roundw
            case rel =>
              refine ⟨j + 1, .slice A8 (vs.length + 1) c8, .slice A9 ((ints (colB zs j)).length + 1) c9, vs ++ [.slice A6 zs.length c6], by omega, by go_num, ?_, KA2.out⟩
              rw [colA_succ, colB_succ]
              exact HB2.out
            case measure => simp [intOf]; omega
    · have : j = zs.length := by omega
      subst this
      obtain ⟨A7, c7, hv7, -, -⟩ := HF.out.own.cells.open_
      have hvl : vs.length = zs.length := by have := HF.out.rows.1; rwa [colA_len] at this
      rw [hvl] at hv7
      subst hv7
      obtain ⟨A9, c9, hv9, -, -⟩ := HF.out.ws.1.cells.open_
      rw [ints_len, colB_len] at hv9
      subst hv9
      have e0 : wr.cell? ⟨w.heap.size + 1, 0, none⟩ = some (.slice A7 zs.length c7) := HF.out.blk.cell 0
      have e1 : wr.cell? ⟨w.heap.size + 1, 1, none⟩ = some (.slice A9 zs.length c9) := HF.out.blk.cell 1
      have f0 : wr.cell? ⟨w.heap.size, 0, none⟩ = some (.slice none 0 0) := K0.out.cell 0
      have f1 : wr.cell? ⟨w.heap.size, 1, none⟩ = some (.slice none 0 0) := K0.out.cell 1
      have f2 := K0.out.frozen 0
      have f3 := K0.out.frozen 1
      have HTAB := Lib.hid HF.out.tab
      clear hvl
      go_wp2_with fail
      have c0 := Chg.refl w.heap.size (w.heap.size + 1) wr
      have c1' := c0.setCell (p := ⟨w.heap.size, 0, none⟩) (Nat.le_refl _) (by simp) (.slice A7 zs.length c7)
      have c2' := c1'.setCell (p := ⟨w.heap.size, 1, none⟩) (Nat.le_refl _) (by simp) (.slice A9 zs.length c9)
      have hsb := HF.out.below.size
      refine bodyPost_ret (v := .agg #[.slice A7 zs.length c7, .slice A9 zs.length c9]) (by simp [results, Try.results54, go_sem, f0, f1]) rfl ⟨_, rfl, (HTAB.out.kept c2' (.inr (by omega))).mono (by omega) c2'.size, c2'.below HF.out.below (by omega) hsb⟩
end Go.Proofs.Ytgbfifcbbfhpmaa
