/- Walk: collocation of the program. -/
import Derived.Test.YtgbfifcbbfhpmaaCol5
import Derived.Test.YtgbfifcbbfhpmaaColM
set_option maxRecDepth 100000
set_option linter.unusedVariables false
set_option linter.unusedSimpArgs false
namespace Go.Proofs.Ytgbfifcbbfhpmaa
open Go.RowKit

def cols (zs : List Int) (j : Nat) : List (List Int) := (List.range j).map fun i => colRow zs i zs.length
theorem cols_succ (zs : List Int) (j : Nat) : cols zs (j + 1) = cols zs j ++ [colRow zs j zs.length] := by simp [cols, List.range_succ]
theorem cols_len (zs : List Int) (j : Nat) : (cols zs j).length = j := by simp [cols]
theorem cols_row (zs : List Int) (j : Nat) : ∀ r ∈ cols zs j, r.length = zs.length := by
  intro r hr
  obtain ⟨i, _, rfl⟩ := List.mem_map.1 hr
  exact colRow_len _ _ _
theorem cols_col {zs : List Int} {i : Nat} (h : i < zs.length) : ((cols zs zs.length).map fun r => r.getD i 0) = (List.range zs.length).map fun j => integ (lag zs j) (zs.getD i 0) := by
  unfold cols
  rw [List.map_map]
  refine List.map_congr_left fun j _ => ?_
  simp [colRow, List.getD, h]

set_option maxHeartbeats 8000000 in
theorem i_collocation (w : World) (v : Value) (zs : List Int) (ha : Ints w v zs) (hN : Nums zs) (hn : zs.length ≤ 900) :
    Calls Try.prog 56 #[v] w fun e w' => ∃ r, e = .returned r ∧ OT w' w.heap.size w'.heap.size r (colA zs zs.length) (colB zs zs.length) ∧ Below w.heap.size w w' := by
  have HA := Lib.hid ha
  obtain ⟨A, c, rfl, l1, l2, h3⟩ := ha.open_
  have H3 := Lib.hid h3
  have HN := Lib.hid hN
  clear h3 ha hN
  go_enter Try.func56, Try.ntmps56
  go_wp2_with fail
  have HF := Lib.hid (show ColS w (((w.alloc (.cells #[.slice none 0 0, .slice none 0 0] 27)).alloc (.cells #[] tL)).alloc (.cells #[.slice none 0 0, .slice none 0 0] 27)) (w.heap.size + 1 + 1) (.slice (some ⟨w.heap.size + 1, 0, none⟩) 0 0) (.slice none 0 0) [] [] [] from
    ⟨⟨by have h := (own_lit (w.alloc (.cells #[.slice none 0 0, .slice none 0 0] 27)) tL [] (by simp [maxLen])).alloc (.cells #[.slice none 0 0, .slice none 0 0] 27); simpa using h, RowsOwn.nil _ _ _ _, OwnInts.nil _ _ _, fun k u hu => by simp at hu⟩, Blk.new2 _ _ _ _ _, below3 _ _ _ _⟩)
  have K0 := Lib.hid (((Blk.new w #[.slice none 0 0, .slice none 0 0] 27).alloc (.cells #[] tL)).alloc (.cells #[.slice none 0 0, .slice none 0 0] 27))
  generalize (((w.alloc (.cells #[.slice none 0 0, .slice none 0 0] 27)).alloc (.cells #[] tL)).alloc (.cells #[.slice none 0 0, .slice none 0 0] 27)) = w3 at HF K0 ⊢
  go_loopw [3, 18] (fun vc i wr => ∃ (j : Nat) (vb : Value) (vs : List Value), j ≤ zs.length ∧ i = .int .i64 j ∧ ColS w wr (w.heap.size + 1 + 1) vc vb vs (cols zs j) (colB zs j) ∧ Blk wr w.heap.size 27 #[.slice none 0 0, .slice none 0 0]) (fun _ i _ => zs.length - (intOf i).toNat)
  case atStart => exact ⟨0, _, [], Nat.zero_le _, rfl, HF.out, K0.out⟩
  case round =>
    obtain ⟨j, vb, vs, hj, rfl, hfill, hk0⟩ := hrel
    clear HF K0
    have HF := Lib.hid hfill
    have K0 := Lib.hid hk0
    clear hfill hk0
    by_cases hlt : j < zs.length
    · obtain ⟨ad, x, rfl, hx, -, hcx0⟩ := H3.out j hlt
      have hxn := HN.out x (List.mem_of_getElem? hx)
      have HX := Lib.hid (show zs.getD j 0 = x by simp [List.getD, hx])
      have hcx : wr.cell? (ad.add j) = some (.int .i64 x) := by
        rw [HF.out.below.cell (by rw [block_add]; have := World.block_lt_of_cell? w _ hcx0; rwa [block_add] at this)]; exact hcx0
      have hji : (j : Int) < (zs.length : Int) := by omega
      clear hx hcx0
      have OL := Lib.hid (own_lit wr tI [.int .i64 1] (by simp [maxLen]))
      go_wp2_with fail
      clear hcx
      obtain ⟨wo, rfl⟩ : ∃ wo : World, wo = wr := ⟨_, rfl⟩
      go_loopw [7, 26] (fun o k wi => ∃ m : Nat, m ≤ zs.length ∧ k = .int .i64 m ∧ OwnInts wi wo.heap.size tI o (lagI x zs j m) ∧ Below wo.heap.size wo wi) (fun _ k _ => zs.length - (intOf k).toNat)
      case atStart => exact ⟨0, Nat.zero_le _, rfl, ⟨by simpa [lagI, ints] using OL.out, nums_in (lagI_nums _ _ _ _)⟩, below1 _ _⟩
      case round =>
        obtain ⟨m, hm, rfl, hown, hb⟩ := hrel
        clear OL
        have HO := Lib.hid hown
        have HB := Lib.hid hb
        have HW := Lib.hid (HF.out.below.trans (hb.mono HF.out.below.size))
        clear hown hb
        by_cases hlt2 : m < zs.length
        · obtain ⟨ad', y, he, hy, -, hcy0⟩ := H3.out m hlt2
          simp only [Option.some.injEq] at he
          subst he
          have hyn := HN.out y (List.mem_of_getElem? hy)
          have hcy : wr.cell? (ad.add m) = some (.int .i64 y) := by
            rw [HW.out.cell (by rw [block_add]; have := World.block_lt_of_cell? w _ hcy0; rwa [block_add] at this)]; exact hcy0
          have hgy : zs.getD m 0 = y := by simp [List.getD, hy]
          have hmi : (m : Int) < (zs.length : Int) := by omega
          clear hy hcy0
          by_cases hmj : m = j
          · have HL := Lib.hid (show lagI x zs j (m + 1) = lagI x zs j m by rw [lagI, if_pos hmj])
            subst hmj
            clear hgy
            go_wp2_with fail
            go_roundw
            case rel => exact ⟨m + 1, by omega, by go_num, by rw [HL.out]; exact HO.out, HB.out⟩
            case measure => simp [intOf]; omega
          · have HL := Lib.hid (show lagI x zs j (m + 1) = scl (pw ((x - y) % 10007) 10005 % 10007) (tl (lagI x zs j m) y) by rw [lagI, if_neg hmj, hgy, pw_self])
            have hne : ¬ (m : Int) = (j : Int) := by omega
            have hll := lagI_len x zs j m
            have HLN := Lib.hid (lagI_nums x zs j m)
            have hpb := pw_bd ((x - y) % 10007) 10005
            clear hgy
            generalize lagI x zs j m = P at HO HL hll HLN
            go_wp2_with (first
              | (go_at_call 108; refine (i_timesLinear _ _ P y (by exact HO.out.ints) HLN.out (by omega) hyn.1 hyn.2).mono ?_; rintro e w5 ⟨r5, rfl, ho5, hb5⟩)
              | (go_at_call 109; refine (i_num _ _ (by omega) (by omega)).mono ?_; rintro e w' ⟨rfl, rfl⟩)
              | (go_at_call 64; refine (i_inv _ _ (by omega) (by omega)).mono ?_; rintro e w' ⟨rfl, rfl⟩)
              | (go_at_call 81; refine (i_scaled _ _ (tl P y) _ (by exact ho5.ints) (tl_nums _ _) (by rw [tl_len]; omega) (by omega) (by omega)).mono ?_; rintro e w6 ⟨r6, rfl, ho6, hb6⟩))
            have HB6 := Lib.hid (HB.out.trans ((hb5.trans (hb6.mono hb5.size)).mono HB.out.size))
            have HO6 := Lib.hid (ho6.mono (Nat.le_trans HB.out.size hb5.size))
            clear ho5 hb5 ho6 hb6 hcy
            go_wp2_with fail
            go_roundw
            case rel => exact ⟨m + 1, by omega, by go_num, by rw [HL.out]; exact HO6.out, HB6.out⟩
            case measure => simp [intOf]; omega
        · have : m = zs.length := by omega
          subst this
          have HLG := Lib.hid (show lagI x zs j zs.length = lag zs j by unfold lag; rw [HX.out])
          rw [HLG.out] at HO
          have HLN := Lib.hid (lag_nums zs j)
          have hll := lag_len zs j
          have HP := Lib.hid HO.out.ints
          have HF2 := Lib.hid (HF.out.step HB.out)
          have K2 := Lib.hid (K0.out.below HB.out K0.out.lt)
          have HOP := Lib.hid HO.out
          clear HF K0 HO HB HLG
          have OL2 := Lib.hid (own_lit wr tI [] (by simp [maxLen]))
          go_wp2_with fail
          obtain ⟨wp, rfl⟩ : ∃ wp : World, wp = wr := ⟨_, rfl⟩
          go_loopw [10, 47] (fun o k wi => ∃ m : Nat, m ≤ zs.length ∧ k = .int .i64 m ∧ Own wi wp.heap.size tI o (ints (colRow zs j m)) ∧ Below wp.heap.size wp wi) (fun _ k _ => zs.length - (intOf k).toNat)
          case atStart => exact ⟨0, Nat.zero_le _, rfl, by simpa [colRow, ints] using OL2.out, below1 _ _⟩
          case round =>
            obtain ⟨m, hm, rfl, hown, hb⟩ := hrel
            clear OL2
            have HO := Lib.hid hown
            have HB := Lib.hid hb
            have HP2 := Lib.hid (HP.out.below hb)
            clear hown hb
            by_cases hlt3 : m < zs.length
            · obtain ⟨ad', y, he, hy, -, hcy0⟩ := H3.out m hlt3
              simp only [Option.some.injEq] at he
              subst he
              have hyn := HN.out y (List.mem_of_getElem? hy)
              have hcy : wr.cell? (ad.add m) = some (.int .i64 y) := by
                rw [(HF2.out.below.trans (HB.out.mono HF2.out.below.size)).cell (by rw [block_add]; have := World.block_lt_of_cell? w _ hcy0; rwa [block_add] at this)]; exact hcy0
              have HS := Lib.hid (show colRow zs j (m + 1) = colRow zs j m ++ [integ (lag zs j) y] by rw [colRow_succ]; simp [List.getD, hy])
              clear hy hcy0
              go_wp2_with (first
                | (go_at_call 110; refine (i_integral _ _ (lag zs j) y (by exact HP2.out) HLN.out (by omega) hyn.1 hyn.2).mono ?_; rintro e w' ⟨rfl, rfl⟩)
                | (at_builtin; refine wpList_app1 T_int HO.out (by rw [ints_len, colRow_len]; omega) HB.out.size (by rfl) rfl (by rfl) (by rfl) (by rfl) ?_; intro v1 w1 hown1 hgr1))
              go_roundw
              case rel =>
                refine ⟨m + 1, by omega, by go_num, ?_, hgr1.below HB.out HB.out.size HO.out.ge⟩
                rw [HS.out]
                simpa [ints] using hown1
              case measure => simp [intOf]; omega
            · have : m = zs.length := by omega
              subst this
              have HRI := Lib.hid (nums_in (colRow_nums zs j zs.length))
              obtain ⟨A6, c6, hv6, -, -, -⟩ := (show Ints wr _ (colRow zs j zs.length) from ⟨HO.out.cells, HRI.out⟩).open_
              rw [colRow_len] at hv6
              subst hv6
              have HF3 := Lib.hid (HF2.out.step HB.out)
              have hsz : w.heap.size + 1 + 1 < wr.heap.size := HF3.out.blk.lt
              have hvl : vs.length ≤ 900 := by have := HF3.out.two.rows.1; rw [cols_len] at this; omega
              obtain ⟨A7, c7, hv7, -, -⟩ := HF3.out.two.own.cells.open_
              subst hv7
              go_wp2_with (at_builtin; refine wpList_app1 T_row (B := w.heap.size + 1) (vs := vs) HF3.out.two.own (by omega) (by omega) (by rfl) rfl (by rfl) (by rfl) (by rfl) ?_; intro v1 w1 hown1 hgr1)
              have HA1 := Lib.hid (HF2.out.addA (by have := HF2.out.blk.lt; omega) HB.out ⟨HO.out, HRI.out⟩ hown1 hgr1)
              have K1 := Lib.hid ((K2.out.below HB.out K2.out.lt).grow hgr1 (fun e => by have := HF3.out.two.own.ge _ e; omega))
              have HP4 := Lib.hid ((HOP.out.below HB.out).kept hgr1.1 (Own.ne_of_type (HOP.out.below HB.out).1 HF3.out.two.own (by decide))).ints
              obtain ⟨A8, c8, hv8, -, -⟩ := hown1.cells.open_
              rw [show (vs ++ [Value.slice A6 zs.length c6]).length = vs.length + 1 from by simp] at hv8
              subst hv8
              clear hown1 hgr1 HF3 HO HB K2 HP HP2 HOP
              have r0 : w1.cell? ⟨w.heap.size + 1 + 1, 1, none⟩ = some vb := HA1.out.blk.cell 1
              have r0a : ∀ o, (w1.alloc o).cell? ⟨w.heap.size + 1 + 1, 1, none⟩ = some vb := fun o => (HA1.out.blk.alloc o).cell 1
              have HZ64 := Lib.hid (show In64 (integ (lag zs j) 1) by have := integ_bd (lag zs j) 1; unfold In64; omega)
              go_wp2_with fail
              go_region_law (first
                | (refine step_app1 T_int (B := w.heap.size + 1) (v := vb) (vs := ints (colB zs j)) (W := w1.drew) (by exact HA1.out.two.ws.1) (by rw [ints_len, colB_len]; omega) (by have h1 := HA1.out.blk.lt; show _ ≤ w1.heap.size; omega) (by rfl) rfl (by rfl) (by rfl) (by rfl) ?_; intro v9 w9 hown9 hgr9; obtain ⟨A9, c9, hv9, -, -⟩ := hown9.cells.open_; subst hv9; have q6 : w9.cell? ⟨w.heap.size + 1 + 1, 1, none⟩ = some vb := ((HA1.out.step ((Below.refl _ _).drew)).blk.grow hgr9 HA1.out.npB).cell 1; have q7 := ((HA1.out.step ((Below.refl _ _).drew)).blk.grow hgr9 HA1.out.npB).frozen 1)
                | (go_simp; go_at_call 110; refine (i_integral _ _ (lag zs j) 1 (by exact HP4.out) HLN.out (by omega) (by omega) (by omega)).mono ?_; rintro e w' ⟨rfl, rfl⟩))
              all_goals
                have HB2 := Lib.hid ((HA1.out.step ((Below.refl _ _).drew)).addB (by omega) HZ64.out hown9 hgr9)
                have KB2 := Lib.hid (((K1.out.below ((Below.refl _ _).drew) K1.out.lt).grow hgr9 (fun e => by have := HA1.out.two.ws.1.ge _ e; omega)).far (p := ⟨w.heap.size + 1 + 1, 1, none⟩) (by simp; omega) (.slice A9 (ints (colB zs j) ++ [Value.int .i64 (integ (lag zs j) 1)]).length c9))
                simp only [List.length_append, List.length_singleton] at HB2 KB2
                clear hown9 hgr9 q6 q7 r0 r0a
                go_wp2_with fail
                go_roundw
                case rel =>
                  refine ⟨j + 1, .slice A9 ((ints (colB zs j)).length + 1) c9, vs ++ [.slice A6 zs.length c6], by omega, by go_num, ?_, KB2.out⟩
                  rw [cols_succ, colB_succ]
                  exact HB2.out
                case measure => simp [intOf]; omega
    · have : j = zs.length := by omega
      subst this
      have hvl : vs.length = zs.length := by have := HF.out.two.rows.1; rwa [cols_len] at this
      obtain ⟨A7, c7, hv7, -, -⟩ := HF.out.two.own.cells.open_
      rw [hvl] at hv7
      subst hv7
      clear hvl
      have hlt := HF.out.blk.lt
      obtain ⟨w4, rfl⟩ : ∃ w4 : World, w4 = wr := ⟨_, rfl⟩
      have HT0 := Lib.hid (show ColT w4 w4 (w.heap.size + 1 + 1) (.slice none 0 0) vb [] [] from ⟨World.grownBy.refl _ _, HF.out.blk, Own.nil _ _ _, RowsOwn.nil _ _ _ _⟩)
      have H4 := Lib.hid hlt
      clear hlt
      go_wp2_with fail
      go_loopw [72] (fun i wi => ∃ (k : Nat) (va : Value) (vs2 : List Value), k ≤ zs.length ∧ i = .int .i64 k ∧ ColT w4 wi (w.heap.size + 1 + 1) va vb vs2 (colA zs k)) (fun i _ => zs.length - (intOf i).toNat)
      case atStart => exact ⟨0, _, [], Nat.zero_le _, rfl, HT0.out⟩
      case round =>
        obtain ⟨k, va, vs2, hk, rfl, hcol⟩ := hrel
        clear HT0
        have HT := Lib.hid hcol
        have HR := Lib.hid (HF.out.two.other HF.out.blk (by decide) (by decide) hcol.g).rowsAt
        clear hcol
        by_cases hlt : k < zs.length
        · have hvl : vs2.length ≤ 900 := by have := HT.out.rows.1; rw [colA_len] at this; omega
          have HCC := Lib.hid (cols_col hlt)
          have r0 : wr.cell? ⟨w.heap.size + 1 + 1, 0, none⟩ = some va := HT.out.blk.cell 0
          go_wp2_with fail
          go_region_law (first
            | (refine step_app1 T_row (B := w4.heap.size) (v := va) (vs := vs2) (HT.out.step (below_of_drew hb5)).own (by omega) (by have h1 := HT.out.g.size; have h2 := hb5.size; simp at h2; omega) (by rfl) rfl (by rfl) (by rfl) (by rfl) ?_; intro v6 w6 hown6 hgr6; obtain ⟨A6, c6, hv6, -, -⟩ := hown6.cells.open_; subst hv6; have q6 : w6.cell? ⟨w.heap.size + 1 + 1, 0, none⟩ = some va := ((HT.out.step (below_of_drew hb5)).blk.grow hgr6 HT.out.npA).cell 0; have q7 := ((HT.out.step (below_of_drew hb5)).blk.grow hgr6 HT.out.npA).frozen 0)
            | (go_simp; go_at_call 111; refine (i_column _ _ (cols zs zs.length) k (by exact HR.out) (fun r hr => by rw [cols_row _ _ r hr]; exact hlt) (by rw [cols_len]; omega)).mono ?_; rintro e w5 ⟨r5, rfl, ho5, hb5⟩; rw [HCC.out] at ho5; obtain ⟨A5, c5, hv5, -, -, -⟩ := ho5.ints.open_; rw [show ((List.range zs.length).map fun j => integ (lag zs j) (zs.getD k 0)).length = zs.length from by simp] at hv5; subst hv5; have q5 : w5.cell? ⟨w.heap.size + 1 + 1, 0, none⟩ = some va := (HT.out.step (below_of_drew hb5)).blk.cell 0; have q5a : ∀ o, (w5.alloc o).cell? ⟨w.heap.size + 1 + 1, 0, none⟩ = some va := fun o => ((HT.out.step (below_of_drew hb5)).blk.alloc o).cell 0))
          all_goals
            have HN2 := Lib.hid (HT.out.next (below_of_drew hb5) ho5 hown6 hgr6)
            simp only [List.length_append, List.length_singleton] at HN2
            clear hown6 hgr6 ho5 hb5 q5 q5a q6 q7 r0
            go_wp2_with fail
            go_roundw
            case rel =>
              refine ⟨k + 1, .slice A6 (vs2.length + 1) c6, vs2 ++ [.slice A5 zs.length c5], by omega, by go_num, ?_⟩
              rw [colA_succ]
              exact HN2.out
            case measure => simp [intOf]; omega
        · have : k = zs.length := by omega
          subst this
          obtain ⟨A9, c9, hv9, -, -⟩ := HT.out.own.cells.open_
          have hvl : vs2.length = zs.length := by have := HT.out.rows.1; rwa [colA_len] at this
          rw [hvl] at hv9
          subst hv9
          clear hvl
          obtain ⟨A8, c8, hv8, -, -⟩ := HF.out.two.ws.1.cells.open_
          rw [ints_len, colB_len] at hv8
          subst hv8
          have K9 := Lib.hid (show Blk wr w.heap.size _ _ from (HT.out.g.block w.heap.size K0.out.lt (by simp; omega)).trans K0.out)
          have e0 : wr.cell? ⟨w.heap.size + 1 + 1, 0, none⟩ = some (.slice A9 zs.length c9) := HT.out.blk.cell 0
          have e1 : wr.cell? ⟨w.heap.size + 1 + 1, 1, none⟩ = some (.slice A8 zs.length c8) := HT.out.blk.cell 1
          have f0 : wr.cell? ⟨w.heap.size, 0, none⟩ = some (.slice none 0 0) := K9.out.cell 0
          have f1 : wr.cell? ⟨w.heap.size, 1, none⟩ = some (.slice none 0 0) := K9.out.cell 1
          have f2 := K9.out.frozen 0
          have f3 := K9.out.frozen 1
          have HTAB := Lib.hid (HT.out.tab HF.out (by have := H4.out; omega))
          have HBW := Lib.hid (HF.out.below.grown HT.out.g HF.out.below.size (fun b hb => by simp only [Option.some.injEq] at hb; omega))
          go_wp2_with fail
          have c0 := Chg.refl w.heap.size (w.heap.size + 1) wr
          have c1' := c0.setCell (p := ⟨w.heap.size, 0, none⟩) (Nat.le_refl _) (by simp) (.slice A9 zs.length c9)
          have c2' := c1'.setCell (p := ⟨w.heap.size, 1, none⟩) (Nat.le_refl _) (by simp) (.slice A8 zs.length c8)
          refine bodyPost_ret (v := .agg #[.slice A9 zs.length c9, .slice A8 zs.length c8]) (by simp [results, Try.results56, go_sem, f0, f1]) rfl ⟨_, rfl, (HTAB.out.kept c2' (.inr (Nat.le_refl _))).mono (by omega) c2'.size, c2'.below HBW.out (by omega) HBW.out.size⟩
end Go.Proofs.Ytgbfifcbbfhpmaa
