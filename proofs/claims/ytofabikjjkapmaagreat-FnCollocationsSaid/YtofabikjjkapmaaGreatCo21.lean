/- Walk: collocation of the program. | Walks: CollocationTableau of the program and of the reference. | Walks: equality of tableaus, IsCollocation of the program. | Plain: what the law FnCollocations says of nodes. No walk. -/
import Derived.Test.YtofabikjjkapmaaGreatCo20
import Derived.Test.YtofabikjjkapmaaGreatCo17
import Derived.Test.YtofabikjjkapmaaGreatCo15
import Derived.Test.YtofabikjjkapmaaGreatCo14
import Derived.Deep.RegionHeld3
import Derived.Test.YtofabikjjkapmaaGreatCo13
import Derived.Test.YtofabikjjkapmaaGreatCo16
import Derived.Test.YtofabikjjkapmaaGreatCo19
set_option maxRecDepth 100000
set_option linter.unusedVariables false
set_option linter.unusedSimpArgs false
namespace Go.Proofs.YtofabikjjkapmaaGreat
open Go.RowKit

def cols (zs : List Int) (j : Nat) : List (List Int) := (List.range j).map fun i => colRow zs i zs.length
theorem cols_succ (zs : List Int) (j : Nat) : cols zs (j + 1) = cols zs j ++ [colRow zs j zs.length] := by simp [cols, List.range_succ]
theorem cols_len (zs : List Int) (j : Nat) : (cols zs j).length = j := by simp [cols]
theorem cols_row (zs : List Int) (j : Nat) : ∀ r ∈ cols zs j, r.length = zs.length := by
  intro r hr
  obtain ⟨i, _, rfl⟩ := List.mem_map.1 hr
  exact colRow_len _ _ _
theorem cols_col {zs : List Int} {i : Nat} (h : i < zs.length) : ((cols zs zs.length).map fun r => r.getD i 0) = (List.range zs.length).map fun j => integ (lag zs j) (zs.getD i 0) := by
  unfold cols
  rw [List.map_map]
  refine List.map_congr_left fun j _ => ?_
  simp [colRow, List.getD, h]

set_option maxHeartbeats 8000000 in
theorem i_collocation (w : World) (v : Value) (zs : List Int) (ha : Ints w v zs) (hN : Nums zs) (hn : zs.length ≤ 900) :
    Calls Tryz.prog 70 #[v] w fun e w' => ∃ r, e = .returned r ∧ OT w' w.heap.size w'.heap.size r (colA zs zs.length) (colB zs zs.length) ∧ Below w.heap.size w w' := by
  have HA := Lib.hid ha
  obtain ⟨A, c, rfl, l1, l2, h3⟩ := ha.open_
  have H3 := Lib.hid h3
  have HN := Lib.hid hN
  clear h3 ha hN
  go_enter Tryz.func70, Tryz.ntmps70
  go_wp2_with fail
  have HF := Lib.hid (show ColS w (((w.alloc (.cells #[.slice none 0 0, .slice none 0 0] 37)).alloc (.cells #[] tL)).alloc (.cells #[.slice none 0 0, .slice none 0 0] 37)) (w.heap.size + 1 + 1) (.slice (some ⟨w.heap.size + 1, 0, none⟩) 0 0) (.slice none 0 0) [] [] [] from
    ⟨⟨by have h := (own_lit (w.alloc (.cells #[.slice none 0 0, .slice none 0 0] 37)) tL [] (by simp [maxLen])).alloc (.cells #[.slice none 0 0, .slice none 0 0] 37); simpa using h, RowsOwn.nil _ _ _ _, OwnInts.nil _ _ _, fun k u hu => by simp at hu⟩, Blk.new2 _ _ _ _ _, below3 _ _ _ _⟩)
  have K0 := Lib.hid (((Blk.new w #[.slice none 0 0, .slice none 0 0] 37).alloc (.cells #[] tL)).alloc (.cells #[.slice none 0 0, .slice none 0 0] 37))
  generalize (((w.alloc (.cells #[.slice none 0 0, .slice none 0 0] 37)).alloc (.cells #[] tL)).alloc (.cells #[.slice none 0 0, .slice none 0 0] 37)) = w3 at HF K0 ⊢
  go_loopw [3, 18] (fun vc i wr => ∃ (j : Nat) (vb : Value) (vs : List Value), j ≤ zs.length ∧ i = .int .i64 j ∧ ColS w wr (w.heap.size + 1 + 1) vc vb vs (cols zs j) (colB zs j) ∧ Blk wr w.heap.size 37 #[.slice none 0 0, .slice none 0 0]) (fun _ i _ => zs.length - (intOf i).toNat)
  case atStart => exact ⟨0, _, [], Nat.zero_le _, rfl, HF.out, K0.out⟩
  case round =>
    obtain ⟨j, vb, vs, hj, rfl, hfill, hk0⟩ := hrel
    clear HF K0
    have HF := Lib.hid hfill
    have K0 := Lib.hid hk0
    clear hfill hk0
    by_cases hlt : j < zs.length
    · obtain ⟨ad, x, rfl, hx, -, hcx0⟩ := H3.out j hlt
      have hxn := HN.out x (List.mem_of_getElem? hx)
      have HX := Lib.hid (show zs.getD j 0 = x by simp [List.getD, hx])
      have hcx : wr.cell? (ad.add j) = some (.int .i64 x) := by
        rw [HF.out.below.cell (by rw [block_add]; have := World.block_lt_of_cell? w _ hcx0; rwa [block_add] at this)]; exact hcx0
      have hji : (j : Int) < (zs.length : Int) := by omega
      clear hx hcx0
      have OL := Lib.hid (own_lit wr tI [.int .i64 1] (by simp [maxLen]))
      go_wp2_with fail
      clear hcx
      obtain ⟨wo, rfl⟩ : ∃ wo : World, wo = wr := ⟨_, rfl⟩
      go_loopw [7, 26] (fun o k wi => ∃ m : Nat, m ≤ zs.length ∧ k = .int .i64 m ∧ OwnInts wi wo.heap.size tI o (lagI x zs j m) ∧ Below wo.heap.size wo wi) (fun _ k _ => zs.length - (intOf k).toNat)
      case atStart => exact ⟨0, Nat.zero_le _, rfl, ⟨by simpa [lagI, ints] using OL.out, nums_in (lagI_nums _ _ _ _)⟩, below1 _ _⟩
      case round =>
        obtain ⟨m, hm, rfl, hown, hb⟩ := hrel
        clear OL
        have HO := Lib.hid hown
        have HB := Lib.hid hb
        have HW := Lib.hid (HF.out.below.trans (hb.mono HF.out.below.size))
        clear hown hb
        by_cases hlt2 : m < zs.length
        · obtain ⟨ad', y, he, hy, -, hcy0⟩ := H3.out m hlt2
          simp only [Option.some.injEq] at he
          subst he
          have hyn := HN.out y (List.mem_of_getElem? hy)
          have hcy : wr.cell? (ad.add m) = some (.int .i64 y) := by
            rw [HW.out.cell (by rw [block_add]; have := World.block_lt_of_cell? w _ hcy0; rwa [block_add] at this)]; exact hcy0
          have hgy : zs.getD m 0 = y := by simp [List.getD, hy]
          have hmi : (m : Int) < (zs.length : Int) := by omega
          clear hy hcy0
          by_cases hmj : m = j
          · have HL := Lib.hid (show lagI x zs j (m + 1) = lagI x zs j m by rw [lagI, if_pos hmj])
            subst hmj
            clear hgy
            go_wp2_with fail
            go_roundw
            case rel => exact ⟨m + 1, by omega, by go_num, by rw [HL.out]; exact HO.out, HB.out⟩
            case measure => simp [intOf]; omega
          · have HL := Lib.hid (show lagI x zs j (m + 1) = scl (pw ((x - y) % 10007) 10005 % 10007) (tl (lagI x zs j m) y) by rw [lagI, if_neg hmj, hgy, pw_self])
            have hne : ¬ (m : Int) = (j : Int) := by omega
            have hll := lagI_len x zs j m
            have HLN := Lib.hid (lagI_nums x zs j m)
            have hpb := pw_bd ((x - y) % 10007) 10005
            clear hgy
            generalize lagI x zs j m = P at HO HL hll HLN
            go_wp2_with (first
              | (go_at_call 131; refine (i_timesLinear _ _ P y (by exact HO.out.ints) HLN.out (by omega) hyn.1 hyn.2).mono ?_; rintro e w5 ⟨r5, rfl, ho5, hb5⟩)
              | (go_at_call 56; refine (i_num _ _ (by omega) (by omega)).mono ?_; rintro e w' ⟨rfl, rfl⟩)
              | (go_at_call 99; refine (i_inv _ _ (by omega) (by omega)).mono ?_; rintro e w' ⟨rfl, rfl⟩)
              | (go_at_call 130; refine (i_scaled _ _ (tl P y) _ (by exact ho5.ints) (tl_nums _ _) (by rw [tl_len]; omega) (by omega) (by omega)).mono ?_; rintro e w6 ⟨r6, rfl, ho6, hb6⟩))
            have HB6 := Lib.hid (HB.out.trans ((hb5.trans (hb6.mono hb5.size)).mono HB.out.size))
            have HO6 := Lib.hid (ho6.mono (Nat.le_trans HB.out.size hb5.size))
            clear ho5 hb5 ho6 hb6 hcy
            go_wp2_with fail
            go_roundw
            case rel => exact ⟨m + 1, by omega, by go_num, by rw [HL.out]; exact HO6.out, HB6.out⟩
            case measure => simp [intOf]; omega
        · have : m = zs.length := by omega
          subst this
          have HLG := Lib.hid (show lagI x zs j zs.length = lag zs j by unfold lag; rw [HX.out])
          rw [HLG.out] at HO
          have HLN := Lib.hid (lag_nums zs j)
          have hll := lag_le5 zs j
          have HP := Lib.hid HO.out.ints
          have HF2 := Lib.hid (HF.out.step HB.out)
          have K2 := Lib.hid (K0.out.below HB.out K0.out.lt)
          have HOP := Lib.hid HO.out
          clear HF K0 HO HB HLG
          have OL2 := Lib.hid (own_lit wr tI [] (by simp [maxLen]))
          go_wp2_with fail
          obtain ⟨wp, rfl⟩ : ∃ wp : World, wp = wr := ⟨_, rfl⟩
          go_loopw [10, 47] (fun o k wi => ∃ m : Nat, m ≤ zs.length ∧ k = .int .i64 m ∧ Own wi wp.heap.size tI o (ints (colRow zs j m)) ∧ Below wp.heap.size wp wi) (fun _ k _ => zs.length - (intOf k).toNat)
          case atStart => exact ⟨0, Nat.zero_le _, rfl, by simpa [colRow, ints] using OL2.out, below1 _ _⟩
          case round =>
            obtain ⟨m, hm, rfl, hown, hb⟩ := hrel
            clear OL2
            have HO := Lib.hid hown
            have HB := Lib.hid hb
            have HP2 := Lib.hid (HP.out.below hb)
            clear hown hb
            by_cases hlt3 : m < zs.length
            · obtain ⟨ad', y, he, hy, -, hcy0⟩ := H3.out m hlt3
              simp only [Option.some.injEq] at he
              subst he
              have hyn := HN.out y (List.mem_of_getElem? hy)
              have hcy : wr.cell? (ad.add m) = some (.int .i64 y) := by
                rw [(HF2.out.below.trans (HB.out.mono HF2.out.below.size)).cell (by rw [block_add]; have := World.block_lt_of_cell? w _ hcy0; rwa [block_add] at this)]; exact hcy0
              have HS := Lib.hid (show colRow zs j (m + 1) = colRow zs j m ++ [integ (lag zs j) y] by rw [colRow_succ]; simp [List.getD, hy])
              clear hy hcy0
              go_wp2_with (first
                | (go_at_call 77; refine (i_integral _ _ (lag zs j) y (by exact HP2.out) HLN.out (by omega) hyn.1 hyn.2).mono ?_; rintro e w' ⟨rfl, rfl⟩)
                | (at_builtin; refine wpList_app1 T_int HO.out (by rw [ints_len, colRow_len]; omega) HB.out.size (by rfl) rfl (by rfl) (by rfl) (by rfl) ?_; intro v1 w1 hown1 hgr1))
              go_roundw
              case rel =>
                refine ⟨m + 1, by omega, by go_num, ?_, hgr1.below HB.out HB.out.size HO.out.ge⟩
                rw [HS.out]
                simpa [ints] using hown1
              case measure => simp [intOf]; omega
            · have : m = zs.length := by omega
              subst this
              have HRI := Lib.hid (nums_in (colRow_nums zs j zs.length))
              obtain ⟨A6, c6, hv6, -, -, -⟩ := (show Ints wr _ (colRow zs j zs.length) from ⟨HO.out.cells, HRI.out⟩).open_
              rw [colRow_len] at hv6
              subst hv6
              have HF3 := Lib.hid (HF2.out.step HB.out)
              have hsz : w.heap.size + 1 + 1 < wr.heap.size := HF3.out.blk.lt
              have hvl : vs.length ≤ 900 := by have := HF3.out.two.rows.1; rw [cols_len] at this; omega
              obtain ⟨A7, c7, hv7, -, -⟩ := HF3.out.two.own.cells.open_
              subst hv7
              go_wp2_with (at_builtin; refine wpList_app1 T_row (B := w.heap.size + 1) (vs := vs) HF3.out.two.own (by omega) (by omega) (by rfl) rfl (by rfl) (by rfl) (by rfl) ?_; intro v1 w1 hown1 hgr1)
              have HA1 := Lib.hid (HF2.out.addA (by have := HF2.out.blk.lt; omega) HB.out ⟨HO.out, HRI.out⟩ hown1 hgr1)
              have K1 := Lib.hid ((K2.out.below HB.out K2.out.lt).grow hgr1 (fun e => by have := HF3.out.two.own.ge _ e; omega))
              have HP4 := Lib.hid ((HOP.out.below HB.out).kept hgr1.1 (Own.ne_of_type (HOP.out.below HB.out).1 HF3.out.two.own (by decide))).ints
              obtain ⟨A8, c8, hv8, -, -⟩ := hown1.cells.open_
              rw [show (vs ++ [Value.slice A6 zs.length c6]).length = vs.length + 1 from by simp] at hv8
              subst hv8
              clear hown1 hgr1 HF3 HO HB K2 HP HP2 HOP
              have r0 : w1.cell? ⟨w.heap.size + 1 + 1, 1, none⟩ = some vb := HA1.out.blk.cell 1
              have r0a : ∀ o, (w1.alloc o).cell? ⟨w.heap.size + 1 + 1, 1, none⟩ = some vb := fun o => (HA1.out.blk.alloc o).cell 1
              have HZ64 := Lib.hid (show In64 (integ (lag zs j) 1) by have := integ_bd (lag zs j) 1; unfold In64; omega)
              go_wp2_with fail
              go_region_law (first
                | (refine step_app1 T_int (B := w.heap.size + 1) (v := vb) (vs := ints (colB zs j)) (W := w1.drew) (by exact HA1.out.two.ws.1) (by rw [ints_len, colB_len]; omega) (by have h1 := HA1.out.blk.lt; show _ ≤ w1.heap.size; omega) (by rfl) rfl (by rfl) (by rfl) (by rfl) ?_; intro v9 w9 hown9 hgr9; obtain ⟨A9, c9, hv9, -, -⟩ := hown9.cells.open_; subst hv9; have q6 : w9.cell? ⟨w.heap.size + 1 + 1, 1, none⟩ = some vb := ((HA1.out.step ((Below.refl _ _).drew)).blk.grow hgr9 HA1.out.npB).cell 1; have q7 := ((HA1.out.step ((Below.refl _ _).drew)).blk.grow hgr9 HA1.out.npB).frozen 1)
                | (go_simp; go_at_call 77; refine (i_integral _ _ (lag zs j) 1 (by exact HP4.out) HLN.out (by omega) (by omega) (by omega)).mono ?_; rintro e w' ⟨rfl, rfl⟩))
              all_goals
                have HB2 := Lib.hid ((HA1.out.step ((Below.refl _ _).drew)).addB (by omega) HZ64.out hown9 hgr9)
                have KB2 := Lib.hid (((K1.out.below ((Below.refl _ _).drew) K1.out.lt).grow hgr9 (fun e => by have := HA1.out.two.ws.1.ge _ e; omega)).far (p := ⟨w.heap.size + 1 + 1, 1, none⟩) (by simp; omega) (.slice A9 (ints (colB zs j) ++ [Value.int .i64 (integ (lag zs j) 1)]).length c9))
                simp only [List.length_append, List.length_singleton] at HB2 KB2
                clear hown9 hgr9 q6 q7 r0 r0a
                go_wp2_with fail
                go_roundw
                case rel =>
                  refine ⟨j + 1, .slice A9 ((ints (colB zs j)).length + 1) c9, vs ++ [.slice A6 zs.length c6], by omega, by go_num, ?_, KB2.out⟩
                  rw [cols_succ, colB_succ]
                  exact HB2.out
                case measure => simp [intOf]; omega
    · have : j = zs.length := by omega
      subst this
      have hvl : vs.length = zs.length := by have := HF.out.two.rows.1; rwa [cols_len] at this
      obtain ⟨A7, c7, hv7, -, -⟩ := HF.out.two.own.cells.open_
      rw [hvl] at hv7
      subst hv7
      clear hvl
      have hlt := HF.out.blk.lt
      obtain ⟨w4, rfl⟩ : ∃ w4 : World, w4 = wr := ⟨_, rfl⟩
      have HT0 := Lib.hid (show ColT w4 w4 (w.heap.size + 1 + 1) (.slice none 0 0) vb [] [] from ⟨World.grownBy.refl _ _, HF.out.blk, Own.nil _ _ _, RowsOwn.nil _ _ _ _⟩)
      have H4 := Lib.hid hlt
      clear hlt
      go_wp2_with fail
      go_loopw [72] (fun i wi => ∃ (k : Nat) (va : Value) (vs2 : List Value), k ≤ zs.length ∧ i = .int .i64 k ∧ ColT w4 wi (w.heap.size + 1 + 1) va vb vs2 (colA zs k)) (fun i _ => zs.length - (intOf i).toNat)
      case atStart => exact ⟨0, _, [], Nat.zero_le _, rfl, HT0.out⟩
      case round =>
        obtain ⟨k, va, vs2, hk, rfl, hcol⟩ := hrel
        clear HT0
        have HT := Lib.hid hcol
        have HR := Lib.hid (HF.out.two.other HF.out.blk (by decide) (by decide) hcol.g).rowsAt
        clear hcol
        by_cases hlt : k < zs.length
        · have hvl : vs2.length ≤ 900 := by have := HT.out.rows.1; rw [colA_len] at this; omega
          have HCC := Lib.hid (cols_col hlt)
          have r0 : wr.cell? ⟨w.heap.size + 1 + 1, 0, none⟩ = some va := HT.out.blk.cell 0
          go_wp2_with fail
          go_region_law (first
            | (refine step_app1 T_row (B := w4.heap.size) (v := va) (vs := vs2) (HT.out.step (below_of_drew hb5)).own (by omega) (by have h1 := HT.out.g.size; have h2 := hb5.size; simp at h2; omega) (by rfl) rfl (by rfl) (by rfl) (by rfl) ?_; intro v6 w6 hown6 hgr6; obtain ⟨A6, c6, hv6, -, -⟩ := hown6.cells.open_; subst hv6; have q6 : w6.cell? ⟨w.heap.size + 1 + 1, 0, none⟩ = some va := ((HT.out.step (below_of_drew hb5)).blk.grow hgr6 HT.out.npA).cell 0; have q7 := ((HT.out.step (below_of_drew hb5)).blk.grow hgr6 HT.out.npA).frozen 0)
            | (go_simp; go_at_call 132; refine (i_column3 _ _ (cols zs zs.length) k (by exact HR.out) (fun r hr => by rw [cols_row _ _ r hr]; exact hlt) (by rw [cols_len]; omega)).mono ?_; rintro e w5 ⟨r5, rfl, ho5, hb5⟩; rw [HCC.out] at ho5; obtain ⟨A5, c5, hv5, -, -, -⟩ := ho5.ints.open_; rw [show ((List.range zs.length).map fun j => integ (lag zs j) (zs.getD k 0)).length = zs.length from by simp] at hv5; subst hv5; have q5 : w5.cell? ⟨w.heap.size + 1 + 1, 0, none⟩ = some va := (HT.out.step (below_of_drew hb5)).blk.cell 0; have q5a : ∀ o, (w5.alloc o).cell? ⟨w.heap.size + 1 + 1, 0, none⟩ = some va := fun o => ((HT.out.step (below_of_drew hb5)).blk.alloc o).cell 0))
          all_goals
            have HN2 := Lib.hid (HT.out.next (below_of_drew hb5) ho5 hown6 hgr6)
            simp only [List.length_append, List.length_singleton] at HN2
            clear hown6 hgr6 ho5 hb5 q5 q5a q6 q7 r0
            go_wp2_with fail
            go_roundw
            case rel =>
              refine ⟨k + 1, .slice A6 (vs2.length + 1) c6, vs2 ++ [.slice A5 zs.length c5], by omega, by go_num, ?_⟩
              rw [colA_succ]
              exact HN2.out
            case measure => simp [intOf]; omega
        · have : k = zs.length := by omega
          subst this
          obtain ⟨A9, c9, hv9, -, -⟩ := HT.out.own.cells.open_
          have hvl : vs2.length = zs.length := by have := HT.out.rows.1; rwa [colA_len] at this
          rw [hvl] at hv9
          subst hv9
          clear hvl
          obtain ⟨A8, c8, hv8, -, -⟩ := HF.out.two.ws.1.cells.open_
          rw [ints_len, colB_len] at hv8
          subst hv8
          have K9 := Lib.hid (show Blk wr w.heap.size _ _ from (HT.out.g.block w.heap.size K0.out.lt (by simp; omega)).trans K0.out)
          have e0 : wr.cell? ⟨w.heap.size + 1 + 1, 0, none⟩ = some (.slice A9 zs.length c9) := HT.out.blk.cell 0
          have e1 : wr.cell? ⟨w.heap.size + 1 + 1, 1, none⟩ = some (.slice A8 zs.length c8) := HT.out.blk.cell 1
          have f0 : wr.cell? ⟨w.heap.size, 0, none⟩ = some (.slice none 0 0) := K9.out.cell 0
          have f1 : wr.cell? ⟨w.heap.size, 1, none⟩ = some (.slice none 0 0) := K9.out.cell 1
          have f2 := K9.out.frozen 0
          have f3 := K9.out.frozen 1
          have HTAB := Lib.hid (HT.out.tab HF.out (by have := H4.out; omega))
          have HBW := Lib.hid (HF.out.below.grown HT.out.g HF.out.below.size (fun b hb => by simp only [Option.some.injEq] at hb; omega))
          go_wp2_with fail
          have c0 := Chg.refl w.heap.size (w.heap.size + 1) wr
          have c1' := c0.setCell (p := ⟨w.heap.size, 0, none⟩) (Nat.le_refl _) (by simp) (.slice A9 zs.length c9)
          have c2' := c1'.setCell (p := ⟨w.heap.size, 1, none⟩) (Nat.le_refl _) (by simp) (.slice A8 zs.length c8)
          refine bodyPost_ret (v := .agg #[.slice A9 zs.length c9, .slice A8 zs.length c8]) (by simp [results, Tryz.results70, go_sem, f0, f1]) rfl ⟨_, rfl, (HTAB.out.kept c2' (.inr (Nat.le_refl _))).mono (by omega) c2'.size, c2'.below HBW.out (by omega) HBW.out.size⟩
end Go.Proofs.YtofabikjjkapmaaGreat

set_option maxRecDepth 100000
set_option linter.unusedVariables false
set_option linter.unusedSimpArgs false
namespace Go.Proofs.YtofabikjjkapmaaGreat
open Go.RowKit

def colTA (zs : List Int) : List (List Int) := if nodesC zs = 0 then colA zs zs.length else []
def colTB (zs : List Int) : List Int := if nodesC zs = 0 then colB zs zs.length else []
def IsCol (zs : List Int) (RA : List (List Int)) (RB : List Int) (c : Int) : Prop := RA = colTA zs ∧ RB = colTB zs ∧ c = nodesC zs
theorem IsCol.unique {zs : List Int} {RA RA' : List (List Int)} {RB RB' : List Int} {c c' : Int} (h : IsCol zs RA RB c) (h' : IsCol zs RA' RB' c') : RA = RA' ∧ RB = RB' ∧ c = c' := by
  obtain ⟨rfl, rfl, rfl⟩ := h
  obtain ⟨rfl, rfl, rfl⟩ := h'
  exact ⟨rfl, rfl, rfl⟩
theorem nodesC_ok {zs : List Int} (h : nodesC zs = 0) : 1 ≤ zs.length ∧ zs.length ≤ 8 ∧ Nums zs := by
  unfold nodesC at h
  cases ho : nodesOk zs with
  | false => rw [ho] at h; simp at h
  | true =>
    unfold nodesOk at ho
    simp only [Bool.and_eq_true] at ho
    have h1 := inR_iff.1 ho.1
    exact ⟨by omega, by omega, nums_iff.1 ho.2⟩
theorem nodesC_bd (zs : List Int) : 0 ≤ nodesC zs ∧ nodesC zs ≤ 5 := by
  unfold nodesC
  split
  · split <;> omega
  · omega
theorem IsCol.short {zs : List Int} {RA : List (List Int)} {RB : List Int} {c : Int} (h : IsCol zs RA RB c) : tot RA ≤ 1000 ∧ RB.length ≤ 1000 := by
  obtain ⟨rfl, rfl, rfl⟩ := h
  unfold colTA colTB
  by_cases hc : nodesC zs = 0
  · have hk := nodesC_ok hc
    rw [if_pos hc, if_pos hc]
    have h1 : tot (colA zs zs.length) ≤ (colA zs zs.length).length * 8 := tot_le fun r hr => by rw [(colA_rows zs zs.length r hr).2]; omega
    rw [colA_len] at h1
    rw [colB_len]
    omega
  · rw [if_neg hc, if_neg hc]
    simp [tot]

set_option maxHeartbeats 2000000 in
theorem i_CollocationTableau (w : World) (v : Value) (zs : List Int) (ha : Ints w v zs) :
    Calls Tryz.prog 21 #[v] w fun e w' => ∃ RA RB v' c, e = .returned (.tuple #[v', .int .i64 c]) ∧ IsCol zs RA RB c ∧ OT w' w.heap.size w'.heap.size v' RA RB ∧ Below w.heap.size w w' := by
  have HA := Lib.hid ha
  obtain ⟨A, cA, rfl, l1, l2, h3⟩ := ha.open_
  clear ha h3
  have B0 := Lib.hid (below1 w (.cells #[.slice none 0 0, .slice none 0 0] 37))
  have K0 := Lib.hid (Blk.new w #[.slice none 0 0, .slice none 0 0] 37)
  have hcb := nodesC_bd zs
  go_enter Tryz.func21, Tryz.ntmps21
  go_wp2_with fail
  have hs1 : (w.alloc (.cells #[.slice none 0 0, .slice none 0 0] 37)).heap.size = w.heap.size + 1 := by simp
  have HS1 := Lib.hid hs1
  clear hs1
  generalize (w.alloc (.cells #[.slice none 0 0, .slice none 0 0] 37)) = w1 at B0 K0 HS1 ⊢
  refine (i_checkNodesList _ _ _ (HA.out.below B0.out)).mono ?_
  rintro e w' ⟨rfl, rfl⟩
  by_cases hc : nodesC zs = 0
  · have HQ := Lib.hid hc
    have HK := Lib.hid (nodesC_ok hc)
    have hle := (nodesC_ok hc).2.1
    rw [hc]
    clear hc
    go_wp2_with fail
    refine (i_collocation _ _ zs (HA.out.below B0.out) HK.out.2.2 (by omega)).mono ?_
    rintro e w2 ⟨r, rfl, hot, hb2⟩
    obtain ⟨A3, c3, A4, c4, rfl⟩ := hot.open_
    rw [colA_len, colB_len] at hot ⊢
    have HO := Lib.hid hot
    have B2 := Lib.hid (B0.out.trans (hb2.mono B0.out.size))
    have X2 := Lib.hid (K0.out.below hb2 K0.out.lt)
    clear hot hb2
    have f0 : w2.cell? ⟨w.heap.size, 0, none⟩ = some (.slice none 0 0) := X2.out.cell 0
    have f1 : w2.cell? ⟨w.heap.size, 1, none⟩ = some (.slice none 0 0) := X2.out.cell 1
    have f2 := X2.out.frozen 0
    have f3 := X2.out.frozen 1
    go_wp2_with fail
    have c0 := Chg.refl w.heap.size (w.heap.size + 1) w2
    have c1' := c0.setCell (p := ⟨w.heap.size, 0, none⟩) (Nat.le_refl _) (by simp) (.slice A3 zs.length c3)
    have c2' := c1'.setCell (p := ⟨w.heap.size, 1, none⟩) (Nat.le_refl _) (by simp) (.slice A4 zs.length c4)
    refine bodyPost_ret (v := .tuple #[.agg #[.slice A3 zs.length c3, .slice A4 zs.length c4], .int .i64 0]) (by simp [results, Tryz.results21, go_sem, f0, f1]) rfl ⟨colA zs zs.length, colB zs zs.length, _, _, rfl, ⟨by simp [colTA, HQ.out], by simp [colTB, HQ.out], by rw [HQ.out]⟩, ?_, c2'.below B2.out (Nat.le_refl _) B2.out.size⟩
    have h9 := (HO.out.kept c2' (.inr (by rw [HS1.out]; exact Nat.le_refl _))).mono (B' := w.heap.size) (by rw [HS1.out]; omega) c2'.size
    exact h9
  · have HQ := Lib.hid hc
    have HG := Lib.hid (show colTA zs = [] ∧ colTB zs = [] from ⟨by simp [colTA, hc], by simp [colTB, hc]⟩)
    have HV := Lib.hid (rfl : nodesC zs = nodesC zs)
    have f0 : w1.cell? ⟨w.heap.size, 0, none⟩ = some (.slice none 0 0) := K0.out.cell 0
    have f1 : w1.cell? ⟨w.heap.size, 1, none⟩ = some (.slice none 0 0) := K0.out.cell 1
    have f2 := K0.out.frozen 0
    have f3 := K0.out.frozen 1
    go_wp2_with fail
    have c0 := Chg.refl w.heap.size (w.heap.size + 1) w1
    have c1' := c0.setCell (p := ⟨w.heap.size, 0, none⟩) (Nat.le_refl _) (by simp) (.slice none 0 0)
    have c2' := c1'.setCell (p := ⟨w.heap.size, 1, none⟩) (Nat.le_refl _) (by simp) (.slice none 0 0)
    refine bodyPost_ret (v := .tuple #[.agg #[.slice none 0 0, .slice none 0 0], .int .i64 (nodesC zs)]) (by simp [results, Tryz.results21, go_sem, f0, f1]) rfl ⟨[], [], _, _, rfl, ⟨HG.out.1.symm, HG.out.2.symm, rfl⟩, OT.nil _ _ _, c2'.below B0.out (Nat.le_refl _) B0.out.size⟩

set_option maxHeartbeats 2000000 in
theorem s_CollocationTableau (w : World) (v : Value) (zs : List Int) (ha : Ints w v zs) :
    Calls Tryz.prog 22 #[v] w fun e w' => ∃ RA RB v' c, e = .returned (.tuple #[v', .int .i64 c]) ∧ IsCol zs RA RB c ∧ OT w' w.heap.size w'.heap.size v' RA RB ∧ Below w.heap.size w w' := by
  have HA := Lib.hid ha
  obtain ⟨A, cA, rfl, l1, l2, h3⟩ := ha.open_
  clear ha h3
  have B0 := Lib.hid (below1 w (.cells #[.slice none 0 0, .slice none 0 0] 37))
  have K0 := Lib.hid (Blk.new w #[.slice none 0 0, .slice none 0 0] 37)
  have hcb := nodesC_bd zs
  go_enter Tryz.func22, Tryz.ntmps22
  go_wp2_with fail
  have hs1 : (w.alloc (.cells #[.slice none 0 0, .slice none 0 0] 37)).heap.size = w.heap.size + 1 := by simp
  have HS1 := Lib.hid hs1
  clear hs1
  generalize (w.alloc (.cells #[.slice none 0 0, .slice none 0 0] 37)) = w0 at B0 K0 HS1 ⊢
  refine (s_l11Nodes _ _ _ (HA.out.below B0.out)).mono ?_
  rintro e w' ⟨rfl, n, rfl⟩
  have B1 := Lib.hid (below_drewN B0.out n)
  have K1 := Lib.hid (K0.out.drewN n)
  have HS2 : Hid ((w0.drewN n).heap.size = w.heap.size + 1) := HS1
  clear B0 K0 HS1
  generalize w0.drewN n = w1 at B1 K1 HS2 ⊢
  by_cases hc : nodesC zs = 0
  · have HQ := Lib.hid hc
    have HK := Lib.hid (nodesC_ok hc)
    have hle := (nodesC_ok hc).2.1
    rw [hc]
    clear hc
    go_wp2_with fail
    refine (s_l11Collocation _ _ zs (HA.out.below B1.out) HK.out.2.2 (by omega)).mono ?_
    rintro e w2 ⟨r, rfl, hot, hb2⟩
    obtain ⟨A3, c3, A4, c4, rfl⟩ := hot.open_
    rw [colA_len, colB_len] at hot ⊢
    have HO := Lib.hid hot
    have B2 := Lib.hid (B1.out.trans (hb2.mono B1.out.size))
    have X2 := Lib.hid (K1.out.below hb2 K1.out.lt)
    clear hot hb2
    have f0 : w2.cell? ⟨w.heap.size, 0, none⟩ = some (.slice none 0 0) := X2.out.cell 0
    have f1 : w2.cell? ⟨w.heap.size, 1, none⟩ = some (.slice none 0 0) := X2.out.cell 1
    have f2 := X2.out.frozen 0
    have f3 := X2.out.frozen 1
    go_wp2_with fail
    have c0 := Chg.refl w.heap.size (w.heap.size + 1) w2
    have c1' := c0.setCell (p := ⟨w.heap.size, 0, none⟩) (Nat.le_refl _) (by simp) (.slice A3 zs.length c3)
    have c2' := c1'.setCell (p := ⟨w.heap.size, 1, none⟩) (Nat.le_refl _) (by simp) (.slice A4 zs.length c4)
    refine bodyPost_ret (v := .tuple #[.agg #[.slice A3 zs.length c3, .slice A4 zs.length c4], .int .i64 0]) (by simp [results, Tryz.results22, go_sem, f0, f1]) rfl ⟨colA zs zs.length, colB zs zs.length, _, _, rfl, ⟨by simp [colTA, HQ.out], by simp [colTB, HQ.out], by rw [HQ.out]⟩, ?_, c2'.below B2.out (Nat.le_refl _) B2.out.size⟩
    have h9 := (HO.out.kept c2' (.inr (by rw [HS2.out]; exact Nat.le_refl _))).mono (B' := w.heap.size) (by rw [HS2.out]; omega) c2'.size
    exact h9
  · have HQ := Lib.hid hc
    have HG := Lib.hid (show colTA zs = [] ∧ colTB zs = [] from ⟨by simp [colTA, hc], by simp [colTB, hc]⟩)
    have f0 : w1.cell? ⟨w.heap.size, 0, none⟩ = some (.slice none 0 0) := K1.out.cell 0
    have f1 : w1.cell? ⟨w.heap.size, 1, none⟩ = some (.slice none 0 0) := K1.out.cell 1
    have f2 := K1.out.frozen 0
    have f3 := K1.out.frozen 1
    go_wp2_with fail
    have c0 := Chg.refl w.heap.size (w.heap.size + 1) w1
    have c1' := c0.setCell (p := ⟨w.heap.size, 0, none⟩) (Nat.le_refl _) (by simp) (.slice none 0 0)
    have c2' := c1'.setCell (p := ⟨w.heap.size, 1, none⟩) (Nat.le_refl _) (by simp) (.slice none 0 0)
    refine bodyPost_ret (v := .tuple #[.agg #[.slice none 0 0, .slice none 0 0], .int .i64 (nodesC zs)]) (by simp [results, Tryz.results22, go_sem, f0, f1]) rfl ⟨[], [], _, _, rfl, ⟨HG.out.1.symm, HG.out.2.symm, rfl⟩, OT.nil _ _ _, c2'.below B1.out (Nat.le_refl _) B1.out.size⟩
end Go.Proofs.YtofabikjjkapmaaGreat

set_option maxRecDepth 100000
set_option linter.unusedVariables false
set_option linter.unusedSimpArgs false
namespace Go.Proofs.YtofabikjjkapmaaGreat
open Go.RowKit

def tabEq (A A' : List (List Int)) (Bs Bs' : List Int) : Bool := decide (Bs = Bs') && decide (A = A')

set_option maxHeartbeats 2000000 in
theorem im_equal (w : World) (v v' : Value) (A A' : List (List Int)) (Bs Bs' : List Int) (ha : TabArg w v A Bs) (hb : TabArg w v' A' Bs') :
    Calls Tryz.prog 79 #[v, v'] w fun e w' => e = .returned (.bool (tabEq A A' Bs Bs')) ∧ Below w.heap.size w w' := by
  obtain ⟨va, vb, rfl, hA, hB⟩ := ha
  obtain ⟨va', vb', rfl, hA', hB'⟩ := hb
  have BB := Lib.hid (below2 w (.cells #[va, vb] 37) (.cells #[va', vb'] 37))
  have HA := Lib.hid hA
  have HB := Lib.hid hB
  have HA' := Lib.hid hA'
  have HB' := Lib.hid hB'
  obtain ⟨A1, c1, rfl, -, -, -⟩ := hA.open_
  obtain ⟨A2, c2, rfl, -, -, -⟩ := hB.open_
  obtain ⟨A3, c3, rfl, -, -, -⟩ := hA'.open_
  obtain ⟨A4, c4, rfl, -, -, -⟩ := hB'.open_
  clear hA hB hA' hB'
  go_enter Tryz.func79, Tryz.ntmps79
  by_cases hq : Bs = Bs'
  · have HQ := Lib.hid hq
    have hd : decide (Bs = Bs') = true := by simp [hq]
    clear hq
    go_wp2_with fail
    refine (lib_Equal _ _ _ _ _ (HB.out.below BB.out) (HB'.out.below BB.out)).mono ?_
    rintro e w1 ⟨rfl, n1, rfl⟩
    rw [hd]
    go_wp2_with fail
    refine (lib_EqualFunc _ _ _ _ _ ((HA.out.below BB.out).drewN n1) ((HA'.out.below BB.out).drewN n1)).mono ?_
    rintro e w2 ⟨rfl, n2, rfl⟩
    go_wp2_with fail
    go_ret
    exact ⟨ret_bool (by simp [tabEq, HQ.out]), below_drewN BB.out _⟩
  · have HQ := Lib.hid hq
    have hd : decide (Bs = Bs') = false := by simp [hq]
    clear hq
    go_wp2_with fail
    refine (lib_Equal _ _ _ _ _ (HB.out.below BB.out) (HB'.out.below BB.out)).mono ?_
    rintro e w1 ⟨rfl, n1, rfl⟩
    rw [hd]
    go_wp2_with fail
    go_ret
    exact ⟨ret_bool (by simp [tabEq, HQ.out]), below_drewN BB.out _⟩

def isColB (A : List (List Int)) (Bs : List Int) : Bool := tabB A Bs && (decide (nodesC (nodesOf A) = 0) && tabEq (colA (nodesOf A) (nodesOf A).length) A (colB (nodesOf A) (nodesOf A).length) Bs)
def isColC (A : List (List Int)) (Bs : List Int) : Int := if tabB A Bs then 0 else 1

set_option maxHeartbeats 2000000 in
theorem i_IsCollocation (w : World) (v : Value) (A : List (List Int)) (Bs : List Int) (ha : TabArg w v A Bs) :
    Calls Tryz.prog 28 #[v] w fun e w' => e = .returned (.tuple #[.bool (isColB A Bs), .int .i64 (isColC A Bs)]) ∧ Below w.heap.size w w' := by
  have HT := Lib.hid ha
  obtain ⟨Aa, ca, Ab, cb, rfl⟩ := ha.open_
  have B0 := Lib.hid (below1 w (.cells #[.slice Aa A.length ca, .slice Ab Bs.length cb] 37))
  have K0 := Lib.hid (Blk.new w #[.slice Aa A.length ca, .slice Ab Bs.length cb] 37)
  clear ha
  go_enter Tryz.func28, Tryz.ntmps28
  go_wp2_with fail
  refine (i_IsTableau _ _ _ _ (HT.out.below B0.out)).mono ?_
  rintro e w1 ⟨rfl, hb1⟩
  have B1 := Lib.hid (B0.out.trans (hb1.mono B0.out.size))
  have K1 := Lib.hid (K0.out.below hb1 K0.out.lt)
  have g0 : w1.cell? ⟨w.heap.size, 0, none⟩ = some (.slice Aa A.length ca) := K1.out.cell 0
  have g1 : w1.cell? ⟨w.heap.size, 1, none⟩ = some (.slice Ab Bs.length cb) := K1.out.cell 1
  have hlt1 := K1.out.lt
  clear hb1
  cases ht : tabB A Bs with
  | false =>
    go_wp2_with fail
    go_ret2
    exact ⟨by simp [isColB, isColC, ht], B1.out⟩
  | true =>
    have HI := Lib.hid (isTab_of ht)
    have HQ := Lib.hid ht
    clear ht
    by_cases hc : nodesC (nodesOf A) = 0
    · have HC := Lib.hid hc
      have HK := Lib.hid (nodesC_ok hc)
      have hle := (nodesC_ok hc).2.1
      go_wp2_with fail
      go_region_held3 (fun w' => w'.cell? ⟨w.heap.size, 0, none⟩ = some (.slice Aa A.length ca) ∧ w'.cell? ⟨w.heap.size, 1, none⟩ = some (.slice Ab Bs.length cb)) ((go_split_ands; refine ⟨?_, ?_⟩ <;> (first
          | (rw [hb8.cell (by have h5 := hb5.size; have h6 := hb6.size; have h7 := hb7.size; simp at h5 h6 h7 ⊢; omega)]; assumption)
          | (rw [hb7.cell (by have h5 := hb5.size; have h6 := hb6.size; simp at h5 h6 ⊢; omega)]; assumption)
          | (rw [hb6.cell (by have h5 := hb5.size; simp at h5 ⊢; omega)]; assumption)
          | (rw [hb5.cell (by simp; omega)]; assumption)
          | go_keep)))
        (first
          | (go_at_call 69; refine (i_checkNodesList _ _ _ (by exact ho5.ints)).mono ?_; rintro e w' ⟨rfl, rfl⟩; rw [HC.out])
          | (go_at_call 74; refine (im_nodes _ _ A Bs (by exact HT.out.below (B1.out.trans ((below_of_drew hb5).mono B1.out.size))) HI.out.numTab).mono ?_; rintro e w6 ⟨v6, rfl, ho6, hb6⟩)
          | (go_at_call 74; refine (im_nodes _ _ A Bs (by exact HT.out.below B1.out.drew) HI.out.numTab).mono ?_; rintro e w5 ⟨v5, rfl, ho5, hb5⟩)
          | (go_at_call 70; refine (i_collocation _ _ _ (by exact ho6.ints) HK.out.2.2 (by omega)).mono ?_; rintro e w7 ⟨v7, rfl, ho7, hb7⟩)
          | (go_at_call 79; refine (im_equal _ _ _ _ _ _ _ (by exact ho7.arg) (by exact HT.out.below (B1.out.trans ((((below_of_drew hb5).trans (hb6.mono hb5.size)).trans (hb7.mono (Nat.le_trans hb5.size hb6.size))).mono B1.out.size)))).mono ?_; rintro e w8 ⟨rfl, hb8⟩))
      go_wp2_with fail
      go_ret2
      exact ⟨by simp [isColB, isColC, HQ.out, HC.out], B1.out.trans (((((below_of_drew hb5).trans (hb6.mono hb5.size)).trans (hb7.mono (Nat.le_trans hb5.size hb6.size))).trans (hb8.mono (Nat.le_trans (Nat.le_trans hb5.size hb6.size) hb7.size))).mono B1.out.size)⟩
    · have HC := Lib.hid hc
      go_wp2_with fail
      go_region_law (first
          | (go_simp; go_at_call 69; refine (i_checkNodesList _ _ _ (by exact ho5.ints)).mono ?_; rintro e w' ⟨rfl, rfl⟩)
          | (go_simp; go_at_call 74; refine (im_nodes _ _ A Bs (by exact HT.out.below B1.out.drew) HI.out.numTab).mono ?_; rintro e w5 ⟨v5, rfl, ho5, hb5⟩))
      all_goals
        go_wp2_with fail
        go_ret2
        exact ⟨by simp [isColB, isColC, HQ.out, HC.out, Act.put], B1.out.trans ((below_of_drew hb5).mono B1.out.size)⟩

end Go.Proofs.YtofabikjjkapmaaGreat

set_option maxRecDepth 100000
set_option linter.unusedVariables false
set_option linter.unusedSimpArgs false
namespace Go.Proofs.YtofabikjjkapmaaGreat
open Go.RowKit

theorem hasB_take {zs : List Int} {k : Nat} (hk : k < zs.length) : again zs k = true ↔ ∃ i, i < k ∧ zs.getD i 0 = zs.getD k 0 := by
  unfold again hasB
  rw [List.any_eq_true]
  constructor
  · rintro ⟨x, hx, he⟩
    obtain ⟨i, hi, rfl⟩ := List.getElem_of_mem hx
    rw [List.length_take] at hi
    refine ⟨i, by omega, ?_⟩
    have e := eq_of_beq he
    rw [List.getElem_take] at e
    rw [← e, List.getD_eq_getElem?_getD, List.getElem?_eq_getElem (by omega)]
    rfl
  · rintro ⟨i, hi, he⟩
    refine ⟨zs.getD i 0, ?_, by rw [he]; exact beq_self_eq_true _⟩
    rw [List.getD_eq_getElem?_getD, List.getElem?_eq_getElem (by omega)]
    show zs[i] ∈ _
    rw [List.mem_take_iff_getElem]
    exact ⟨i, by omega, rfl⟩
theorem dn_of {zs : List Int} (h : nodesC zs = 0) : DN zs := by
  have ho := nodesC_ok h
  have hne : ∀ i k, i < k → k < zs.length → zs.getD i 0 ≠ zs.getD k 0 := by
    intro i k hik hk e
    have ha := (hasB_take hk).2 ⟨i, hik, e⟩
    have hany := again_any hk ha
    unfold nodesC at h
    rw [hany] at h
    split at h <;> simp at h
  refine ⟨ho.2.2, fun i k hi hk hd => ?_⟩
  rcases Nat.lt_or_gt_of_ne hd with h1 | h1
  · exact hne i k h1 hk
  · exact fun e => hne k i h1 hi e.symm
theorem nodes_of {zs : List Int} (h : DN zs) (h1 : 1 ≤ zs.length) (h8 : zs.length ≤ 8) : nodesC zs = 0 := by
  unfold nodesC
  rw [if_pos (show nodesOk zs = true from by unfold nodesOk; rw [Bool.and_eq_true, inR_iff]; exact ⟨by omega, nums_iff.2 h.num⟩)]
  rw [again_none fun i hi => ?_]
  · rfl
  · cases ha : again zs i with
    | false => rfl
    | true =>
      obtain ⟨k, hk, e⟩ := (hasB_take hi).1 ha
      exact absurd e (h.dif k i (by omega) hi (by omega))
/-- what is known of good nodes -/
structure Cok (zs : List Int) : Prop where
  dn : DN zs
  l1 : 1 ≤ zs.length
  l8 : zs.length ≤ 8
theorem cok_of {zs : List Int} (h : nodesC zs = 0) : Cok zs := ⟨dn_of h, (nodesC_ok h).1, (nodesC_ok h).2.1⟩
section
variable {zs : List Int}
theorem Cok.tab (h : Cok zs) : tabB (colA zs zs.length) (colB zs zs.length) = true := tabB_sq (sq_coll zs) h.l1 h.l8
theorem Cok.nodes (h : Cok zs) : nodesOf (colA zs zs.length) = zs := by
  refine ext_getD (by rw [nodesOf_len, colA_len]) fun i hi => ?_
  rw [nodesOf_len, colA_len] at hi
  have e1 := cN_is (sq_coll zs) hi
  rw [coll_row h.dn h.l1 hi] at e1
  have b := cN_bd (colA zs zs.length) i
  change cN (colA zs zs.length) i = _
  omega
theorem Cok.isCol (h : Cok zs) : isColB (colA zs zs.length) (colB zs zs.length) = true := by
  unfold isColB tabEq
  rw [h.nodes, h.tab, nodes_of h.dn h.l1 h.l8]
  simp
theorem Cok.cN (h : Cok zs) : cN (colA zs zs.length) = fun i => zs.getD i 0 := by
  funext i
  unfold Go.Proofs.YtofabikjjkapmaaGreat.cN
  rw [h.nodes]
/-- what OrthogonalTo answers -/
def OrtM (zs : List Int) (m : Nat) : Prop := m ≤ 8 ∧ (∀ t, t < m → integ (List.replicate t 0 ++ ndP zs zs.length) 1 = 0) ∧ (m = 8 ∨ integ (List.replicate m 0 ++ ndP zs zs.length) 1 ≠ 0)
theorem Cok.orders (h : Cok zs) {m : Nat} (hm : OrtM zs m) :
    oM (colA zs zs.length) (colB zs zs.length) 0 = zs.length + m ∧ zs.length ≤ oM (colA zs zs.length) (colB zs zs.length) 1 ∧ agZ (chT (colA zs zs.length) (colB zs zs.length)) EX = ((min (zs.length + m) 6 : Nat) : Int) := by
  obtain ⟨m8, h1, h2⟩ := hm
  have g1 : ∀ t, t < m → mu zs.length (fun l => (ndP zs zs.length).getD l 0) t % 10007 = 0 := fun t ht => by
    rw [← integ_mu, h1 t ht]; rfl
  have g2 : m = 8 ∨ mu zs.length (fun l => (ndP zs zs.length).getD l 0) m % 10007 ≠ 0 := by
    rcases h2 with h2 | h2
    · exact .inl h2
    · refine .inr ?_
      rw [← integ_mu]
      have b := integ_bd (List.replicate m 0 ++ ndP zs zs.length) 1
      omega
  have hc := coll_conds h.dn h.l1 h.l8 m8 g1 g2
  have e0 : oM (colA zs zs.length) (colB zs zs.length) 0 = cndO (mB zs.length (fB (colB zs zs.length)) (fun i => zs.getD i 0)) := congrArg cndO (funext fun k => by
    unfold asM
    rw [if_pos rfl, asB_is, h.cN, colB_len])
  have e1 : oM (colA zs zs.length) (colB zs zs.length) 1 = cndO (mC zs.length (fT (colA zs zs.length)) (fun i => zs.getD i 0)) := congrArg cndO (funext fun k => by
    unfold asM
    rw [if_neg (by omega), if_pos rfl, colB_len, asCs_is (sq_coll zs), h.cN])
  exact ⟨by rw [e0]; exact hc.1, by rw [e1]; exact hc.2, coll_order h.dn h.l1 h.l8 m8 g1 g2⟩
theorem Cok.horn (h : Cok zs) {i : Nat} (hi : i < zs.length) : Go.Proofs.YtofabikjjkapmaaGreat.horn (zs.getD i 0) (ndP zs zs.length) = 0 := by
  have e := horn_nodes zs hi
  cases hp : ndP zs zs.length with
  | nil => rfl
  | cons a p =>
    rw [hp] at e
    change (Go.Proofs.YtofabikjjkapmaaGreat.horn (zs.getD i 0) p * zs.getD i 0 + a) % 10007 % 10007 = 0 at e
    change (Go.Proofs.YtofabikjjkapmaaGreat.horn (zs.getD i 0) p * zs.getD i 0 + a) % 10007 = 0
    omega
theorem horn_step (x : Int) (p : List Int) {k : Nat} {a : Int} (h : p[k]? = some a) : Go.Proofs.YtofabikjjkapmaaGreat.horn x (p.drop k) = (Go.Proofs.YtofabikjjkapmaaGreat.horn x (p.drop (k + 1)) * x + a) % 10007 := by
  have hk := (List.getElem?_eq_some_iff.1 h).1
  rw [List.drop_eq_getElem_cons hk, (List.getElem?_eq_some_iff.1 h).2]
  rfl
theorem horn_bd (x : Int) (p : List Int) : 0 ≤ Go.Proofs.YtofabikjjkapmaaGreat.horn x p ∧ Go.Proofs.YtofabikjjkapmaaGreat.horn x p ≤ 10006 := by
  cases p with
  | nil => exact ⟨Int.le_refl _, by show (0 : Int) ≤ 10006; omega⟩
  | cons a p =>
    show 0 ≤ (Go.Proofs.YtofabikjjkapmaaGreat.horn x p * x + a) % 10007 ∧ (Go.Proofs.YtofabikjjkapmaaGreat.horn x p * x + a) % 10007 ≤ 10006
    omega
theorem Cok.mir (h : Cok zs) : Cok (mirZ zs) := ⟨h.dn.mir, by rw [mirZ_len]; exact h.l1, by rw [mirZ_len]; exact h.l8⟩
theorem mirZ_take {i : Nat} {z : Int} (h : zs[i]? = some z) : (mirZ zs).take (i + 1) = (mirZ zs).take i ++ [(1 - z) % 10007] := by
  rw [List.take_add_one]
  unfold mirZ
  rw [List.getElem?_map, h]
  rfl
end
end Go.Proofs.YtofabikjjkapmaaGreat

