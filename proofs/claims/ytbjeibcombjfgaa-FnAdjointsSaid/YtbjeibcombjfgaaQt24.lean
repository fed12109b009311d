/- Walks: l10Scale of the reference. | Walks of helpers of the laws: likeRows5, likeTableau5. -/
import Derived.Test.YtbjeibcombjfgaaQt13
import Derived.Test.YtbjeibcombjfgaaQt19
import Derived.Test.YtbjeibcombjfgaaQt7
set_option linter.unusedVariables false
set_option linter.unusedSimpArgs false
namespace Go.Proofs.Ytbjeibcombjfgaa
open Go.RowKit

set_option maxRecDepth 100000 in
set_option maxHeartbeats 2000000 in
theorem s_l10Scale (w : World) (v : Value) (A : List (List Int)) (Bs : List Int) (k : Int) (ha : TabArg w v A Bs) (hT : NumTab A Bs) (h0 : 0 ≤ k) (h1 : k ≤ 10006) :
    Calls Try.prog 69 #[v, .int .i64 k] w fun e w' => ∃ r, e = .returned r ∧ OT w' w.heap.size w'.heap.size r (A.map (scl k)) (scl k Bs) ∧ Below w.heap.size w w' := by
  obtain ⟨va, vb, rfl, hA, hB⟩ := ha
  have HB := Lib.hid hB
  have HA := Lib.hid hA
  obtain ⟨A1, c1, rfl, l1, l2, h3⟩ := hA.open_
  obtain ⟨A2, c2, rfl, -, -, -⟩ := hB.open_
  have H3 := Lib.hid h3
  have hal := hT.la
  have hbl := hT.lb
  have HT := Lib.hid hT
  clear hA hB h3 hT
  go_enter Try.func69, Try.ntmps69
  go_wp2_with fail
  refine (s_l02Times _ _ Bs k (HB.out.below (below2 w _ _)) HT.out.ws (by omega) h0 h1).mono ?_
  rintro e w3 ⟨v3, rfl, ho, hb3⟩
  simp only [size_alloc'] at ho hb3
  obtain ⟨A3, c3, hv, -, -, -⟩ := ho.ints.open_
  rw [scl_len] at hv
  subst hv
  have hs3 := hb3.size
  simp only [size_alloc'] at hs3
  have k0 : Blk w3 w.heap.size 27 #[.slice A1 A.length c1, .slice A2 Bs.length c2] := ((Blk.new w _ _).alloc _).below hb3 (by omega)
  have k1 : Blk w3 (w.heap.size + 1) 27 #[.slice none 0 0, .slice none 0 0] := (Blk.new1 w _ _ _).below hb3 (by omega)
  have g0 : (w3.alloc (.cells #[.slice none 0 0, .slice A3 Bs.length c3] 27)).cell? ⟨w.heap.size, 0, none⟩ = some (.slice A1 A.length c1) := (k0.alloc _).cell 0
  have HF := Lib.hid (show Fill w (w3.alloc (.cells #[.slice none 0 0, .slice A3 Bs.length c3] 27)) w3.heap.size (.slice none 0 0) (.slice A3 Bs.length c3) [] (w.heap.size + 1 + 1) [] (scl k Bs) from
    ⟨Blk.new _ _ _, Own.nil _ _ _, RowsOwn.nil _ _ _ _, (OI.of ho).below (below1 _ _), by omega, ((below2 w _ _).trans (hb3.mono (by omega))).alloc (by omega) _⟩)
  have K1 := Lib.hid (k1.alloc (.cells #[.slice none 0 0, .slice A3 Bs.length c3] 27))
  have X1 := Lib.hid (k0.alloc (.cells #[.slice none 0 0, .slice A3 Bs.length c3] 27))
  have HP := Lib.hid hs3
  clear k0 k1 ho hb3 hs3
  go_wp2_with fail
  clear g0
  generalize hw4 : (w3.alloc (.cells #[.slice none 0 0, .slice A3 Bs.length c3] 27)) = w4 at HF K1 X1
  have HBelow4 := Lib.hid HF.out.below
  clear hw4
  generalize hp : w3.heap.size = p at HF HP ⊢
  clear hp
  go_loopw [6] (fun i wr => ∃ (j : Nat) (va : Value) (vs : List Value), j ≤ A.length ∧ i = .int .i64 j ∧ Fill w wr p va (.slice A3 Bs.length c3) vs (w.heap.size + 1 + 1) ((A.take j).map (scl k)) (scl k Bs) ∧ Blk wr (w.heap.size + 1) 27 #[.slice none 0 0, .slice none 0 0] ∧ Blk wr w.heap.size 27 #[.slice A1 A.length c1, .slice A2 Bs.length c2]) (fun i _ => A.length - (intOf i).toNat)
  case atStart => exact ⟨0, _, [], Nat.zero_le _, rfl, HF.out, K1.out, X1.out⟩
  case round =>
    obtain ⟨j, va, vs, hj, rfl, hfill, hk1, hx1⟩ := hrel
    clear HF K1 X1
    have X1 := Lib.hid hx1
    have x0 : wr.cell? ⟨w.heap.size, 0, none⟩ = some (.slice A1 A.length c1) := X1.out.cell 0
    clear hx1
    have HF := Lib.hid hfill
    have K1 := Lib.hid hk1
    have hvl : vs.length ≤ 1000 := by have := hfill.rows.1; simp at this; omega
    have HV := Lib.hid hvl
    clear hfill hk1 hvl
    by_cases hlt : j < A.length
    · obtain ⟨ad, u, zs, rfl, hz, hu, hc0⟩ := H3.out j hlt
      have hc : wr.cell? (ad.add j) = some u := by
        rw [HF.out.below.cell (by rw [block_add]; have := World.block_lt_of_cell? w _ hc0; rwa [block_add] at this)]; exact hc0
      have HU := Lib.hid (hu.below HF.out.below)
      have HZN := Lib.hid (HT.out.rows zs (List.mem_of_getElem? hz))
      have HZ := Lib.hid hz
      clear hz hu hc0
      have q0 := (HF.out.blk.both (u := va) rfl).1
      have q1 := (HF.out.blk.both (u := va) rfl).2
      go_wp2_with fail
      go_region_law (first | (refine step_app1 T_row (B := p + 1) (v := va) (vs := vs) (HF.out.own.below (below_of_drew hb5)) (by have := HV.out; omega) (by have h1 := HF.out.lt; have h2 := hb5.size; simp at h2; omega) (by rfl) rfl (by rfl) (by rfl) (by rfl) ?_; intro v6 w6 hown6 hgr6; obtain ⟨A6, c6, hv6, -, -⟩ := hown6.cells.open_; subst hv6; have q6 := (((HF.out.after (below_of_drew hb5)).grow hgr6 HF.out.np).both (u := va) rfl).1; have q7 := (((HF.out.after (below_of_drew hb5)).grow hgr6 HF.out.np).both (u := va) rfl).2) | (go_simp; go_at_call 121; refine (s_l02Times _ _ zs k (by exact HU.out) HZN.out.1 (by have := HZN.out.2; omega) h0 h1).mono ?_; rintro e w5 ⟨r5, rfl, ho5, hb5⟩; obtain ⟨A5, c5, hv5, -, -, -⟩ := ho5.ints.open_; rw [scl_len] at hv5; subst hv5; have q5 := ((HF.out.after (below_of_drew hb5)).both (u := va) rfl).1; have q5a : ∀ o, (w5.alloc o).cell? ⟨p, 0, none⟩ = some va := fun o => ((HF.out.after (below_of_drew hb5)).alloc o).cell 0))
      all_goals
        have HN := Lib.hid (HF.out.next (zs := scl k zs) (r := Value.slice A5 zs.length c5) (by have := HP.out; omega) (below_of_drew hb5) ho5 hown6 hgr6)
        have KN := Lib.hid ((((K1.out.below (below_of_drew hb5) K1.out.lt).grow hgr6 (fun e => by have h1 := HF.out.own.ge _ e; have h2 := HP.out; omega))).far (p := ⟨p, 0, none⟩) (by have h2 := HP.out; simp; omega) (Value.slice A6 (vs ++ [Value.slice A5 zs.length c5]).length c6))
        have XN := Lib.hid ((((X1.out.below (below_of_drew hb5) X1.out.lt).grow hgr6 (fun e => by have h1 := HF.out.own.ge _ e; have h2 := HP.out; omega))).far (p := ⟨p, 0, none⟩) (by have h2 := HP.out; simp; omega) (Value.slice A6 (vs ++ [Value.slice A5 zs.length c5]).length c6))
        have HZT := Lib.hid (show (A.take (j + 1)).map (scl k) = (A.take j).map (scl k) ++ [scl k zs] by rw [List.take_add_one, HZ.out]; simp)
        simp only [List.length_append, List.length_singleton] at HN KN XN
        clear hown6 hgr6 ho5 hb5 q0 q1 q5 q5a q6 q7 hc x0
        go_wp2_with fail
        go_roundw
        case rel =>
          refine ⟨j + 1, .slice A6 (vs.length + 1) c6, vs ++ [.slice A5 zs.length c5], by omega, by go_num, ?_, KN.out, XN.out⟩
          rw [HZT.out]
          exact HN.out
        case measure => simp [intOf]; omega
    · have : j = A.length := by omega
      subst this
      rw [List.take_length] at HF
      obtain ⟨A7, c7, hv7, -, -⟩ := HF.out.own.cells.open_
      have hvl : vs.length = A.length := by have := HF.out.rows.1; simp at this; omega
      rw [hvl] at hv7
      subst hv7
      have e0 : wr.cell? ⟨p, 0, none⟩ = some (.slice A7 A.length c7) := HF.out.blk.cell 0
      have e1 : wr.cell? ⟨p, 1, none⟩ = some (.slice A3 Bs.length c3) := HF.out.blk.cell 1
      have f0 : wr.cell? ⟨w.heap.size + 1, 0, none⟩ = some (.slice none 0 0) := K1.out.cell 0
      have f1 : wr.cell? ⟨w.heap.size + 1, 1, none⟩ = some (.slice none 0 0) := K1.out.cell 1
      have f2 := K1.out.frozen 0
      have f3 := K1.out.frozen 1
      have HTAB := Lib.hid (HF.out.tab (by have := HP.out; omega))
      clear hvl
      go_wp2_with fail
      have c0 := Chg.refl (w.heap.size + 1) (w.heap.size + 1 + 1) wr
      have c1' := c0.setCell (p := ⟨w.heap.size + 1, 0, none⟩) (Nat.le_refl _) (by simp) (.slice A7 A.length c7)
      have c2' := c1'.setCell (p := ⟨w.heap.size + 1, 1, none⟩) (Nat.le_refl _) (by simp) (.slice A3 Bs.length c3)
      have hsb := HF.out.below.size
      refine bodyPost_ret (v := .agg #[.slice A7 A.length c7, .slice A3 Bs.length c3]) (by simp [results, Try.results69, go_sem, f0, f1]) rfl ⟨_, rfl, (HTAB.out.kept c2' (.inr (Nat.le_refl _))).mono (by omega) c2'.size, c2'.below HF.out.below (by omega) hsb⟩
end Go.Proofs.Ytbjeibcombjfgaa

set_option maxRecDepth 100000
set_option linter.unusedVariables false
set_option linter.unusedSimpArgs false
namespace Go.Proofs.Ytbjeibcombjfgaa
open Go.RowKit

set_option maxHeartbeats 4000000 in
theorem l_likeRows5 (w : World) (a b : Value) (xs ys : List (List Int)) (ha : Rows w a xs) (hb : Rows w b ys) :
    Calls Try.prog 55 #[a, b] w fun e w' => e = .returned (.bool (decide (xs = ys))) ∧ ∃ n, w' = w.drewN n := by
  obtain ⟨A, c, rfl, h1, h2, h3⟩ := ha.open_
  obtain ⟨B, d, rfl, g1, g2, g3⟩ := hb.open_
  clear ha hb
  have H3 := Lib.hid h3
  have G3 := Lib.hid g3
  clear h3 g3
  by_cases hl : xs.length = ys.length
  · have hl' : (((xs.length : Nat) : Int) != ((ys.length : Nat) : Int)) = false := by simp [hl]
    have HL := Lib.hid hl
    clear hl
    have g4 : ys.length ≤ xs.length := by rw [HL.out]; omega
    have g5 : xs.length ≤ ys.length := by rw [HL.out]; omega
    go_enter Try.func55, Try.ntmps55
    go_wp2
    go_loopw [5] (fun i wr => ∃ k n : Nat, k ≤ xs.length ∧ i = .int .i64 k ∧ xs.take k = ys.take k ∧ wr = w.drewN n) (fun i _ => xs.length - (intOf i).toNat)
    case atStart => exact ⟨0, 0, Nat.zero_le _, rfl, rfl, rfl⟩
    case round =>
      obtain ⟨k, n, hk, rfl, ht, rfl⟩ := hrel
      have HT := Lib.hid ht
      clear ht
      by_cases hlt : k < xs.length
      · obtain ⟨ad, u, z, rfl, hz, hz2, hc⟩ := H3.out k hlt
        obtain ⟨ad', u', y, rfl, hy, hy2, hc'⟩ := G3.out k (by omega)
        have HZ := Lib.hid hz
        have HY := Lib.hid hy
        have HZ2 := Lib.hid hz2
        have HY2 := Lib.hid hy2
        clear hz hy hz2 hy2
        have HLI := Lib.hid (fun m => l_likeInts (w.drewN m) u u' z y (HZ2.out.drewN m) (HY2.out.drewN m))
        by_cases hzy : z = y
        · have HZY := Lib.hid hzy
          simp only [show decide (z = y) = true from decide_eq_true hzy] at HLI
          clear hzy
          go_wp2
          go_quiet (first
            | (go_at_call 36; exact quiet_more (HLI.out _)))
          go_wp2
          go_roundw
          case rel => exact ⟨k + 1, _, by omega, by go_num, rtake_succ HT.out HZ.out HY.out HZY.out, rfl⟩
          case measure => simp [intOf]; omega
        · have HZY := Lib.hid hzy
          simp only [show decide (z = y) = false from decide_eq_false hzy] at HLI
          clear hzy
          go_wp2
          go_quiet (first
            | (go_at_call 36; exact quiet_more (HLI.out _)))
          go_wp2
          go_ret
          refine ⟨ret_bool ?_, _, by first | rfl | exact World.drewN_drewN _ _ _ | simp⟩
          symm
          simp only [decide_eq_false_iff_not]
          rintro rfl
          have := HZ.out.symm.trans HY.out
          injection this with this
          exact HZY.out this
      · have : k = xs.length := by omega
        subst this
        go_wp2
        go_ret
        refine ⟨ret_bool ?_, _, rfl⟩
        have e := HT.out
        rw [List.take_length, List.take_of_length_le (by omega)] at e
        simp [e]
  · have hl' : (((xs.length : Nat) : Int) != ((ys.length : Nat) : Int)) = true := by simp; omega
    have HL := Lib.hid hl
    clear hl
    go_enter Try.func55, Try.ntmps55
    go_wp2
    go_ret
    refine ⟨ret_bool ?_, 0, rfl⟩
    have := HL.out
    symm
    simp only [decide_eq_false_iff_not]
    rintro rfl
    exact this rfl
set_option maxHeartbeats 4000000 in
theorem l_likeTableau5 (w : World) (v v' : Value) (A A' : List (List Int)) (Bs Bs' : List Int) (ha : TabArg w v A Bs) (hb : TabArg w v' A' Bs') :
    Calls Try.prog 16 #[v, v'] w fun e w' => e = .returned (.bool (decide (A = A') && decide (Bs = Bs'))) ∧ Below w.heap.size w w' := by
  obtain ⟨va, vb, rfl, ha1, ha2⟩ := ha
  obtain ⟨va', vb', rfl, hb1, hb2⟩ := hb
  obtain ⟨A1, c1, rfl, -, -, -⟩ := ha1.open_
  obtain ⟨A2, c2, rfl, -, -, -⟩ := ha2.open_
  obtain ⟨A3, c3, rfl, -, -, -⟩ := hb1.open_
  obtain ⟨A4, c4, rfl, -, -, -⟩ := hb2.open_
  obtain ⟨W, hW⟩ : ∃ W, W = (w.alloc (.cells #[.slice A1 A.length c1, .slice A2 Bs.length c2] 27)).alloc (.cells #[.slice A3 A'.length c3, .slice A4 Bs'.length c4] 27) := ⟨_, rfl⟩
  have hbw : Below w.heap.size w W := by rw [hW]; exact below2 w _ _
  have HBW := Lib.hid hbw
  have HK1 := Lib.hid (show Blk W w.heap.size 27 #[.slice A1 A.length c1, .slice A2 Bs.length c2] from by rw [hW]; exact (Blk.new _ _ _).alloc _)
  have HK2 := Lib.hid (show Blk W (w.heap.size + 1) 27 #[.slice A3 A'.length c3, .slice A4 Bs'.length c4] from by rw [hW]; exact Blk.new1 _ _ _ _)
  have HR1 := Lib.hid (ha1.below hbw)
  have HR2 := Lib.hid (hb1.below hbw)
  have HI1 := Lib.hid (ha2.below hbw)
  have HI2 := Lib.hid (hb2.below hbw)
  have HLR := Lib.hid (fun m => l_likeRows5 (W.drewN m) _ _ A A' (HR1.out.drewN m) (HR2.out.drewN m))
  have HLI := Lib.hid (fun m => l_likeInts (W.drewN m) _ _ Bs Bs' (HI1.out.drewN m) (HI2.out.drewN m))
  clear ha1 ha2 hb1 hb2 hbw
  generalize decide (A = A') = d1 at *
  generalize decide (Bs = Bs') = d2 at *
  have q0 : ∀ m, (W.drewN m).cell? ⟨w.heap.size, 0, none⟩ = some (.slice A1 A.length c1) := fun m => HK1.out.cell 0
  have q1 : ∀ m, (W.drewN m).cell? ⟨w.heap.size, 1, none⟩ = some (.slice A2 Bs.length c2) := fun m => HK1.out.cell 1
  have q2 : ∀ m, (W.drewN m).cell? ⟨w.heap.size + 1, 0, none⟩ = some (.slice A3 A'.length c3) := fun m => HK2.out.cell 0
  have q3 : ∀ m, (W.drewN m).cell? ⟨w.heap.size + 1, 1, none⟩ = some (.slice A4 Bs'.length c4) := fun m => HK2.out.cell 1
  have p0 : W.cell? ⟨w.heap.size, 0, none⟩ = some (.slice A1 A.length c1) := HK1.out.cell 0
  have p1 : W.cell? ⟨w.heap.size, 1, none⟩ = some (.slice A2 Bs.length c2) := HK1.out.cell 1
  have p2 : W.cell? ⟨w.heap.size + 1, 0, none⟩ = some (.slice A3 A'.length c3) := HK2.out.cell 0
  have p3 : W.cell? ⟨w.heap.size + 1, 1, none⟩ = some (.slice A4 Bs'.length c4) := HK2.out.cell 1
  go_enter Try.func16, Try.ntmps16
  go_upto_region 1 with fail
  rw [← hW]
  clear hW
  cases d1 with
  | false =>
    go_wp2_with (go_at_call 55; refine (HLR.out 0).mono ?_; rintro e w3 ⟨rfl, n3, rfl⟩)
    go_ret
    exact ⟨rfl, below_drewN (below_drewN HBW.out 0) n3⟩
  | true =>
    go_wp2_with (first
      | (go_at_call 55; refine (HLR.out 0).mono ?_; rintro e w3 ⟨rfl, n3, rfl⟩; rw [World.drewN_drewN])
      | (go_at_call 36; refine (HLI.out _).mono ?_; rintro e w4 ⟨rfl, n4, rfl⟩))
    go_ret
    exact ⟨rfl, below_drewN HBW.out _⟩
end Go.Proofs.Ytbjeibcombjfgaa

