/- Walk: partitionsOf of the program. | Plain: one more put into its place among sorted ones with counts, by positions; lists of elements cut and joined. No walk. | A list that grows by append while older blocks, and newer ones that were laid behind its first block, are read. No walk. -/
import Derived.Test.YtbjeibcombjfgaaQf34
import Derived.Test.YtbjeibcombjfgaaQf22
import Derived.Test.YtbjeibcombjfgaaQf33
import Derived.Test.YtbjeibcombjfgaaQf13
import Derived.BigQuiet
import Derived.Deep.QuietTactic
import Derived.Test.YtbjeibcombjfgaaQf15
import Derived.Deep.CutRange
import Derived.Deep.CutBlock
import Derived.Deep.DeepCutAuto
import Derived.Test.YtbjeibcombjfgaaQf1
set_option maxRecDepth 100000
set_option linter.unusedVariables false
set_option linter.unusedSimpArgs false
namespace Go.Proofs.Ytbjeibcombjfgaa
open Go.RowKit

theorem T_part : ElemK Try.prog 59 63 (.agg #[.slice none 0 0, .slice none 0 0, .int .i64 0]) 3 56 := ⟨Try.underlying59, by kernel_rfl, rfl, by omega, by omega⟩
/-- the pieces and the skeleton of a mask -/
def prtN (t : List Nat) (m : Nat) : PK := (srtB ((mapO (fun i => canO 9 (pieN t m i)) (0 :: cutsN m (t.length - 1) 1)).getD []), (canO 9 (sklN t m)).getD [])
def prtL (t : List Nat) (k : Nat) : List PK := (List.range k).map fun i => prtN t (2 * i)
theorem prtL_succ (t : List Nat) (k : Nat) : prtL t (k + 1) = prtL t k ++ [prtN t (2 * k)] := by simp [prtL, List.range_succ]
set_option maxHeartbeats 16000000 in
theorem i_partitionsOf (w : World) (v : Value) (t : List Nat) (ha : Ints w v (up t)) (hlv : lvl t = true) (h8 : t.length ≤ 8) (hcan : canO 9 t = some t) (hl : ∀ l ∈ t, l ≤ 1000000) :
    Calls Try.prog 110 #[v] w fun e w' => ∃ x, e = .returned x ∧ SLs ePc tPt w' w.heap.size x (grpL cmpP (srtS ltP (prtL t (2 ^ (t.length - 1))))) ∧ Below w.heap.size w w' := by
  have HA := Lib.hid ha
  have hpos : 0 < t.length := by obtain ⟨c, rfl, -⟩ := lvl_cons hlv; simp
  obtain ⟨A, c, rfl, l1, l2, -⟩ := ha.open_
  rw [up_len] at l1 HA ⊢
  have HC := Lib.hid (fun m h1 h2 W h => i_cutUp W (.slice A t.length c) t m h hlv h8 hcan h1 h2 hl)
  have OL := Lib.hid (show OwnK (w.alloc (.cells #[] tPt)) w.heap.size tPt 3 (.slice (some ⟨w.heap.size, 0, none⟩) 0 0) [] from OwnK.lit w tPt 3 [] (fun c hc => by simp at hc) (by simp [maxLen]) #[] rfl)
  have hpw : ∃ N : Nat, N = 2 ^ (t.length - 1) ∧ 2 * N = 2 ^ t.length ∧ N ≤ 128 := by
    refine ⟨_, rfl, ?_, ?_⟩
    · obtain ⟨k, hk⟩ : ∃ k, t.length = k + 1 := ⟨t.length - 1, by omega⟩
      rw [hk, Nat.pow_succ]; simp; omega
    · exact Nat.le_trans (Nat.pow_le_pow_right (by omega) (show t.length - 1 ≤ 7 by omega)) (by decide)
  obtain ⟨N, hN, hN2, hN8⟩ := hpw
  rw [← hN]
  have HN := Lib.hid hN
  have HN2 := Lib.hid hN2
  obtain ⟨M, hM⟩ : ∃ M, M = 2 * N := ⟨_, rfl⟩
  have HM := Lib.hid hM
  have hM8 : M ≤ 256 := by omega
  have hsh : wrap64 ((2 : Int) ^ t.length) = (M : Int) := by
    have e : ((2 : Int) ^ t.length) = ((2 ^ t.length : Nat) : Int) := by simp
    rw [e, ← hN2, ← hM]
    exact w64_in' _ (by omega)
  have hsh2 : IntKind.i64.wrap ((2 : Int) ^ t.length) = (M : Int) := by
    have e : ((2 : Int) ^ t.length) = ((2 ^ t.length : Nat) : Int) := by simp
    rw [e, ← hN2, ← hM]
    exact IntWalk.i64_in _ (by omega)
  clear ha hlv hcan hl hN hN2 hM
  go_enter Try.func110, Try.ntmps110
  go_upto_block 0 with fail
  go_cut [3] (fun x wx => ∃ css, OwnK wx w.heap.size tPt 3 x css ∧ Elts (ePt 1) wx w.heap.size css (prtL t N) ∧ Below w.heap.size w wx)
  case first =>
    go_wp2_with fail
    go_loopw [3, 4] (fun o x wr => ∃ (i m : Nat) (css : List (List Value)), i ≤ N ∧ x = .int .i64 (m : Nat) ∧ Hid (m = 2 * i) ∧ OwnK wr w.heap.size tPt 3 o css ∧ Elts (ePt 1) wr w.heap.size css (prtL t i) ∧ Below w.heap.size w wr) (fun _ x _ => M - (intOf x).toNat)
    case atStart => exact ⟨0, 0, [], Nat.zero_le _, rfl, rfl, OL.out, Elts.nil _ _ _, below1 _ _⟩
    case round =>
      obtain ⟨i, m, css, hi, rfl, HMI, ho, hce, hb⟩ := hrel
      clear OL
      have hm0 := HMI.out
      have hM0 := HM.out
      have HO := Lib.hid ho
      have HCE := Lib.hid hce
      have HB := Lib.hid hb
      by_cases hlt : i < N
      · have hml : m < M := by omega
        have hmi : (m : Int) < (M : Int) := by omega
        have HCM := Lib.hid (HC.out m (by rw [← HN2.out]; omega) (by omega))
        have HPS := Lib.hid (show prtL t (i + 1) = prtL t i ++ [prtN t m] from by rw [prtL_succ, hm0])
        have hcl : css.length ≤ 200 := by rw [hce.1]; simp [prtL]; omega
        clear hm0 hM0 ho hce hb
        go_wp2_with (first
          | (go_at_call 97; go_loud (refine (HCM.out _ (HA.out.below HB.out)).mono ?_; rintro e w3 ⟨x3, y3, pcs, r, rfl, hpc, hr3, hx3, hy3, hb3⟩; obtain ⟨A5, c5, he5, -, -, -⟩ := hx3.rows.open_; rw [List.length_map] at he5; subst he5; obtain ⟨A6, c6, he6, -, -, -⟩ := hy3.ints.open_; rw [up_len] at he6; subst he6; have HX3 := Lib.hid hx3; have HY3 := Lib.hid hy3; have HPN := Lib.hid (show prtN t m = (srtB pcs, r) from by unfold prtN; rw [hpc, hr3]; rfl); have HB3 := Lib.hid hb3; clear hx3 hy3 hb3 hpc hr3))
          | (at_builtin; go_loud (refine wpList_app1K T_part (W := w3.alloc (.cells #[.slice A5 (srtB pcs).length c5, .slice A6 r.length c6, .int .i64 1] tPt)) (c := [.slice A5 (srtB pcs).length c5, .slice A6 r.length c6, .int .i64 ((1 : Nat) : Int)]) ((HO.out.below HB3.out).below (below1 w3 _)) (by omega) (by have := HB.out.size; have := HB3.out.size; simp; omega) rfl (by intro u hu; simp at hu; rcases hu with rfl | rfl | rfl <;> rfl) (lit_cells _ _ _ _ rfl) (by rfl) rfl (by rfl) (by rfl) ?_; intro v5 w5 hown5 hgr5; have HN5 := Lib.hid hown5; have HG5 := Lib.hid hgr5; clear hown5 hgr5)))
        have hb4 : Below w3.heap.size w3 (w3.alloc (.cells #[.slice A5 (srtB pcs).length c5, .slice A6 r.length c6, .int .i64 1] tPt)) := below1 w3 _
        have hb34 := HB3.out.trans (hb4.mono HB3.out.size)
        have hw3 : w.heap.size ≤ wr.heap.size := HB.out.size
        have HE5 := Lib.hid ((((HCE.out.below hb34).snoc (x := (srtB pcs, r)) (c := [.slice A5 (srtB pcs).length c5, .slice A6 r.length c6, .int .i64 ((1 : Nat) : Int)]) ⟨_, _, rfl, (HX3.out.below hb4).mono hw3, (HY3.out.below hb4).mono hw3⟩)).kept HG5.out.1 (HO.out.below hb34).bt (by decide) (by decide))
        have HB5 := Lib.hid (HG5.out.below (HB.out.trans (hb34.mono HB.out.size)) (Nat.le_trans HB.out.size hb34.size) HO.out.ge)
        clear hb4 hb34 hw3 hsh hsh2
        go_roundw
        case rel =>
          refine ⟨i + 1, m + 2, _, by omega, by go_num, by have := HMI.out; show m + 2 = 2 * (i + 1); omega, HN5.out, ?_, HB5.out⟩
          rw [HPS.out, HPN.out]
          exact HE5.out
        case measure => simp [intOf]; omega
      · have hiN : i = N := by omega
        subst hiN
        have hml : ¬ (m < M) := by omega
        have hmi : ¬ ((m : Int) < (M : Int)) := by omega
        clear hm0 hM0
        go_wp2_with fail
        go_meet
        exact ⟨css, ho, hce, hb⟩
  case rest =>
    obtain ⟨css', ho, hce, hb⟩ := hcut
    have hl2 := hce.1
    have hpl : (prtL t N).length = N := by simp [prtL]
    rw [hpl] at hl2
    obtain ⟨A, c', rfl, -, -⟩ := ho.open_
    have hso := lib_SortPart wc w.heap.size c' A css' _ ho hce (by omega)
    rw [hl2] at hso ho ⊢
    have HSO := Lib.hid hso
    have HB := Lib.hid hb
    have HYL := Lib.hid (show (srtS ltP (prtL t N)).length = N from by have := (srtSF_perm (lt := ltP) [] (prtL t N)).length_eq; rw [List.nil_append, hpl] at this; exact this)
    obtain ⟨ys, hys⟩ : ∃ ys, ys = srtS ltP (prtL t N) := ⟨_, rfl⟩
    rw [← hys] at HSO HYL
    have HYS := Lib.hid hys
    clear hys
    clear hso hce hb hpl
    have HO1 := Lib.hid ho
    clear ho hl2
    go_wp2_with (go_at_call 177; go_loud (refine HSO.out.mono ?_; rintro e w2 ⟨rfl, css2, hl3, ho2, he3, hg2⟩; have HO2 := Lib.hid ho2; have HE2 := Lib.hid he3; have HL3 := Lib.hid hl3; have HB2 := Lib.hid (Grow.below (v := .slice A N c') (v' := .slice A N c') ⟨hg2, .inl rfl⟩ HB.out HB.out.size HO1.out.ge); clear ho2 he3 hl3 hg2))
    have OL := Lib.hid (show OwnK (w2.alloc (.cells #[] tPt)) w2.heap.size tPt 3 (.slice (some ⟨w2.heap.size, 0, none⟩) 0 0) [] from OwnK.lit w2 tPt 3 [] (fun c hc => by simp at hc) (by simp [maxLen]) #[] rfl)
    have HB2' := Lib.hid (show w.heap.size ≤ w2.heap.size from HB2.out.size)
    have HGL := Lib.hid (fun k (hk : k ≤ ys.length) => grpL_len cmpP ys k hk)
    go_loopw [8, 38] (fun o x wr => ∃ (k : Nat) (css3 : List (List Value)), k ≤ N ∧ x = .int .i64 k ∧ OwnK wr w2.heap.size tPt 3 o css3 ∧ Elts ePc wr w.heap.size css3 (grpL cmpP (ys.take k)) ∧ Below w2.heap.size w2 wr) (fun _ x _ => N - (intOf x).toNat)
    case atStart => exact ⟨0, [], Nat.zero_le _, rfl, OL.out, Elts.nil _ _ _, below1 _ _⟩
    case round =>
      obtain ⟨k, css3, hk, rfl, ho, hce, hb⟩ := hrel
      clear OL
      obtain ⟨Ao, co, rfl, -, -⟩ := ho.open_
      have hcl := hce.1
      have hgl := HGL.out k (by rw [HYL.out]; exact hk)
      have hcl2 : css3.length ≤ 1000 := by omega
      have HCL := Lib.hid hcl
      have HGC := Lib.hid hgl.2
      have HO := Lib.hid ho
      have HCE := Lib.hid hce
      have HBR := Lib.hid hb
      have HBW := Lib.hid (HB2.out.trans (hb.mono HB2'.out))
      clear ho hce hb hcl hgl
      by_cases hlt : k < N
      · obtain ⟨y, hy⟩ : ∃ y, ys[k]? = some y := ⟨_, List.getElem?_eq_getElem (by rw [HYL.out]; exact hlt)⟩
        have HTS := Lib.hid (show grpL cmpP (ys.take (k + 1)) = grpS cmpP (grpL cmpP (ys.take k)) y from by rw [List.take_add_one, hy]; exact grpL_snoc _ _ _)
        obtain ⟨c1, hc1, hD⟩ := HE2.out.at_ hy
        obtain ⟨u, s, rfl, hu0, hs0⟩ := hD
        have hu1 : LA w2 w.heap.size u (y.1.map up) := hu0
        have hs1 : OwnInts w2 w.heap.size tI s (up y.2) := hs0
        obtain ⟨A1, k1, rfl, -, -, -⟩ := hu1.rows.open_
        obtain ⟨A2, k2, rfl, -, -, -⟩ := hs1.ints.open_
        simp only [List.length_map, up_len] at hc1 hu0 hs0
        have HDY := Lib.hid (show ePc.D w2 w.heap.size [.slice A1 y.1.length k1, .slice A2 y.2.length k2, .int .i64 ((1 : Nat) : Int)] (y, 1) from ⟨_, _, rfl, hu0, hs0⟩)
        obtain ⟨gl, capl, hel, hcc0⟩ := HO2.out.cell (j := 0) hc1 rfl
        have hcc1 := HO2.out.cell (j := 1) hc1 rfl
        have hcc2 := HO2.out.cell (j := 2) hc1 rfl
        simp only [Value.slice.injEq] at hel
        obtain ⟨rfl, hln, rfl⟩ := hel
        have hq0 : w2.cell? ⟨gl, k * 3, none⟩ = some (.slice A1 y.1.length k1) := hcc0
        have hq1 : w2.cell? ⟨gl, k * 3 + 1, none⟩ = some (.slice A2 y.2.length k2) := by obtain ⟨g', c', he', h'⟩ := hcc1; simp only [Value.slice.injEq, Option.some.injEq, Addr.mk.injEq, and_true, true_and] at he'; rw [he'.1]; exact h'
        have hq2 : w2.cell? ⟨gl, k * 3 + 2, none⟩ = some (.int .i64 1) := by obtain ⟨g', c', he', h'⟩ := hcc2; simp only [Value.slice.injEq, Option.some.injEq, Addr.mk.injEq, and_true, true_and] at he'; rw [he'.1]; exact h'
        have hr0 := keepCellG HBR.out hq0
        have hr1 := keepCellG HBR.out hq1
        have hr2 := keepCellG HBR.out hq2
        have hii : (k : Int) < (N : Int) := by omega
        clear hu0 hs0 hu1 hs1 hcc0 hcc1 hcc2 hq0 hq1 hq2 hln hc1 hy
        go_upto_region 14 with fail
        obtain ⟨wq, hwq⟩ : ∃ wq : World, wq = wr.alloc (.cells #[.slice A1 y.1.length k1, .slice A2 y.2.length k2, .int .i64 1] tPt) := ⟨_, rfl⟩
        have HBK := Lib.hid (show Blk wq wr.heap.size tPt #[.slice A1 y.1.length k1, .slice A2 y.2.length k2, .int .i64 1] from by rw [hwq]; exact Blk.new wr _ _)
        have HBQ := Lib.hid (show Below wr.heap.size wr wq from by rw [hwq]; exact below1 _ _)
        have HDQ := Lib.hid (ePc.below (ePc.below HDY.out HBR.out) HBQ.out)
        have HOQ := Lib.hid (HO.out.below HBQ.out)
        have HEQ := Lib.hid (HCE.out.below HBQ.out)
        have HPS := Lib.hid (show w2.heap.size ≤ wr.heap.size from HBR.out.size)
        obtain ⟨pq, hpq⟩ : ∃ pq : Nat, pq = wr.heap.size := ⟨_, rfl⟩
        rw [← hpq] at HBK HPS
        first | rw [← hwq] | skip
        first | rw [← hpq] | skip
        clear hwq hr0 hr1 hr2
        have HPQ := Lib.hid hpq
        clear hpq
        obtain ⟨bb, hbb⟩ : ∃ bb : Bool, bb = lastEq cmpP (grpL cmpP (ys.take k)) y := ⟨_, rfl⟩
        have HBB := Lib.hid hbb
        clear hbb
        go_cut [38, 56] from 38 to 70 (fun iv x wx => iv = .int .i64 k ∧ x = .bool bb ∧ Below wq.heap.size wq wx)
        case first =>
          rcases Nat.eq_zero_or_pos css3.length with hz | hz
          · have HBF := Lib.hid (show bb = false from by rw [HBB.out, lastEq, show grpL cmpP (ys.take k) = [] from List.eq_nil_of_length_eq_zero (by rw [← HCL.out]; exact hz)]; rfl)
            have hn1 : css3.length = 0 := hz
            clear hz
            go_quiet (fail)
            go_wp2_with fail
            go_meet
            exact ⟨rfl, by rw [HBF.out], below_drewN (Below.refl _ _) _⟩
          · obtain ⟨m, hm⟩ : ∃ m, css3.length = m + 1 := ⟨css3.length - 1, by omega⟩
            obtain ⟨⟨r, n⟩, hr⟩ : ∃ x, (grpL cmpP (ys.take k))[m]? = some x := ⟨_, List.getElem?_eq_getElem (by rw [← HCL.out]; omega)⟩
            have hbv := HBB.out
            rw [lastEq, List.getLast?_eq_getElem?, ← HCL.out, hm, Nat.add_sub_cancel, hr] at hbv
            simp only at hbv
            obtain ⟨c3, hc3, hD3⟩ := HEQ.out.at_ hr
            obtain ⟨u', s', rfl, hu0, hs0⟩ := hD3
            have hu1 : LA wq w.heap.size u' (r.1.map up) := hu0
            have hs1 : OwnInts wq w.heap.size tI s' (up r.2) := hs0
            obtain ⟨A3, k3, rfl, -, -, -⟩ := hu1.rows.open_
            obtain ⟨A4, k4, rfl, -, -, -⟩ := hs1.ints.open_
            simp only [List.length_map, up_len] at hc3 hu0 hs0
            have hdr : ePc.D wq w.heap.size [.slice A3 r.1.length k3, .slice A4 r.2.length k4, .int .i64 (n : Nat)] (r, n) := ⟨_, _, rfl, hu0, hs0⟩
            have hcm := fun W (hW : Below wq.heap.size wq W) => show Calls Try.prog 175 #[.agg #[.slice A3 r.1.length k3, .slice A4 r.2.length k4, .int .i64 (n : Nat)], .agg #[.slice A1 y.1.length k1, .slice A2 y.2.length k2, .int .i64 1]] W fun e w' => e = .returned (.int .i64 (cmpP r y)) ∧ ∃ q os, w' = Go.Sort.grow (W.drewN q) os from
              i_cmpPart W w.heap.size w.heap.size [.slice A3 r.1.length k3, .slice A4 r.2.length k4, .int .i64 (n : Nat)] [.slice A1 y.1.length k1, .slice A2 y.2.length k2, .int .i64 ((1 : Nat) : Int)] r y n 1 (ePc.below hdr hW) (ePc.below HDQ.out hW)
            obtain ⟨go, cg, heo, hg0⟩ := HOQ.out.cell (j := 0) hc3 rfl
            have hg1 := HOQ.out.cell (j := 1) hc3 rfl
            have hg2 := HOQ.out.cell (j := 2) hc3 rfl
            simp only [Value.slice.injEq, true_and] at heo
            obtain ⟨rfl, rfl⟩ := heo
            have hq0 : wq.cell? ⟨go, m * 3, none⟩ = some (.slice A3 r.1.length k3) := hg0
            have hq1 : wq.cell? ⟨go, m * 3 + 1, none⟩ = some (.slice A4 r.2.length k4) := by obtain ⟨g', c', he', h'⟩ := hg1; simp only [Value.slice.injEq, Option.some.injEq, Addr.mk.injEq, and_true, true_and] at he'; rw [he'.1]; exact h'
            have hq2 : wq.cell? ⟨go, m * 3 + 2, none⟩ = some (.int .i64 (n : Nat)) := by obtain ⟨g', c', he', h'⟩ := hg2; simp only [Value.slice.injEq, Option.some.injEq, Addr.mk.injEq, and_true, true_and] at he'; rw [he'.1]; exact h'
            have hp0 : wq.cell? ⟨pq, 0, none⟩ = some (.slice A1 y.1.length k1) := HBK.out.cell 0
            have hp1 : wq.cell? ⟨pq, 1, none⟩ = some (.slice A2 y.2.length k2) := HBK.out.cell 1
            have hp2 : wq.cell? ⟨pq, 2, none⟩ = some (.int .i64 1) := HBK.out.cell 2
            have hw1 : IntKind.i64.wrap ((css3.length : Int) - 1) = (m : Int) := by rw [IntWalk.i64_in _ (by omega)]; omega
            have hmi : (m : Int) < (css3.length : Int) := by omega
            have hd0 : decide (0 < css3.length) = true := by simp; omega
            generalize cmpP r y = z at hbv hcm
            have HCM := Lib.hid hcm
            have HBV := Lib.hid hbv
            clear hbv hcm hg0 hg1 hg2 hdr hu0 hs0 hu1 hs1 hc3 hr hm
            obtain ⟨S, hS1, hS2⟩ : ∃ S : World → Prop, (∀ W, S W → Below wq.heap.size wq W) ∧ (∀ W, Below wq.heap.size wq W → S W) := ⟨fun W => Below wq.heap.size wq W, fun _ h => h, fun _ h => h⟩
            have HSE := Lib.hid (show ∀ x : GW S, Below wq.heap.size wq x.w from fun x => hS1 _ x.h)
            have HSI := Lib.hid (show S wq.drew from hS2 _ (Below.refl wq.heap.size wq).drew)
            have HCX := Lib.hid (show ∀ x : GW S, Calls Try.prog 175 #[.agg #[.slice A3 r.1.length k3, .slice A4 r.2.length k4, .int .i64 (n : Nat)], .agg #[.slice A1 y.1.length k1, .slice A2 y.2.length k2, .int .i64 1]] x.w (fun e w' => e = .returned (.int .i64 z) ∧ S w') from fun x => (HCM.out x.w (HSE.out x)).mono (by rintro e w7 ⟨rfl, q, os, rfl⟩; exact ⟨rfl, hS2 _ ((below_drewN (HSE.out x) q).trans ((below_growE _ os).mono (below_drewN (HSE.out x) q).size))⟩))
            have hx0 : ∀ x : GW S, x.w.cell? ⟨go, m * 3, none⟩ = some (.slice A3 r.1.length k3) := fun x => keepCellG (HSE.out x) hq0
            have hx1 : ∀ x : GW S, x.w.cell? ⟨go, m * 3 + 1, none⟩ = some (.slice A4 r.2.length k4) := fun x => keepCellG (HSE.out x) hq1
            have hx2 : ∀ x : GW S, x.w.cell? ⟨go, m * 3 + 2, none⟩ = some (.int .i64 (n : Nat)) := fun x => keepCellG (HSE.out x) hq2
            have hy0 : ∀ x : GW S, x.w.cell? ⟨pq, 0, none⟩ = some (.slice A1 y.1.length k1) := fun x => keepCellG (HSE.out x) hp0
            have hy1 : ∀ x : GW S, x.w.cell? ⟨pq, 1, none⟩ = some (.slice A2 y.2.length k2) := fun x => keepCellG (HSE.out x) hp1
            have hy2 : ∀ x : GW S, x.w.cell? ⟨pq, 2, none⟩ = some (.int .i64 1) := fun x => keepCellG (HSE.out x) hp2
            clear hS1 hS2 hq0 hq1 hq2 hp0 hp1 hp2
            refine wp_region_grow S (by kernel_rfl) (by kernel_rfl) HSI.out (fun hne => ?_)
            repeat (go_big_quiet_step ((go_at_call 175; exact grow_call (HCX.out _))))
            refine wpQuiet_nil ?_
            rintro _ ⟨xq, rfl⟩
            clear hx0 hx1 hx2 hy0 hy1 hy2
            go_wp2_with fail
            go_meet
            exact ⟨rfl, by rw [HBV.out]; rfl, HSE.out xq⟩
        case rest =>
          obtain ⟨rfl, rfl, hbw⟩ := hcut
          have hpw : Below wr.heap.size wr wc := HBQ.out.trans (hbw.mono HBQ.out.size)
          have HBX := Lib.hid (HBR.out.trans (hpw.mono HBR.out.size))
          have HDX := Lib.hid (ePc.below HDQ.out hbw)
          have HOX := Lib.hid (HO.out.below hpw)
          have HEX := Lib.hid (HCE.out.below hpw)
          have hkl : pq < wq.heap.size := HBK.out.lt
          have HBKX := Lib.hid (HBK.out.below hbw hkl)
          clear hbw hpw hkl
          go_upto_if 56 with fail
          cases bb with
          | false =>
            have HGS := Lib.hid (grp_false HBB.out.symm)
            have hp0 : wc.cell? ⟨pq, 0, none⟩ = some (.slice A1 y.1.length k1) := HBKX.out.cell 0
            have hp1 : wc.cell? ⟨pq, 1, none⟩ = some (.slice A2 y.2.length k2) := HBKX.out.cell 1
            have hp2 : wc.cell? ⟨pq, 2, none⟩ = some (.int .i64 1) := HBKX.out.cell 2
            go_wp2_with (at_builtin; go_loud (refine wpList_app1K T_part (W := wc.alloc (.cells #[.slice A1 y.1.length k1, .slice A2 y.2.length k2, .int .i64 1] tPt)) (c := [.slice A1 y.1.length k1, .slice A2 y.2.length k2, .int .i64 ((1 : Nat) : Int)]) (HOX.out.below (below1 wc _)) (by omega) (by have := HBX.out.size; simp; omega) rfl (by intro u hu; simp at hu; rcases hu with rfl | rfl | rfl <;> rfl) (lit_cells _ _ _ _ rfl) (by rfl) rfl (by rfl) (by rfl) ?_; intro v5 w5 hown5 hgr5; have HN5 := Lib.hid hown5; have HG5 := Lib.hid hgr5; clear hown5 hgr5))
            have hb4 : Below wc.heap.size wc (wc.alloc (.cells #[.slice A1 y.1.length k1, .slice A2 y.2.length k2, .int .i64 1] tPt)) := below1 wc _
            have HE5 := Lib.hid ((((HEX.out.below hb4).snoc (ePc.below HDX.out hb4))).kept HG5.out.1 (HOX.out.below hb4).bt (by decide) (by decide))
            have HB5 := Lib.hid (HG5.out.below (HBX.out.trans (hb4.mono HBX.out.size)) (Nat.le_trans HBX.out.size hb4.size) HOX.out.ge)
            clear hb4 hp0 hp1 hp2
            go_roundw
            case rel =>
              refine ⟨k + 1, _, by omega, by go_num, HN5.out, ?_, HB5.out⟩
              rw [HTS.out, HGS.out]
              exact HE5.out
            case measure => simp [intOf]; omega
          | true =>
            obtain ⟨m, r, n, hm, hr, hgs⟩ := grp_true HBB.out.symm
            have HGS := Lib.hid hgs
            have hnb := HGC.out (r, n) (List.mem_of_getElem? hr)
            obtain ⟨c3, hc3, hD3⟩ := HEX.out.at_ hr
            obtain ⟨u', s', rfl, hu0, hs0⟩ := hD3
            have hml : css3.length = m + 1 := by rw [HCL.out, hm]
            obtain ⟨go, cg, heo, -⟩ := HOX.out.cell (j := 0) hc3 rfl
            simp only [Value.slice.injEq, true_and] at heo
            obtain ⟨rfl, rfl⟩ := heo
            have hq2 : wc.cell? ⟨go, m * 3 + 2, none⟩ = some (.int .i64 (n : Nat)) := HOX.out.cellAt (j := 2) hc3 rfl
            obtain ⟨-, hfz, -, hst, hgt⟩ := HOX.out.storeAt (j := 2) hc3 (by omega) (.int .i64 ((n + 1 : Nat) : Int))
            have HST := Lib.hid hst
            have HGT := Lib.hid hgt
            have HE5 := Lib.hid ((HEX.out.set_ (i := m) (c := [u', s', .int .i64 ((n + 1 : Nat) : Int)]) (x := (r, n + 1)) ⟨_, _, rfl, hu0, hs0⟩).kept (v := .slice (some ⟨go, 0, none⟩) css3.length co) HGT.out HOX.out.bt (by decide) (by decide))
            have HB5 := Lib.hid (Grow.below (v := .slice (some ⟨go, 0, none⟩) css3.length co) (v' := .slice (some ⟨go, 0, none⟩) css3.length co) ⟨HGT.out, .inl rfl⟩ HBX.out HBX.out.size HOX.out.ge)
            have hnn : n ≤ 1000 := by simp at hnb; omega
            have hw1 : IntKind.i64.wrap ((css3.length : Int) - 1) = (m : Int) := by rw [IntWalk.i64_in _ (by omega)]; omega
            have hmi : (m : Int) < (css3.length : Int) := by omega
            have hbd : -9223372036854775808 ≤ (n : Int) + 1 ∧ (n : Int) + 1 ≤ 9223372036854775807 := by omega
            have hwk : IntKind.i64.wrap ((k : Int) + 1) = (k : Int) + 1 := IntWalk.i64_in _ (by omega)
            have hwk2 : wrap64 ((k : Int) + 1) = (k : Int) + 1 := w64_in' _ (by omega)
            have hw2 := w64_in' _ hbd
            have hw3 := IntWalk.i64_in _ hbd
            clear hbd hst hgt hu0 hs0 hc3 hr hgs hm hml hnb hnn
            go_wp2_with fail
            go_roundw
            case rel =>
              clear hw1 hw2 hw3 hwk hwk2
              refine ⟨k + 1, _, by omega, by go_num, HST.out, ?_, HB5.out⟩
              rw [HTS.out, HGS.out]
              exact HE5.out
            case measure => clear hw1 hw2 hw3 hwk hwk2; simp [intOf]; omega
      · have hkl : k = N := by omega
        have HTK := Lib.hid (show ys.take k = ys from List.take_of_length_le (by rw [HYL.out, hkl]; exact Nat.le_refl _))
        go_wp2_with fail
        go_ret
        refine ⟨_, rfl, ⟨css3, HO.out.mono HB2'.out, ?_⟩, HBW.out⟩
        have h := HCE.out
        rw [HTK.out, HYS.out] at h
        exact h
end Go.Proofs.Ytbjeibcombjfgaa

set_option linter.unusedVariables false
set_option linter.unusedSimpArgs false
namespace Go.Proofs.Ytbjeibcombjfgaa
open Go.RowKit

/-- the first place whose element does not come before p -/
def posG {α : Type} (lt : α → α → Bool) (p : α) : List (α × Nat) → Nat
  | [] => 0
  | x :: xs => bif lt x.1 p then posG lt p xs + 1 else 0
section
variable {α : Type} {lt : α → α → Bool} {p : α}
theorem posG_le : ∀ G : List (α × Nat), posG lt p G ≤ G.length
  | [] => Nat.le_refl _
  | x :: xs => by
    unfold posG
    cases lt x.1 p with
    | true => rw [cond_true, List.length_cons]; have := posG_le xs; omega
    | false => rw [cond_false]; exact Nat.zero_le _
theorem posG_lt : ∀ {G : List (α × Nat)} {k : Nat} {x : α × Nat}, k < posG lt p G → G[k]? = some x → lt x.1 p = true
  | [], k, x, h, _ => absurd h (Nat.not_lt_zero _)
  | y :: G, k, x, h, hx => by
    unfold posG at h
    cases h1 : lt y.1 p with
    | false => rw [h1, cond_false] at h; exact absurd h (Nat.not_lt_zero _)
    | true =>
      rw [h1, cond_true] at h
      cases k with
      | zero => rw [List.getElem?_cons_zero] at hx; injection hx with hx; rw [← hx]; exact h1
      | succ k => rw [List.getElem?_cons_succ] at hx; exact posG_lt (by omega) hx
theorem posG_at : ∀ {G : List (α × Nat)} {x : α × Nat}, G[posG lt p G]? = some x → lt x.1 p = false
  | [], x, h => by cases h
  | y :: G, x, h => by
    unfold posG at h
    cases h1 : lt y.1 p with
    | false => rw [h1, cond_false, List.getElem?_cons_zero] at h; injection h with h; rw [← h]; exact h1
    | true => rw [h1, cond_true, List.getElem?_cons_succ] at h; exact posG_at h
theorem ins1_new : ∀ {G : List (α × Nat)}, (∀ x, G[posG lt p G]? = some x → lt p x.1 = true) → ins1 lt p G = G.take (posG lt p G) ++ (p, 1) :: G.drop (posG lt p G)
  | [], _ => rfl
  | y :: G, h => by
    unfold ins1 posG at *
    cases h1 : lt y.1 p with
    | true =>
      simp only [h1, cond_true] at h ⊢
      rw [ins1_new fun x hx => h x (by rw [List.getElem?_cons_succ]; exact hx)]
      rfl
    | false =>
      simp only [h1, cond_false] at h ⊢
      have h2 := h y (by rw [List.getElem?_cons_zero])
      rw [h2]
      rfl
theorem ins1_old : ∀ {G : List (α × Nat)} {x : α} {n : Nat}, G[posG lt p G]? = some (x, n) → lt p x = false → ins1 lt p G = G.set (posG lt p G) (x, n + 1)
  | [], x, n, h, _ => by cases h
  | y :: G, x, n, h, h0 => by
    unfold ins1 posG at *
    cases h1 : lt y.1 p with
    | true =>
      simp only [h1, cond_true, List.getElem?_cons_succ] at h ⊢
      rw [ins1_old h h0]
      rfl
    | false =>
      simp only [h1, cond_false, List.getElem?_cons_zero] at h ⊢
      injection h with h
      subst h
      rw [h0]
      rfl
theorem ins1_len (G : List (α × Nat)) : (ins1 lt p G).length ≤ G.length + 1 := by
  induction G with
  | nil => exact Nat.le_refl _
  | cons y G ih =>
    unfold ins1
    cases lt y.1 p with
    | true => rw [cond_true, List.length_cons, List.length_cons]; omega
    | false =>
      rw [cond_false]
      cases lt p y.1 with
      | true => rw [cond_true]; simp
      | false => rw [cond_false]; simp
theorem insF_snoc (ps : List α) : ∀ G : List (α × Nat), insF lt G (ps ++ [p]) = ins1 lt p (insF lt G ps) := by
  induction ps with
  | nil => intro G; rfl
  | cons q ps ih => intro G; exact ih _
theorem insF_len (ps : List α) : ∀ G : List (α × Nat), (insF lt G ps).length ≤ G.length + ps.length := by
  induction ps with
  | nil => intro G; exact Nat.le_refl _
  | cons q ps ih =>
    intro G
    have h1 := ih (ins1 lt q G)
    have h2 := ins1_len (lt := lt) (p := q) G
    show (insF lt (ins1 lt q G) ps).length ≤ _
    rw [List.length_cons]; omega
theorem ins1_cnt {b : Nat} : ∀ {G : List (α × Nat)}, (∀ x ∈ G, x.2 ≤ b) → ∀ x ∈ ins1 lt p G, x.2 ≤ b + 1
  | [], _, x, hx => by
    unfold ins1 at hx
    rw [List.mem_singleton] at hx
    rw [hx]; exact Nat.succ_le_succ (Nat.zero_le _)
  | y :: G, h, x, hx => by
    unfold ins1 at hx
    cases h1 : lt y.1 p with
    | true =>
      rw [h1, cond_true] at hx
      rcases List.mem_cons.1 hx with rfl | hx
      · exact Nat.le_succ_of_le (h _ List.mem_cons_self)
      · exact ins1_cnt (fun z hz => h z (List.mem_cons_of_mem _ hz)) x hx
    | false =>
      rw [h1, cond_false] at hx
      cases h2 : lt p y.1 with
      | true =>
        rw [h2, cond_true] at hx
        rcases List.mem_cons.1 hx with rfl | hx
        · exact Nat.succ_le_succ (Nat.zero_le _)
        · exact Nat.le_succ_of_le (h _ hx)
      | false =>
        rw [h2, cond_false] at hx
        rcases List.mem_cons.1 hx with rfl | hx
        · exact Nat.succ_le_succ (h _ List.mem_cons_self)
        · exact Nat.le_succ_of_le (h _ (List.mem_cons_of_mem _ hx))
theorem insF_cnt (ps : List α) : ∀ (G : List (α × Nat)) (b : Nat), (∀ x ∈ G, x.2 ≤ b) → ∀ x ∈ insF lt G ps, x.2 ≤ b + ps.length := by
  induction ps with
  | nil => intro G b h x hx; exact h x hx
  | cons q ps ih =>
    intro G b h x hx
    have := ih (ins1 lt q G) (b + 1) (ins1_cnt h) x hx
    rw [List.length_cons]; omega
end
section
variable {α : Type} {E : Elt α} {w : World} {B : Nat} {css ds : List (List Value)} {xs ys : List α}
theorem Elts.take_ (h : Elts E w B css xs) (i : Nat) : Elts E w B (css.take i) (xs.take i) := by
  refine ⟨by rw [List.length_take, List.length_take, h.1], fun j c x hc hx => ?_⟩
  rw [List.getElem?_take] at hc hx
  by_cases hj : j < i
  · rw [if_pos hj] at hc hx; exact h.2 j c x hc hx
  · rw [if_neg hj] at hc; cases hc
theorem Elts.drop_ (h : Elts E w B css xs) (i : Nat) : Elts E w B (css.drop i) (xs.drop i) := by
  refine ⟨by rw [List.length_drop, List.length_drop, h.1], fun j c x hc hx => ?_⟩
  rw [List.getElem?_drop] at hc hx
  exact h.2 _ c x hc hx
theorem Elts.append_ (h : Elts E w B css xs) (h' : Elts E w B ds ys) : Elts E w B (css ++ ds) (xs ++ ys) := by
  refine ⟨by rw [List.length_append, List.length_append, h.1, h'.1], fun j c x hc hx => ?_⟩
  by_cases hj : j < css.length
  · rw [List.getElem?_append_left hj] at hc
    rw [List.getElem?_append_left (by rw [← h.1]; exact hj)] at hx
    exact h.2 j c x hc hx
  · rw [List.getElem?_append_right (by omega)] at hc
    rw [List.getElem?_append_right (by rw [← h.1]; omega), ← h.1] at hx
    exact h'.2 _ c x hc hx
theorem Elts.cons_ {c : List Value} {x : α} (h : Elts E w B css xs) (hx : E.D w B c x) : Elts E w B (c :: css) (x :: xs) := by
  refine ⟨by rw [List.length_cons, List.length_cons, h.1], fun j c' x' hc' hx' => ?_⟩
  cases j with
  | zero => rw [List.getElem?_cons_zero] at hc' hx'; injection hc' with hc'; injection hx' with hx'; subst hc'; subst hx'; exact hx
  | succ j => rw [List.getElem?_cons_succ] at hc' hx'; exact h.2 j c' x' hc' hx'
theorem Elts.ones (h : Elts E w B css xs) : ∀ d ∈ css, ∀ u ∈ d, u.oneCell' = true := by
  intro d hd u hu
  obtain ⟨i, hi, rfl⟩ := List.getElem_of_mem hd
  exact E.one (h.2 i _ _ (List.getElem?_eq_getElem hi) (List.getElem?_eq_getElem (by rw [← h.1]; exact hi))) u hu
end
end Go.Proofs.Ytbjeibcombjfgaa

set_option linter.unusedVariables false
set_option linter.unusedSimpArgs false
namespace Go.Proofs.Ytbjeibcombjfgaa
open Go.RowKit

theorem ret_bl {a b : Bool} (h : a = b) : Ending.returned (.bool a) = Ending.returned (.bool b) := by rw [h]
/-- wr came from w3 by appends to a list that first lay in block g -/
structure Apd (w3 wr : World) (g : Nat) (o : Value) : Prop where
  gr : w3.grownBy wr (some g)
  ob : ∀ b, o.ownBlock = some b → b = g ∨ w3.heap.size ≤ b
section
variable {w3 wr w5 w6 : World} {g : Nat} {o v1 : Value}
theorem Apd.refl (h : o.ownBlock = some g) : Apd w3 w3 g o := ⟨World.grownBy.refl _ _, fun b hb => .inl (by rw [h] at hb; injection hb with hb; exact hb.symm)⟩
theorem Apd.step (h : Apd w3 wr g o) (hb : Below wr.heap.size wr w5) : Apd w3 w5 g o :=
  ⟨⟨hb.os.trans h.gr.os, hb.tape.trans h.gr.tape, hb.output.trans h.gr.output, Nat.le_trans h.gr.size hb.size, fun k hk hne => (hb.block k (Nat.lt_of_lt_of_le hk h.gr.size)).trans (h.gr.block k hk hne)⟩, h.ob⟩
theorem Apd.app (h : Apd w3 wr g o) (hg : Grow wr w6 o v1) : Apd w3 w6 g v1 := by
  refine ⟨⟨hg.1.os.trans h.gr.os, hg.1.tape.trans h.gr.tape, hg.1.output.trans h.gr.output, Nat.le_trans h.gr.size hg.1.size, fun k hk hne => (hg.1.block k (Nat.lt_of_lt_of_le hk h.gr.size) (fun e => ?_)).trans (h.gr.block k hk hne)⟩, fun b hb => ?_⟩
  · rcases h.ob k e.symm with e2 | e2
    · exact hne (by rw [e2])
    · omega
  · rcases hg.2 with e | ⟨b', e, hle⟩
    · rw [e] at hb; exact h.ob b hb
    · rw [e] at hb
      injection hb with hb
      subst hb
      exact .inr (Nat.le_trans h.gr.size hle)
theorem Apd.cell (h : Apd w3 wr g o) {ad : Addr} {v : Value} (hc : w3.cell? ad = some v) (hne : ad.block ≠ g) : wr.cell? ad = some v := by
  exact h.gr.cell hc (fun e => hne (by injection e))
theorem Apd.ownBlk (h : Apd w3 wr g o) {B : Nat} {e : TypeId} {u : Value} {vs : List Value} (hO : Own w3 B e u vs) (hlt : g < B) : Own wr B e u vs := hO.kept h.gr (by
  cases hb : u.ownBlock with
  | none => exact .inl rfl
  | some b => exact .inr fun e => by injection e with e; have := hO.ge b hb; omega)
theorem Apd.ints (h : Apd w3 wr g o) {B : Nat} {e : TypeId} {u : Value} {zs : List Int} (hO : OwnInts w3 B e u zs) (hlt : g < B) : OwnInts wr B e u zs := ⟨h.ownBlk hO.1 hlt, hO.2⟩
end
end Go.Proofs.Ytbjeibcombjfgaa

