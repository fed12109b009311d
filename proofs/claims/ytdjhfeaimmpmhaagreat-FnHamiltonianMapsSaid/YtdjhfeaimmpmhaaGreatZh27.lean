/- Walk: l04Put of the reference. | Walk: l04Roots of the reference. | Walk: l12Free of the reference. | Walks: allConditions of the program; l12All of the reference. (printed by allgen.py) -/
import Derived.Test.YtdjhfeaimmpmhaaGreatZh22
import Derived.Deep.CutRange
import Derived.Deep.CutBlock
import Derived.Deep.DeepCutAuto
import Derived.Test.YtdjhfeaimmpmhaaGreatZh26
import Derived.Test.YtdjhfeaimmpmhaaGreatZh13
import Derived.Test.YtdjhfeaimmpmhaaGreatZh19
set_option maxRecDepth 100000
set_option linter.unusedVariables false
set_option linter.unusedSimpArgs false
namespace Go.Proofs.YtdjhfeaimmpmhaaGreat
open Go.RowKit

set_option maxHeartbeats 8000000 in
theorem s_l04Put (w : World) (B : Nat) (v tv : Value) (xs : List CT) (t : List Nat) (hx : CtR w B v xs) (hB : B ≤ w.heap.size) (ht : Ints w tv (up t)) (hok : okC xs = true) (hl : xs.length ≤ 100) (htk : okL t = true) :
    Calls Tryz.prog 173 #[v, tv, .int .i64 1] w fun e w' => ∃ x, e = .returned x ∧ CtR w' B x (putL xs t) ∧ Below w.heap.size w w' := by
  have HX := Lib.hid hx
  have HT := Lib.hid ht
  have HOK := Lib.hid (okC_of hok)
  have HTK := Lib.hid (okL_of htk)
  obtain ⟨A, c, rfl, l1, l2⟩ := hx.open_
  obtain ⟨At, ct, rfl, m1, m2, -⟩ := ht.open_
  rw [up_len] at m1 HT ⊢
  have hPl := putA_le t xs
  have HPB := Lib.hid (fun k x => @putA_bef t xs k x)
  have HPA := Lib.hid (fun x => @putA_at t xs x)
  have HPL := Lib.hid (show putL xs t = putF (putA t xs) t 0 xs ++ (bif Nat.beq (putA t xs) xs.length then [(t, 1)] else []) from rfl)
  generalize putA t xs = P at hPl HPB HPA HPL
  clear hx ht hok htk
  go_enter Tryz.func173, Tryz.ntmps173
  go_upto_block 0 with fail
  go_cut [7] (fun x wx => x = .int .i64 P ∧ ∃ d, wx = w.drewN d)
  case first =>
    go_wp2_with fail
    go_loopw [7] (fun x wr => ∃ k d : Nat, k ≤ P ∧ x = .int .i64 k ∧ wr = w.drewN d) (fun x _ => xs.length - (intOf x).toNat)
    case atStart => exact ⟨0, 0, Nat.zero_le _, rfl, rfl⟩
    case round =>
      obtain ⟨k, d, hk, rfl, rfl⟩ := hrel
      by_cases hlt : k < xs.length
      · obtain ⟨⟨t1, n1⟩, hx1⟩ : ∃ x, xs[k]? = some x := ⟨_, List.getElem?_eq_getElem hlt⟩
        obtain ⟨g, cap, A1, c1, he, hc0, -, ho1⟩ := HX.out.at_ hx1
        simp only [Value.slice.injEq, true_and] at he
        obtain ⟨rfl, rfl⟩ := he
        have hc0' : (w.drewN d).cell? ⟨g, k * 2, none⟩ = some (.slice A1 t1.length c1) := hc0
        have hki : (k : Int) < (xs.length : Int) := by omega
        have H1 := Lib.hid ho1.ints
        have hb1 : k < P → befN t1 t = true := fun h => HPB.out k (t1, n1) h hx1
        have hb2 : k = P → befN t1 t = false := fun h => HPA.out (t1, n1) (by rw [← h]; exact hx1)
        clear hc0 ho1 hx1
        by_cases hkP : k < P
        · have HBF := Lib.hid (hb1 hkP)
          clear hb1 hb2
          go_wp2_with (go_at_call 206; refine (s_l03Before _ _ _ t1 t (H1.out.drewN d) (HT.out.drewN d)).mono ?_; rintro e w1 ⟨rfl, n, rfl⟩; rw [HBF.out])
          go_roundw
          case rel => exact ⟨k + 1, _, by omega, by go_num, by first | rfl | exact World.drewN_drewN ..⟩
          case measure => simp [intOf]; omega
        · have hkP' : k = P := by omega
          have HBF := Lib.hid (hb2 hkP')
          clear hb1 hb2 hPl
          subst hkP'
          go_wp2_with (go_at_call 206; refine (s_l03Before _ _ _ t1 t (H1.out.drewN d) (HT.out.drewN d)).mono ?_; rintro e w1 ⟨rfl, n, rfl⟩; rw [HBF.out])
          go_meet
          exact ⟨rfl, _, by first | rfl | exact World.drewN_drewN ..⟩
      · have hkl : k = xs.length := by omega
        have hkP' : k = P := by omega
        go_wp2_with fail
        go_meet
        exact ⟨by rw [hkP'], d, rfl⟩
  case rest =>
    obtain ⟨rfl, d, rfl⟩ := hcut
    have OL := Lib.hid (show OwnK ((w.drewN d).alloc (.cells #[] tC)) w.heap.size tC 2 (.slice (some ⟨w.heap.size, 0, none⟩) 0 0) [] from OwnK.lit (w.drewN d) tC 2 [] (fun c hc => by simp at hc) (by simp [maxLen]) #[] rfl)
    go_wp2_with fail
    go_loopw [8, 9] (fun o x wr => ∃ (i : Nat) (css : List (List Value)), i ≤ xs.length ∧ x = .int .i64 i ∧ OwnK wr w.heap.size tC 2 o css ∧ CtE wr B css (putF P t 0 (xs.take i)) ∧ Below w.heap.size w wr) (fun _ x _ => xs.length - (intOf x).toNat)
    case atStart => exact ⟨0, [], Nat.zero_le _, rfl, OL.out, CtE.nil _ _, (below_drewN (Below.refl w.heap.size w) d).alloc (Nat.le_refl _) _⟩
    case round =>
      obtain ⟨i, css, hi, rfl, ho, hce, hb⟩ := hrel
      clear OL
      have HO := Lib.hid ho
      have HCE := Lib.hid hce
      have HB := Lib.hid hb
      obtain ⟨Ao, co, rfl, -, -⟩ := ho.open_
      clear ho hce hb
      by_cases hlt : i < xs.length
      · obtain ⟨⟨t1, n1⟩, hx1⟩ : ∃ x, xs[i]? = some x := ⟨_, List.getElem?_eq_getElem hlt⟩
        have hii : (i : Int) < (xs.length : Int) := by omega
        have HTS := Lib.hid (show putF P t 0 (xs.take (i + 1)) = putF P t 0 (xs.take i) ++ putS P t i (t1, n1) from by
          rw [List.take_add_one, hx1]
          show putF P t 0 (xs.take i ++ [(t1, n1)]) = _
          rw [putF_snoc, List.length_take, Nat.min_eq_left hi, Nat.zero_add])
        have HLN := Lib.hid (show css.length ≤ 200 from by rw [HCE.out.1]; have := putF_len P t (xs.take i) 0; rw [List.length_take] at this; omega)
        have HT1 := Lib.hid (HT.out.below HB.out)
        obtain ⟨g, cap, A1, c1, he, hk0, hk1, ho1⟩ := HX.out.at_ hx1
        simp only [Value.slice.injEq, true_and] at he
        obtain ⟨rfl, rfl⟩ := he
        have K0 := Lib.hid hk0
        have K1 := Lib.hid hk1
        have hc0 := keepCell HB.out hk0
        have HO1 := Lib.hid ho1
        have H1 := Lib.hid (ho1.below HB.out)
        clear hk0 hk1
        have HN1 := Lib.hid (HOK.out (t1, n1) (List.mem_of_getElem? hx1)).2
        have HEQ := Lib.hid (show eqN t1 t = decide (up t1 = up t) from by
          by_cases e : t1 = t
          · rw [eqN_iff.2 e, e]; exact (decide_eq_true rfl).symm
          · have h1 : eqN t1 t = false := by
              cases hh : eqN t1 t with
              | true => exact absurd (eqN_iff.1 hh) e
              | false => rfl
            rw [h1]; exact (decide_eq_false fun h => e (up_inj h)).symm)
        have HSM := Lib.hid (fun W => s_l01Same W (.slice A1 t1.length c1) (.slice At t.length ct) (up t1) (up t))
        generalize hdd : decide (up t1 = up t) = dd at HEQ HSM
        clear hdd ho1
        go_upto_region 8 with fail
        go_cut [45] from 27 to 79 (fun x wx => ∃ n, x = .bool (Nat.beq i P && !dd) ∧ wx = wr.drewN n)
        case first =>
          by_cases hiP : i = P
          · have HBQ := Lib.hid (show (Nat.beq i P && !dd) = !dd from by rw [hiP, Nat.beq_refl]; rfl)
            have hd : ((i : Int) == (P : Int)) = true := by simp [hiP]
            clear hiP
            go_wp2_with (go_at_call 135; refine (HSM.out _ H1.out.ints HT1.out).mono ?_; rintro e w1 ⟨rfl, n, rfl⟩)
            go_meet
            exact ⟨n, by rw [HBQ.out], rfl⟩
          · have HBQ := Lib.hid (show (Nat.beq i P && !dd) = false from by
              cases h : Nat.beq i P with
              | true => exact absurd (Nat.eq_of_beq_eq_true h) hiP
              | false => rfl)
            have hd : ((i : Int) == (P : Int)) = false := by simp; omega
            clear hiP
            go_wp2_with fail
            go_meet
            exact ⟨0, by rw [HBQ.out], rfl⟩
        case rest =>
          obtain ⟨n, rfl, rfl⟩ := hcut
          have HPS := Lib.hid (show putS P t i (t1, n1) = (bif Nat.beq i P && !dd then [(t, 1)] else []) ++ [(t1, bif dd then n1 + 1 else n1)] from by rw [← HEQ.out]; rfl)
          generalize (Nat.beq i P && !dd) = bb at HPS ⊢
          go_upto_if 45 with fail
          go_cut [8] from 27 to 79 (fun o wx => ∃ css', OwnK wx w.heap.size tC 2 o css' ∧ CtE wx B css' (putF P t 0 (xs.take i) ++ (bif bb then [(t, 1)] else [])) ∧ Below w.heap.size w wx ∧ css'.length ≤ 201)
          case first =>
            cases bb with
            | true =>
              go_wp2_with (first
                | (go_at_call 158; refine (s_l01OwnT _ _ (up t) (HT1.out.drewN n) (by rw [up_len]; have := HTK.out.1; omega)).mono ?_; rintro e w3 ⟨x3, rfl, ho3, hb3⟩; obtain ⟨A5, c5, he5, -, -, -⟩ := ho3.ints.open_; rw [up_len] at he5; subst he5; have HO3 := Lib.hid ho3; have HB3 := Lib.hid (show Below wr.heap.size wr w3 from (below_drewN (Below.refl wr.heap.size wr) n).trans hb3); clear hb3 ho3)
                | (at_builtin; go_loud (refine wpList_app1K T_cnt (W := w3.alloc (.cells #[.slice A5 t.length c5, .int .i64 1] tC)) (c := [.slice A5 t.length c5, .int .i64 ((1 : Nat) : Int)]) ((HO.out.below HB3.out).below (below1 w3 _)) (by have := HLN.out; omega) (by have := HB.out.size; have := HB3.out.size; simp; omega) rfl (by intro u hu; simp at hu; rcases hu with rfl | rfl <;> rfl) (lit_cells _ _ _ _ rfl) (by rfl) rfl (by rfl) (by rfl) ?_; intro v5 w5 hown5 hgr5; have HN5 := Lib.hid hown5; have HG5 := Lib.hid hgr5; clear hown5 hgr5)))
              go_meet
              have hb4 : Below wr.heap.size wr (w3.alloc (.cells #[.slice A5 t.length c5, .int .i64 1] tC)) := HB3.out.trans ((below1 w3 _).mono HB3.out.size)
              have hB4 : B ≤ wr.heap.size := Nat.le_trans hB HB.out.size
              refine ⟨_, HN5.out, ?_, HG5.out.below (HB.out.trans (hb4.mono HB.out.size)) (Nat.le_trans HB.out.size hb4.size) HO.out.ge, by simp; have := HLN.out; omega⟩
              exact (((HCE.out.below hb4).snoc ((HO3.out.below (below1 w3 _)).mono hB4)).kept HG5.out.1 (HO.out.below hb4).bt (by decide))
            | false =>
              go_wp2_with fail
              go_meet
              exact ⟨css, HO.out.drewN n, by simpa using HCE.out.below (below_drewN (Below.refl wr.heap.size wr) n), below_drewN HB.out n, by have := HLN.out; omega⟩
          case rest =>
            obtain ⟨css', ho', hce', hb', hl'⟩ := hcut
            clear hc0 HO HCE HB H1 HT1
            have HO := Lib.hid ho'
            have HCE := Lib.hid hce'
            have HB := Lib.hid hb'
            obtain ⟨A2, c2, rfl, -, -⟩ := ho'.open_
            have HT1 := Lib.hid (HT.out.below HB.out)
            have H1 := Lib.hid (HO1.out.below HB.out)
            clear ho' hce' hb'
            obtain ⟨wp, hwp⟩ : ∃ wp : World, wp = wc := ⟨_, rfl⟩
            rw [← hwp] at HO HCE HB HT1 H1 ⊢
            clear hwp
            go_upto_region 10 with fail
            go_cut [10] from 27 to 79 (fun x wx => ∃ q, x = .pointer (some ⟨q, 0, none⟩) ∧ wp.heap.size ≤ q ∧ Blk wx q tC #[.slice A1 t1.length c1, .int .i64 (n1 : Nat)] ∧ Below wp.heap.size wp wx)
            case first =>
              have hc0 := keepCell HB.out K0.out
              have hc1 := keepCell HB.out K1.out
              have hc0' : ∀ o, (wp.alloc o).cell? ⟨g, i * 2, none⟩ = some (.slice A1 t1.length c1) := fun o => keepCell ((Below.refl wp.heap.size wp).alloc (Nat.le_refl _) _) hc0
              have hc1' : ∀ o, (wp.alloc o).cell? ⟨g, i * 2 + 1, none⟩ = some (.int .i64 (n1 : Nat)) := fun o => keepCell ((Below.refl wp.heap.size wp).alloc (Nat.le_refl _) _) hc1
              go_region_law fail
              all_goals (go_wp2_with fail)
              all_goals (go_meet; exact ⟨_, rfl, Nat.le_refl _, Blk.new wp _ _, by first | exact ((Below.refl wp.heap.size wp).alloc (Nat.le_refl _) _).drew | exact (Below.refl wp.heap.size wp).drew.alloc (Nat.le_refl _) _⟩)
            case rest =>
              obtain ⟨q, rfl, hq, hblk, hb10⟩ := hcut
              have HB1 := Lib.hid (HB.out.trans (hb10.mono HB.out.size))
              have HQ := Lib.hid (show w.heap.size ≤ q ∧ wp.heap.size ≤ q from ⟨Nat.le_trans HB.out.size hq, hq⟩)
              have HBK := Lib.hid hblk
              have HT2 := Lib.hid (HT.out.below HB1.out)
              have H2 := Lib.hid (HO1.out.below HB1.out)
              have HO2 := Lib.hid (HO.out.below hb10)
              have HCE2 := Lib.hid (HCE.out.below hb10)
              have hc0 := keepCell HB1.out K0.out
              have HP10 := Lib.hid hb10
              clear hb10 hq hblk
              go_upto_if 70 with (go_at_call 135; refine (HSM.out _ H2.out.ints HT2.out).mono ?_; rintro e w1 ⟨rfl, n, rfl⟩)
              clear hc0
              obtain ⟨wq, hwq⟩ : ∃ wq : World, wq = wc.drewN n := ⟨_, rfl⟩
              have HBKq := Lib.hid (show Blk wq q tC #[.slice A1 t1.length c1, .int .i64 (n1 : Nat)] from by rw [hwq]; exact HBK.out)
              have HB1q := Lib.hid (show Below w.heap.size w wq from by rw [hwq]; exact below_drewN HB1.out n)
              have HBP := Lib.hid (show Below wp.heap.size wp wq from by rw [hwq]; exact below_drewN HP10.out n)
              rw [← hwq]
              clear hwq HBK HB1 HT2 H2 HO2 HCE2 HP10
              go_cut [10] from 27 to 79 (fun x wx => x = .pointer (some ⟨q, 0, none⟩) ∧ Blk wx q tC #[.slice A1 t1.length c1, .int .i64 (bif dd then n1 + 1 else n1 : Nat)] ∧ Below wp.heap.size wp wx)
              case first =>
                cases dd with
                | true =>
                  have hq1 : wq.cell? ⟨q, 1, none⟩ = some (.int .i64 (n1 : Nat)) := HBKq.out.cell 1
                  have hqf : wq.frozen? ⟨q, 1, none⟩ = false := HBKq.out.frozen 1
                  have hbd : -9223372036854775808 ≤ (n1 : Int) + 1 ∧ (n1 : Int) + 1 ≤ 9223372036854775807 := by have h : n1 ≤ 100 := HN1.out; omega
                  have hw1 := w64_in' _ hbd
                  have hw2 := IntWalk.i64_in _ hbd
                  clear hbd
                  go_wp2_with fail
                  go_meet
                  exact ⟨rfl, HBKq.out.set_ 1 _, HBP.out.setCell (p := ⟨q, 1, none⟩) HQ.out.2 _⟩
                | false =>
                  go_wp2_with fail
                  go_meet
                  exact ⟨rfl, HBKq.out, HBP.out⟩
              case rest =>
                obtain ⟨rfl, hblk, hbp⟩ := hcut
                clear HBKq HB1q HBP
                have HBN := Lib.hid (show (bif dd then n1 + 1 else n1) = (bif dd then n1 + 1 else n1) from rfl)
                have hm : ∃ m : Nat, m = (bif dd then n1 + 1 else n1) := ⟨_, rfl⟩
                obtain ⟨m, hm⟩ := hm
                rw [← hm] at hblk HPS
                clear hm HBN
                have hq0 : wc.cell? ⟨q, 0, none⟩ = some (.slice A1 t1.length c1) := hblk.cell 0
                have hq1 : wc.cell? ⟨q, 1, none⟩ = some (.int .i64 (m : Nat)) := hblk.cell 1
                have HB2 := Lib.hid (HB.out.trans (hbp.mono HB.out.size))
                have HBP := Lib.hid hbp
                clear hblk hbp
                go_wp2_with (at_builtin; go_loud (refine wpList_app1K T_cnt (W := wc.alloc (.cells #[.slice A1 t1.length c1, .int .i64 (m : Nat)] tC)) (c := [.slice A1 t1.length c1, .int .i64 (m : Nat)]) ((HO.out.below HBP.out).below (below1 wc _)) (by omega) (by have := HB2.out.size; simp; omega) rfl (by intro u hu; simp at hu; rcases hu with rfl | rfl <;> rfl) (lit_cells _ _ _ _ rfl) (by rfl) rfl (by rfl) (by rfl) ?_; intro v5 w5 hown5 hgr5; have HN5 := Lib.hid hown5; have HG5 := Lib.hid hgr5; clear hown5 hgr5))
                have hb4 : Below wp.heap.size wp (wc.alloc (.cells #[.slice A1 t1.length c1, .int .i64 (m : Nat)] tC)) := HBP.out.trans ((below1 wc _).mono HBP.out.size)
                have HR := Lib.hid (show i + 1 ≤ xs.length ∧ CtE w5 B (css' ++ [[.slice A1 t1.length c1, .int .i64 (m : Nat)]]) (putF P t 0 (xs.take (i + 1))) ∧ Below w.heap.size w w5 from by
                  refine ⟨hlt, ?_, HG5.out.below (HB.out.trans (hb4.mono HB.out.size)) (Nat.le_trans HB.out.size hb4.size) HO.out.ge⟩
                  rw [HTS.out, HPS.out, ← List.append_assoc]
                  exact (((HCE.out.below hb4).snoc (HO1.out.below (HB.out.trans (hb4.mono HB.out.size)))).kept HG5.out.1 (HO.out.below hb4).bt (by decide))
                )
                clear hb4
                go_roundw
                case rel =>
                  refine ⟨i + 1, _, HR.out.1, by go_num, HN5.out, HR.out.2.1, HR.out.2.2⟩
                case measure => simp [intOf]; omega
      · have hil : i = xs.length := by omega
        have HTS := Lib.hid (show putF P t 0 (xs.take i) = putF P t 0 xs from by rw [hil, List.take_length])
        have HT1 := Lib.hid (HT.out.below HB.out)
        have HLN := Lib.hid (show css.length ≤ 200 from by rw [HCE.out.1]; have := putF_len P t (xs.take i) 0; rw [List.length_take] at this; omega)
        by_cases hPe : P = xs.length
        · have HF := Lib.hid (show putL xs t = putF P t 0 (xs.take i) ++ [(t, 1)] from by rw [HPL.out, HTS.out, hPe, Nat.beq_refl]; rfl)
          have hd : ((P : Int) == (xs.length : Int)) = true := by simp [hPe]
          clear hPe HTS
          go_wp2_with (first
            | (go_at_call 158; refine (s_l01OwnT _ _ (up t) HT1.out (by rw [up_len]; have := HTK.out.1; omega)).mono ?_; rintro e w3 ⟨x3, rfl, ho3, hb3⟩; obtain ⟨A5, c5, he5, -, -, -⟩ := ho3.ints.open_; rw [up_len] at he5; subst he5; have HO3 := Lib.hid ho3; have HB3 := Lib.hid hb3; clear hb3 ho3)
            | (at_builtin; go_loud (refine wpList_app1K T_cnt (W := w3.alloc (.cells #[.slice A5 t.length c5, .int .i64 1] tC)) (c := [.slice A5 t.length c5, .int .i64 ((1 : Nat) : Int)]) ((HO.out.below HB3.out).below (below1 w3 _)) (by have := HLN.out; omega) (by have := HB.out.size; have := HB3.out.size; simp; omega) rfl (by intro u hu; simp at hu; rcases hu with rfl | rfl <;> rfl) (lit_cells _ _ _ _ rfl) (by rfl) rfl (by rfl) (by rfl) ?_; intro v5 w5 hown5 hgr5; have HN5 := Lib.hid hown5; have HG5 := Lib.hid hgr5; clear hown5 hgr5)))
          go_ret
          have hb4 : Below wr.heap.size wr (w3.alloc (.cells #[.slice A5 t.length c5, .int .i64 1] tC)) := HB3.out.trans ((below1 w3 _).mono HB3.out.size)
          have hB4 : B ≤ wr.heap.size := Nat.le_trans hB HB.out.size
          refine ⟨_, rfl, ⟨_, HN5.out.mono hB, ?_⟩, HG5.out.below (HB.out.trans (hb4.mono HB.out.size)) (Nat.le_trans HB.out.size hb4.size) HO.out.ge⟩
          rw [HF.out]
          exact (((HCE.out.below hb4).snoc ((HO3.out.below (below1 w3 _)).mono hB4)).kept HG5.out.1 (HO.out.below hb4).bt (by decide))
        · have HF := Lib.hid (show putL xs t = putF P t 0 (xs.take i) from by
            have hb : Nat.beq P xs.length = false := by
              cases h : Nat.beq P xs.length with
              | true => exact absurd (Nat.eq_of_beq_eq_true h) hPe
              | false => rfl
            rw [HPL.out, hb, HTS.out]; simp)
          have hd : ((P : Int) == (xs.length : Int)) = false := by simp; omega
          clear hPe HTS
          go_wp2_with fail
          go_ret
          exact ⟨_, rfl, ⟨_, HO.out.mono hB, by rw [HF.out]; exact HCE.out⟩, HB.out⟩
end Go.Proofs.YtdjhfeaimmpmhaaGreat

set_option maxRecDepth 100000
set_option linter.unusedVariables false
set_option linter.unusedSimpArgs false
namespace Go.Proofs.YtdjhfeaimmpmhaaGreat
open Go.RowKit

set_option maxHeartbeats 4000000 in
theorem s_l04Roots (w : World) (v : Value) (t : List Nat) (ys : List CT) (ha : Ints w v (up t)) (h8 : t.length ≤ 100) (hr : rooV t t.length = some ys) :
    Calls Tryz.prog 122 #[v] w fun e w' => ∃ x, e = .returned x ∧ CtR w' w.heap.size x ys ∧ Below w.heap.size w w' := by
  obtain ⟨A, c, rfl, l1, l2, -⟩ := ha.open_
  rw [up_len] at l1 ha ⊢
  have HA := Lib.hid ha
  have HR := Lib.hid hr
  have HS := Lib.hid (fun n (hn : n ≤ t.length) => rooV_some (t := t) (m := t.length - n) (n := n) (ys := ys) (by rw [show n + (t.length - n) = t.length by omega]; exact hr))
  have OL := Lib.hid (show CtR (w.alloc (.cells #[] tC)) w.heap.size (.slice (some ⟨w.heap.size, 0, none⟩) 0 0) [] from ⟨[], OwnK.lit w tC 2 [] (fun c hc => by simp at hc) (by simp [maxLen]) #[] rfl, CtE.nil _ _⟩)
  clear ha hr
  go_enter Tryz.func122, Tryz.ntmps122
  go_wp2_with fail
  go_loopw [3, 4] (fun o x wr => ∃ (n : Nat) (xs : List CT), n ≤ t.length ∧ x = .int .i64 n ∧ Hid (rooV t n = some xs) ∧ CtR wr w.heap.size o xs ∧ Below w.heap.size w wr) (fun _ x _ => t.length - (intOf x).toNat)
  case atStart => exact ⟨0, [], Nat.zero_le _, rfl, rfl, OL.out, below1 _ _⟩
  case round =>
    obtain ⟨n, xs, hn, rfl, HX, ho, hb⟩ := hrel
    clear OL
    have HO := Lib.hid ho
    have HB := Lib.hid hb
    obtain ⟨Ao, co, rfl, -, -⟩ := ho.open_
    clear ho hb
    by_cases hlt : n < t.length
    · obtain ⟨zs, hzs⟩ := HS.out (n + 1) (by omega)
      obtain ⟨xs', q, h1, h2, h3, h4, h5, h6⟩ := rooV_succ hzs
      rw [HX.out] at h1
      injection h1 with h1
      subst h1
      have HZ := Lib.hid (show rooV t (n + 1) = some (putL xs q) from by rw [hzs, h6])
      have HQ := Lib.hid h2
      have HOK := Lib.hid (show okC xs = true ∧ xs.length ≤ 100 ∧ okL q = true from ⟨h3, h4, h5⟩)
      have hni : (n : Int) < (t.length : Int) := by omega
      clear hzs h2 h3 h4 h5 h6
      go_wp2_with (first
        | (go_at_call 174; refine (s_l04Turn 9 _ _ t q n (HA.out.below HB.out) HQ.out).mono ?_; rintro e w1 ⟨x1, rfl, ho1, hb1⟩; have HO1 := Lib.hid ho1; have HB1 := Lib.hid hb1; clear ho1 hb1)
        | (go_at_call 173; go_loud (refine (s_l04Put _ w.heap.size _ _ xs q (HO.out.below HB1.out) (Nat.le_trans HB.out.size HB1.out.size) HO1.out.ints HOK.out.1 HOK.out.2.1 HOK.out.2.2).mono ?_; rintro e w2 ⟨x2, rfl, ho2, hb2⟩; have HO2 := Lib.hid ho2; have HB2 := Lib.hid ((HB.out.trans (HB1.out.mono HB.out.size)).trans (hb2.mono (Nat.le_trans HB.out.size HB1.out.size))); clear ho2 hb2)))
      go_roundw
      case rel => exact ⟨n + 1, _, by omega, by go_num, HZ.out, HO2.out, HB2.out⟩
      case measure => simp [intOf]; omega
    · have hnl : n = t.length := by omega
      have HE := Lib.hid (show xs = ys from by have h := HX.out; rw [hnl, HR.out] at h; injection h with h; exact h.symm)
      go_wp2_with fail
      go_ret
      exact ⟨_, rfl, by rw [← HE.out]; exact HO.out, HB.out⟩
end Go.Proofs.YtdjhfeaimmpmhaaGreat

set_option maxRecDepth 100000
set_option linter.unusedVariables false
set_option linter.unusedSimpArgs false
namespace Go.Proofs.YtdjhfeaimmpmhaaGreat
open Go.RowKit

def cndP (q : List Nat) : Bool := !(!frB q) && !supP q
theorem cndN_eq (n : Nat) : cndN n = (treesN n).filter cndP := by
  unfold cndN frN
  rw [List.filter_filter]
  congr 1
  funext q
  unfold cndP
  cases frB q <;> cases supP q <;> rfl
theorem eqN_dec (q t : List Nat) : eqN q t = decide (up q = up t) := by
  by_cases e : q = t
  · rw [eqN_iff.2 e, e]; exact (decide_eq_true rfl).symm
  · have h1 : eqN q t = false := by
      cases hh : eqN q t with
      | true => exact absurd (eqN_iff.1 hh) e
      | false => rfl
    rw [h1]; exact (decide_eq_false fun h => e (up_inj h)).symm

set_option maxHeartbeats 16000000 in
theorem s_l12Free (w : World) (n : Nat) (h1 : 1 ≤ n) (h8 : n ≤ 8) :
    Calls Tryz.prog 134 #[.int .i64 n] w fun e w' => ∃ x, e = .returned x ∧ LA w' w.heap.size x ((cndN n).map up) ∧ Below w.heap.size w w' := by
  have HCN := Lib.hid (cndN_eq n)
  have HAT := Lib.hid (fun t ht => okRo_at (t := t) h1 h8 ht)
  have HTN := Lib.hid (treesN_at h1 h8)
  go_enter Tryz.func134, Tryz.ntmps134
  go_wp2_with (first
    | (go_at_call 133; go_loud (refine (s_l03Trees _ n h1 h8).mono ?_; rintro e w1 ⟨x1, rfl, hl1, hb1⟩; obtain ⟨vs, hown, hrr, hap⟩ := hl1; have hvl : vs.length = (treesN n).length := hrr.1.trans (List.length_map ..); obtain ⟨Ao, co, rfl, -, -⟩ := hown.cells.open_; rw [hvl] at hown ⊢; have HVL := Lib.hid hvl; have HOA := Lib.hid hown; have HRA := Lib.hid hrr; have HAP := Lib.hid hap; have HB1 := Lib.hid hb1; have OL := Lib.hid (own_lit w1 tL [] (by simp [maxLen])); clear hown hrr hap hvl hb1)))
  generalize hT : treesN n = T at HCN HAT HTN HVL HOA HRA ⊢
  have HTL := Lib.hid HTN.out.1
  have htb := HTL.out
  go_loopw [4, 5] (fun o x wr => ∃ (j : Nat) (us : List Value), j ≤ T.length ∧ x = .int .i64 j ∧ Own wr w1.heap.size tL o us ∧ us.Sublist (vs.take j) ∧ RR wr w.heap.size us (((T.take j).filter cndP).map up) ∧ Below w1.heap.size w1 wr) (fun _ x _ => T.length - (intOf x).toNat)
  case atStart => exact ⟨0, [], Nat.zero_le _, rfl, OL.out, by simp, by simpa using RR.nil _ _, below1 _ _⟩
  case round =>
    obtain ⟨j, us, hj, rfl, ho, hsub, hrr, hb⟩ := hrel
    clear OL
    have HO := Lib.hid ho
    have HSU := Lib.hid hsub
    have HR := Lib.hid hrr
    have HB := Lib.hid hb
    have HUL := Lib.hid (show us.length ≤ 115 from by
      have h1 := hsub.length_le
      have h2 := HTL.out
      rw [List.length_take] at h1
      have := HVL.out
      omega)
    clear ho hsub hrr hb
    by_cases hlt : j < T.length
    · have hq : T[j]? = some (T[j]'hlt) := List.getElem?_eq_getElem _
      have hu : vs[j]? = some (vs[j]'(by rw [HVL.out]; exact hlt)) := List.getElem?_eq_getElem _
      have hmem : T[j]'hlt ∈ T := List.getElem_mem _
      have hrow := HRA.out.2 j _ _ hu (by rw [List.getElem?_map, hq]; rfl)
      obtain ⟨ad, n', c', he, hc0⟩ := HOA.out.cells.at_ hu
      simp only [Value.slice.injEq] at he
      obtain ⟨rfl, rfl, rfl⟩ := he
      have HTS := Lib.hid (show ((T.take (j + 1)).filter cndP) = (T.take j).filter cndP ++ (bif cndP (T[j]'hlt) then [T[j]'hlt] else []) from by
        rw [List.take_add_one, hq]
        simp only [List.filter_append, Option.toList_some, List.filter_cons, List.filter_nil]
        cases cndP (T[j]'hlt) <;> rfl)
      have HVS := Lib.hid (show vs.take (j + 1) = vs.take j ++ [vs[j]'(by rw [HVL.out]; exact hlt)] from by rw [List.take_add_one, hu]; rfl)
      obtain ⟨hql, hqv, hqc, -⟩ := HTN.out.2 _ hmem
      obtain ⟨r, k, xs', hro, hfr, hdb⟩ := HAT.out _ hmem
      have hcp : cndP (T[j]'hlt) = (decide (up r = up (T[j]'hlt)) && !supB (T[j]'hlt)) := by
        unfold cndP frB supP
        rw [hfr, hqc]
        simp only [Bool.not_not]
        rw [eqN_dec]
      rw [hcp] at HTS
      generalize T[j]'hlt = q at *
      generalize vs[j]'(by rw [HVL.out]; exact hlt) = u at *
      obtain ⟨Au, cu, rfl, -, -, -⟩ := hrow.ints.open_
      rw [up_len] at hrow hu hc0 HVS
      have HROW := Lib.hid hrow
      have hq8 : q.length ≤ 8 := by omega
      have hq0 : 0 < q.length := by omega
      have HRO := Lib.hid (fun W (h : Ints W (.slice Au q.length cu) (up q)) => s_l04Roots W _ q _ h (by omega) hro)
      have HDB := Lib.hid (fun W (h : Ints W (.slice Au q.length cu) (up q)) => s_l04Double W _ q _ h hq0 (by omega) hdb)
      have HSM := Lib.hid (fun W y (hy : Ints W y (up r)) (h : Ints W (.slice Au q.length cu) (up q)) => s_l01Same W y (.slice Au q.length cu) (up r) (up q) hy h)
      have hji : (j : Int) < (T.length : Int) := by omega
      have hcw := keepCell HB.out hc0
      have HC0 := Lib.hid hc0
      clear hq hu hmem hrow hql hqv hqc hro hfr hdb hcp hc0
      generalize decide (up r = up q) = dd at HTS HSM
      generalize supB q = sd at HTS HDB
      have HBC := Lib.hid (show Below w1.heap.size w1 wr.drew from HB.out.drew)
      go_wp2_with fail
      cases dd with
      | false =>
        first | go_region_law (first
          | (go_simp; go_at_call 122; go_loud ((with_reducible refine (HRO.out _ (HROW.out.below HBC.out).ints).mono ?_); rintro e w2 ⟨x2, rfl, ho2, hb2⟩; have HBX := Lib.hid (show Below wr.heap.size wr w2 from Below.trans (Below.refl wr.heap.size wr).drew hb2); have HBC := Lib.hid (HBC.out.trans (hb2.mono HBC.out.size)); obtain ⟨g, cap, A2, c2, he, hc2, -, hr2⟩ := ho2.at_ (k := 0) rfl; subst he; have hc2' : w2.cell? ⟨g, 0, none⟩ = some (.slice A2 r.length c2) := hc2; have hcw2 := keepCell HBC.out HC0.out; have HR2 := Lib.hid hr2; have hp2 : 0 < ((r, k) :: xs').length := (by simp); clear hc2 ho2 hb2))
          | (go_simp; go_at_call 135; (with_reducible refine (HSM.out _ _ HR2.out.ints (HROW.out.below HBC.out).ints).mono ?_); rintro e w3 ⟨rfl, n3, rfl⟩; have HBC := Lib.hid (below_drewN HBC.out n3); have HBX := Lib.hid (below_drewN HBX.out n3))) | fail
        all_goals
          go_wp2_with fail
          go_roundw
          case rel =>
            refine ⟨j + 1, us, by omega, by go_num, HO.out.below HBX.out, HSU.out.trans (by rw [HVS.out]; exact List.sublist_append_left _ _), ?_, HBC.out⟩
            rw [HTS.out]
            simpa using HR.out.below HBX.out
          case measure => simp [intOf]; omega
      | true =>
        first | go_region_law (first
          | (go_simp; go_at_call 122; go_loud ((with_reducible refine (HRO.out _ (HROW.out.below HBC.out).ints).mono ?_); rintro e w2 ⟨x2, rfl, ho2, hb2⟩; have HBX := Lib.hid (show Below wr.heap.size wr w2 from Below.trans (Below.refl wr.heap.size wr).drew hb2); have HBC := Lib.hid (HBC.out.trans (hb2.mono HBC.out.size)); obtain ⟨g, cap, A2, c2, he, hc2, -, hr2⟩ := ho2.at_ (k := 0) rfl; subst he; have hc2' : w2.cell? ⟨g, 0, none⟩ = some (.slice A2 r.length c2) := hc2; have hcw2 := keepCell HBC.out HC0.out; have HR2 := Lib.hid hr2; have hp2 : 0 < ((r, k) :: xs').length := (by simp); clear hc2 ho2 hb2))
          | (go_simp; go_at_call 135; (with_reducible refine (HSM.out _ _ HR2.out.ints (HROW.out.below HBC.out).ints).mono ?_); rintro e w3 ⟨rfl, n3, rfl⟩; have HBC := Lib.hid (below_drewN HBC.out n3); have HBX := Lib.hid (below_drewN HBX.out n3))
          | (go_simp; go_at_call 181; (with_reducible refine (HDB.out _ (HROW.out.below HBC.out).ints).mono ?_); rintro e w4 ⟨rfl, hb4⟩; have HBX := Lib.hid (HBX.out.trans (hb4.mono HBX.out.size)); have HBC := Lib.hid (HBC.out.trans (hb4.mono HBC.out.size)); clear hb4)) | fail
        all_goals
          cases sd with
          | true =>
            go_wp2_with fail
            go_roundw
            case rel =>
              refine ⟨j + 1, us, by omega, by go_num, HO.out.below HBX.out, HSU.out.trans (by rw [HVS.out]; exact List.sublist_append_left _ _), ?_, HBC.out⟩
              rw [HTS.out]
              simpa using HR.out.below HBX.out
            case measure => simp [intOf]; omega
          | false =>
            have hcw5 := keepCell HBC.out HC0.out
            have HO5 := Lib.hid (HO.out.below HBX.out)
            have HB5 := Lib.hid HBC.out
            have HR5 := Lib.hid (HR.out.below HBX.out)
            have HQ5 := Lib.hid (HROW.out.below HBC.out)
            go_wp2_with (at_builtin; go_loud (refine wpList_app1 T_row HO5.out (by have := HUL.out; omega) HB5.out.size (by rfl) rfl (by rfl) (by rfl) (by rfl) ?_; intro v1 w5 hown1 hgr1; have HN1 := Lib.hid hown1; have HGR := Lib.hid hgr1; clear hown1 hgr1))
            go_roundw
            case rel =>
              refine ⟨j + 1, us ++ [.slice Au q.length cu], by omega, by go_num, HN1.out, ?_, ?_, HGR.out.below HB5.out HB5.out.size HO5.out.ge⟩
              · rw [HVS.out]; exact HSU.out.append (List.Sublist.refl _)
              · rw [HTS.out, List.map_append]
                exact LL.snoc (HO5.out.mono HB1.out.size) HR5.out HQ5.out (HN1.out.mono HB1.out.size) HGR.out.1
            case measure => simp [intOf]; omega
    · have hjl : j = T.length := by omega
      go_wp2_with fail
      go_ret
      refine ⟨_, rfl, ⟨us, HO.out.mono HB1.out.size, ?_, HAP.out.sublist (HSU.out.trans (List.take_sublist _ _))⟩, HB1.out.trans (HB.out.mono HB1.out.size)⟩
      have h := HR.out
      rw [hjl, List.take_length, ← HCN.out] at h
      exact h
end Go.Proofs.YtdjhfeaimmpmhaaGreat

set_option maxRecDepth 100000
set_option linter.unusedVariables false
set_option linter.unusedSimpArgs false
namespace Go.Proofs.YtdjhfeaimmpmhaaGreat
open Go.RowKit

theorem cndN_len {k : Nat} (h1 : 1 ≤ k) (h8 : k ≤ 8) : (cndN k).length ≤ 115 := by rw [cndN_eq]; exact Nat.le_trans (List.length_filter_le _ _) (treesN_at h1 h8).1

set_option maxHeartbeats 4000000 in
theorem i_allConditions (w : World) :
    Calls Tryz.prog 55 #[] w fun e w' => ∃ x, e = .returned x ∧ LA w' w.heap.size x ((allG cndN 6).map up) ∧ Below w.heap.size w w' := by
  have HG := Lib.hid (fun k (h : k ≤ 8) => allG_len (G := cndN) (fun k h1 h2 => cndN_len h1 h2) k h)
  have HL := Lib.hid (fun k (h1 : 1 ≤ k) (h2 : k ≤ 8) => cndN_len h1 h2)
  have OL := Lib.hid (show LA (w.alloc (.cells #[] tL)) w.heap.size (.slice (some ⟨w.heap.size, 0, none⟩) 0 0) ((allG cndN 0).map up) from ⟨[], own_lit w tL [] (by simp [maxLen]), RR.nil _ _, List.Pairwise.nil⟩)
  go_enter Tryz.func55, Tryz.ntmps55
  go_wp2_with fail
  go_loopw [1, 2] (fun o x wr => ∃ k : Nat, 1 ≤ k ∧ k ≤ 6 + 1 ∧ x = .int .i64 k ∧ LA wr w.heap.size o ((allG cndN (k - 1)).map up) ∧ Below w.heap.size w wr) (fun _ x _ => 6 + 1 - (intOf x).toNat)
  case atStart => exact ⟨1, Nat.le_refl _, by omega, by go_num, OL.out, below1 _ _⟩
  case round =>
    obtain ⟨k, hk1, hk, rfl, ho, hb⟩ := hrel
    clear OL
    have HB := Lib.hid hb
    obtain ⟨us, hown, hrr, hap⟩ := ho
    have hul := hrr.1
    rw [List.length_map] at hul
    have HUL := Lib.hid (show us.length ≤ 1000 from by have := HG.out (k - 1) (by omega); omega)
    have HO := Lib.hid hown
    have HR := Lib.hid hrr
    have HAP := Lib.hid hap
    have HLT := Lib.hid hrr.lt
    obtain ⟨Ao, co, rfl, -, -⟩ := hown.cells.open_
    clear hb hown hrr hap hul
    by_cases hlt : k < 6 + 1
    · have hle : (k : Int) ≤ (6 : Int) := by omega
      have HS := Lib.hid (show allG cndN (k + 1 - 1) = allG cndN (k - 1) ++ cndN k from by
        have h := allG_succ cndN (k - 1)
        rw [show k - 1 + 1 = k by omega] at h
        rw [Nat.add_sub_cancel]; exact h)
      have HLK := Lib.hid (HL.out k hk1 (by omega))
      have hk8 : k ≤ 8 := by omega
      go_wp2_with (first
        | (go_at_call 115; go_loud (refine (i_freeConditions _ k hk1 hk8).mono ?_; rintro e w2 ⟨x2, rfl, hl2, hb2⟩; obtain ⟨vs, hown2, hrr2, hap2⟩ := hl2; have HV := Lib.hid hown2; have HR2 := Lib.hid hrr2; have HAP2 := Lib.hid hap2; have hvl := hrr2.1.trans (List.length_map ..); have HVL := Lib.hid hvl; have HB2 := Lib.hid hb2; have HO2 := Lib.hid (HO.out.below hb2); clear hown2 hrr2 hap2 hb2 hvl))
        | (at_builtin; go_loud (refine wpList_appN T_row HO2.out HV.out.cells (by have h1 := HUL.out; have h2 := HVL.out; have h3 := HLK.out; omega) (Nat.le_trans HB.out.size HB2.out.size) HR2.out.oneCell (by rfl) rfl (by rfl) (by rfl) ?_; intro v5 w5 hown5 hgr5; have HN := Lib.hid hown5; have HGR := Lib.hid hgr5; clear hown5 hgr5)))
      go_roundw
      case rel =>
        refine ⟨k + 1, by omega, by omega, by go_num, ?_, HGR.out.below (HB.out.trans (HB2.out.mono HB.out.size)) (Nat.le_trans HB.out.size HB2.out.size) HO2.out.ge⟩
        rw [HS.out, List.map_append]
        exact LA.app HO2.out (HR.out.below HB2.out) HAP.out HLT.out HR2.out HAP2.out HB.out.size HN.out HGR.out
      case measure => simp [intOf]; omega
    · have hkn : k = 6 + 1 := by omega
      subst hkn
      go_wp2_with fail
      go_ret
      exact ⟨_, rfl, ⟨us, HO.out, by simpa using HR.out, HAP.out⟩, HB.out⟩

set_option maxHeartbeats 4000000 in
theorem s_l12All (w : World) :
    Calls Tryz.prog 71 #[] w fun e w' => ∃ x, e = .returned x ∧ LA w' w.heap.size x ((allG cndN 6).map up) ∧ Below w.heap.size w w' := by
  have HG := Lib.hid (fun k (h : k ≤ 8) => allG_len (G := cndN) (fun k h1 h2 => cndN_len h1 h2) k h)
  have HL := Lib.hid (fun k (h1 : 1 ≤ k) (h2 : k ≤ 8) => cndN_len h1 h2)
  have OL := Lib.hid (show LA (w.alloc (.cells #[] tL)) w.heap.size (.slice (some ⟨w.heap.size, 0, none⟩) 0 0) ((allG cndN 0).map up) from ⟨[], own_lit w tL [] (by simp [maxLen]), RR.nil _ _, List.Pairwise.nil⟩)
  go_enter Tryz.func71, Tryz.ntmps71
  go_wp2_with fail
  go_loopw [1, 2] (fun o x wr => ∃ k : Nat, 1 ≤ k ∧ k ≤ 6 + 1 ∧ x = .int .i64 k ∧ LA wr w.heap.size o ((allG cndN (k - 1)).map up) ∧ Below w.heap.size w wr) (fun _ x _ => 6 + 1 - (intOf x).toNat)
  case atStart => exact ⟨1, Nat.le_refl _, by omega, by go_num, OL.out, below1 _ _⟩
  case round =>
    obtain ⟨k, hk1, hk, rfl, ho, hb⟩ := hrel
    clear OL
    have HB := Lib.hid hb
    obtain ⟨us, hown, hrr, hap⟩ := ho
    have hul := hrr.1
    rw [List.length_map] at hul
    have HUL := Lib.hid (show us.length ≤ 1000 from by have := HG.out (k - 1) (by omega); omega)
    have HO := Lib.hid hown
    have HR := Lib.hid hrr
    have HAP := Lib.hid hap
    have HLT := Lib.hid hrr.lt
    obtain ⟨Ao, co, rfl, -, -⟩ := hown.cells.open_
    clear hb hown hrr hap hul
    by_cases hlt : k < 6 + 1
    · have hle : (k : Int) ≤ (6 : Int) := by omega
      have HS := Lib.hid (show allG cndN (k + 1 - 1) = allG cndN (k - 1) ++ cndN k from by
        have h := allG_succ cndN (k - 1)
        rw [show k - 1 + 1 = k by omega] at h
        rw [Nat.add_sub_cancel]; exact h)
      have HLK := Lib.hid (HL.out k hk1 (by omega))
      have hk8 : k ≤ 8 := by omega
      go_wp2_with (first
        | (go_at_call 134; go_loud (refine (s_l12Free _ k hk1 hk8).mono ?_; rintro e w2 ⟨x2, rfl, hl2, hb2⟩; obtain ⟨vs, hown2, hrr2, hap2⟩ := hl2; have HV := Lib.hid hown2; have HR2 := Lib.hid hrr2; have HAP2 := Lib.hid hap2; have hvl := hrr2.1.trans (List.length_map ..); have HVL := Lib.hid hvl; have HB2 := Lib.hid hb2; have HO2 := Lib.hid (HO.out.below hb2); clear hown2 hrr2 hap2 hb2 hvl))
        | (at_builtin; go_loud (refine wpList_appN T_row HO2.out HV.out.cells (by have h1 := HUL.out; have h2 := HVL.out; have h3 := HLK.out; omega) (Nat.le_trans HB.out.size HB2.out.size) HR2.out.oneCell (by rfl) rfl (by rfl) (by rfl) ?_; intro v5 w5 hown5 hgr5; have HN := Lib.hid hown5; have HGR := Lib.hid hgr5; clear hown5 hgr5)))
      go_roundw
      case rel =>
        refine ⟨k + 1, by omega, by omega, by go_num, ?_, HGR.out.below (HB.out.trans (HB2.out.mono HB.out.size)) (Nat.le_trans HB.out.size HB2.out.size) HO2.out.ge⟩
        rw [HS.out, List.map_append]
        exact LA.app HO2.out (HR.out.below HB2.out) HAP.out HLT.out HR2.out HAP2.out HB.out.size HN.out HGR.out
      case measure => simp [intOf]; omega
    · have hkn : k = 6 + 1 := by omega
      subst hkn
      go_wp2_with fail
      go_ret
      exact ⟨_, rfl, ⟨us, HO.out, by simpa using HR.out, HAP.out⟩, HB.out⟩
end Go.Proofs.YtdjhfeaimmpmhaaGreat

