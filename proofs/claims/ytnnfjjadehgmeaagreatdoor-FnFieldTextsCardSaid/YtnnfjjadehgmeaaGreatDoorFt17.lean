/- Walk of the reference: ParseField. | The walk of the law FnExactParseField from two contracts. Printed by lawgen4.py; the law. -/
import Derived.Test.YtnnfjjadehgmeaaGreatDoorFt12
import Derived.WalkLawsBesides
import Derived.Deep.RegionHeld3
import Derived.Deep.CutRange
import Derived.Deep.CutBlock
set_option maxRecDepth 100000
set_option linter.unusedVariables false
set_option linter.unusedSimpArgs false
namespace Go.Proofs.YtnnfjjadehgmeaaGreatDoor
open Go.RowKit

theorem strOwn_kept {w w' : World} {B : Nat} {v u : Value} {ls : List (List UInt8)} {e : TypeId} (h : Own w B tStr v (strs ls)) (hu : BT w e u) (hne : tStr ≠ e) (hg : w.grownBy w' u.ownBlock) : Own w' B tStr v (strs ls) := h.kept hg (h.bt.ne hu hne)
set_option maxHeartbeats 16000000 in
theorem s_ParseField (w : World) (l : List UInt8) (hl : l.length ≤ 4294950000) :
    Calls Tryz.prog 5 #[strB l] w fun e w' => ∃ u, e = .returned (.tuple #[.agg #[.int .i64 ((pfR l).length : Nat), u], .int .i64 (pfC l)]) ∧ FdO w' w.heap.size w'.heap.size u (pfR l) ∧ Below w.heap.size w w' := by
  have HPN := Lib.hid (fun (hn : pfX rdMR l = none) => pf_none (l := l) (pf_eq l) hn)
  have HPS := Lib.hid (fun pss (hs : pfX rdMR l = some pss) => pf_some (l := l) (pf_eq l) hs)
  obtain ⟨R, hR⟩ : ∃ R, R = pfR l := ⟨_, rfl⟩
  obtain ⟨C, hC⟩ : ∃ C, C = pfC l := ⟨_, rfl⟩
  rw [← hR, ← hC] at HPN HPS ⊢
  clear hR hC
  obtain ⟨w1, hw1⟩ : ∃ w1, w1 = w.alloc (.cells #[.int .i64 0, .slice none 0 0] tFq) := ⟨_, rfl⟩
  have K0 := Lib.hid (show Blk w1 w.heap.size tFq #[.int .i64 0, .slice none 0 0] by rw [hw1]; exact Blk.new _ _ _)
  have HB1 := Lib.hid (show Below w.heap.size w w1 by rw [hw1]; exact below1 w _)
  have HSP := Lib.hid (s_l01Split w1 l 59 (by omega))
  have HSZ := Lib.hid (fun pss (hs : rdF rdMR l = some pss) => rdF_size thinR hs)
  have HRF := Lib.hid (show rdF rdMR l = optL (rdP rdMR) (splB 59 l) from rfl)
  have HTL := Lib.hid (splB_mem_len 59 l)
  have hnl := splB_len 59 l
  have hnp := splB_pos 59 l
  generalize splB 59 l = ts at HSP HRF HTL hnl hnp
  go_enter Tryz.func5, Tryz.ntmps5
  go_upto_region 1 with fail
  first | rw [← hw1] | skip
  clear hw1
  go_upto_region 2 with (go_at_call 17; refine HSP.out.mono ?_; rintro e w2 ⟨v2, rfl, ho2, hb2⟩; obtain ⟨g, c, hv2⟩ := str_open ho2 hnp; subst hv2; have HO2 := Lib.hid ho2; have HB2 := Lib.hid hb2; clear ho2 hb2)
  obtain ⟨w4, hw4⟩ : ∃ w4, w4 = w2.alloc (.cells #[.int .i64 (ts.length : Nat), .slice none 0 0] tFq) := ⟨_, rfl⟩
  obtain ⟨p, hp⟩ : ∃ p, p = w2.heap.size := ⟨_, rfl⟩
  have HW2 := Lib.hid (HB1.out.trans (HB2.out.mono HB1.out.size))
  have K1 := Lib.hid (show Blk w4 p tFq #[.int .i64 (ts.length : Nat), .slice none 0 0] by rw [hw4, hp]; exact Blk.new _ _ _)
  have K04 := Lib.hid (show Blk w4 w.heap.size tFq #[.int .i64 0, .slice none 0 0] by rw [hw4]; exact (K0.out.below HB2.out K0.out.lt).alloc _)
  have HB4 := Lib.hid (show Below w.heap.size w w4 by rw [hw4]; exact HW2.out.alloc HW2.out.size _)
  have HP := Lib.hid (show w.heap.size < p from by rw [hp]; exact Nat.lt_of_lt_of_le K0.out.lt HB2.out.size)
  have HZ := Lib.hid (show p + 1 ≤ w4.heap.size from K1.out.lt)
  have HO4 := Lib.hid (show Own w4 w.heap.size tStr (.slice (some ⟨g, 0, none⟩) ts.length c) (strs ts) by rw [hw4]; exact (HO2.out.mono HB1.out.size).alloc _)
  go_upto_region 3 with fail
  first | rw [← hw4] | skip
  first | rw [← hp] | skip
  clear hw4 hp K0 HB1 HB2 HO2 HW2 hnp
  go_wp2_with fail
  go_loopw [6] (fun i wr => ∃ (k : Nat) (u : Value) (vs : List Value) (ivs : List (Nat × Nat)) (pss : List (List Mono)), k ≤ ts.length ∧ i = .int .i64 k ∧ Hid (optL (rdP rdMR) (ts.take k) = some pss) ∧ pss.length = k ∧ Hid (Blk wr p tFq #[.int .i64 (ts.length : Nat), u]) ∧ Hid (Blk wr w.heap.size tFq #[.int .i64 0, .slice none 0 0]) ∧ Hid (PFd wr (p + 1) wr.heap.size u vs ivs pss) ∧ Hid (Own wr w.heap.size tStr (.slice (some ⟨g, 0, none⟩) ts.length c) (strs ts)) ∧ Hid (Below w.heap.size w wr)) (fun i _ => ts.length - (intOf i).toNat)
  case atStart => exact ⟨0, _, [], [], [], Nat.zero_le _, rfl, Lib.hid rfl, rfl, K1, K04, Lib.hid ((PFd.nil w4 (p + 1)).mono (Nat.le_refl _) HZ.out), HO4, HB4⟩
  case round =>
    obtain ⟨k, u, vs, ivs, pss, hk, rfl, HOP, hpl, HK1, HK0, HF, HO, HB⟩ := hrel
    rename World => wq
    clear K1 K04 HB4 HO4 HZ
    obtain ⟨Au, cu, hu0, -⟩ := HF.out.own.cells.open_
    have hvl : vs.length = pss.length := HF.out.len
    have hvk : vs.length = k := by omega
    by_cases hlt : k < ts.length
    · obtain ⟨t, ht⟩ : ∃ t, ts[k]? = some t := ⟨_, List.getElem?_eq_getElem hlt⟩
      have hki : (k : Int) < (ts.length : Int) := by omega
      have htl := HTL.out t (List.mem_of_getElem? ht)
      have HTK := Lib.hid ht
      obtain ⟨wa, hwa⟩ : ∃ wa, wa = wq.alloc (.cells #[] tM) := ⟨_, rfl⟩
      have HNA := Lib.hid (show OMd wa wq.heap.size (wq.heap.size + 1) (.slice (some ⟨wq.heap.size, 0, none⟩) 0 0) [] [] by rw [hwa]; exact OMd.newP wq)
      have HBA := Lib.hid (show Below wq.heap.size wq wa by rw [hwa]; exact below1 wq _)
      have HZA := Lib.hid (show wq.heap.size + 1 ≤ wa.heap.size by rw [hwa]; exact Nat.le_of_eq (Array.size_push _).symm)
      have gka : wa.cell? ⟨g, k, none⟩ = some (strB t) := strs_cell (HO.out.below HBA.out) ht
      have HSW := Lib.hid (s_l01Split wa t 43 (by omega))
      have HRP := Lib.hid (show rdP rdMR t = if t = [48] then some [] else optL rdMR (splB 43 t) from rfl)
      have hwp := splB_pos 43 t
      have hwl := splB_len 43 t
      have HWL := Lib.hid (splB_mem_len 43 t)
      have HS48 := Lib.hid (show t = [48] → (splB 43 t).length = 1 from fun e => by rw [e]; rfl)
      generalize splB 43 t = ws at HSW HRP hwp hwl HWL HS48
      clear ht hu0
      go_upto_region 7 with fail
      first | rw [← hwa] | skip
      clear hwa
      go_upto_region 8 with (go_at_call 17; refine HSW.out.mono ?_; rintro e wb ⟨vb, rfl, hob, hbb⟩; obtain ⟨gw, cw, hvb⟩ := str_open hob hwp; subst hvb; have HOW := Lib.hid (hob.mono HBA.out.size); have HBB := Lib.hid (HBA.out.trans (hbb.mono HBA.out.size)); have HNB := Lib.hid ((HNA.out.agree (Same.of_below hbb HZA.out)).mono (Nat.le_refl _) (Nat.le_trans HZA.out hbb.size)); clear hob hbb)
      clear gka HSW HNA HBA HZA
      go_wp2_with fail
      go_loopw [7, 9] (fun o i wr => ∃ (q : Nat) (us : List Value) (ms : List Mono), q ≤ ws.length ∧ i = .int .i64 q ∧ Hid (optL rdMR (ws.take q) = some ms) ∧ Hid (t = [48] → q = 0) ∧ ms.length = q ∧ Hid (OMd wr wq.heap.size wr.heap.size o us ms) ∧ Hid (Own wr wq.heap.size tStr (.slice (some ⟨gw, 0, none⟩) ws.length cw) (strs ws)) ∧ Hid (Below wq.heap.size wq wr)) (fun _ i _ => ws.length - (intOf i).toNat)
      case atStart => exact ⟨0, [], [], Nat.zero_le _, rfl, Lib.hid rfl, Lib.hid (fun _ => rfl), rfl, HNB, HOW, HBB⟩
      case round =>
        obtain ⟨q, us, ms, hq, rfl, HOQ, HT0, hml, HM, HOW, HBX⟩ := hrel
        rename World => wx
        clear HNB HBB
        obtain ⟨Al, cl, hle, -, -⟩ := HM.out.open_
        rw [hml] at hle
        subst hle
        have gk : wx.cell? ⟨g, k, none⟩ = some (strB t) := strs_cell (HO.out.below HBX.out) HTK.out
        by_cases hz : t = [48]
        · have hq0 := HT0.out hz
          have hw1 := HS48.out hz
          subst hq0
          have hw1i : (0 : Int) < (ws.length : Int) := by omega
          have hms : ms = [] := List.eq_nil_of_length_eq_zero hml
          subst hms
          have HRR := Lib.hid (show rdP rdMR t = some [] by rw [HRP.out, if_pos hz])
          subst hz
          clear hw1 hml hq
          have HOT := Lib.hid (optL_take HOP.out HTK.out HRR.out)
          have HMO := Lib.hid (show OMo wx wq.heap.size wx.heap.size (.slice Al 0 cl) [] from ⟨us, HM.out⟩)
          have hk1 := HK1.out.below HBX.out HK1.out.lt
          have q1 : wx.cell? ⟨p, 1, none⟩ = some u := hk1.cell 1
          have HO5 := Lib.hid (HO.out.below HBX.out)
          have HOW5 := Lib.hid (HF.out.own.below HBX.out)
          clear hk1
          go_wp2_with (at_builtin; go_loud (refine wpList_app1 T_mrsP (W := wx) (B := p + 1) (v := u) (vs := vs) HOW5.out (by omega) (by have h1 := HF.out.le; have h2 := HBX.out.size; omega) (by rfl) rfl (by rfl) (by rfl) (by rfl) ?_; intro v6 w6 hown6 hgr6; obtain ⟨A6, c6, hv6, -⟩ := hown6.cells.open_; rw [List.length_append, List.length_singleton, hvk] at hv6; subst hv6; have HPR := Lib.hid (pf_round HP.out HK1.out HK0.out HF.out HB.out HBX.out HMO.out hown6 hgr6); have hk6 := HPR.out.1; have q6 : w6.cell? ⟨p, 1, none⟩ = some u := hk6.cell 1; have q7 : w6.frozen? ⟨p, 1, none⟩ = false := hk6.frozen 1; have HN6 := Lib.hid hown6; have HG6 := Lib.hid hgr6; clear hk6 hown6 hgr6))
          go_roundw
          case rel =>
            obtain ⟨-, a1, a2, a3, a4⟩ := HPR.out
            refine ⟨k + 1, _, _, _, pss ++ [[]], by omega, by go_num, HOT, by rw [List.length_append, hpl]; rfl, Lib.hid a1, Lib.hid a2, Lib.hid a3, Lib.hid ?_, Lib.hid a4⟩
            have h1 := HO5.out.kept HG6.out.1 (HO5.out.bt.ne HOW5.out.bt (by decide))
            refine h1.of_block fun b hb => Below.heap_setCell w6 ⟨p, 1, none⟩ _ b (fun e => ?_)
            have h2 := (HPR.out.1 : Blk w6 p tFq _)
            simp only at e
            subst e
            exact absurd hb (h1.ne_blkP h2 (by decide))
          case measure => simp [intOf]; omega
        · have hzb : (t == [48]) = false := beq_eq_false_iff_ne.2 hz
          by_cases hqt : q < ws.length
          · obtain ⟨t2, ht2⟩ : ∃ t2, ws[q]? = some t2 := ⟨_, List.getElem?_eq_getElem hqt⟩
            have hqi : (q : Int) < (ws.length : Int) := by omega
            have gq : wx.cell? ⟨gw, q, none⟩ = some (strB t2) := strs_cell HOW.out ht2
            have ht2l := HWL.out t2 (List.mem_of_getElem? ht2)
            have HT2 := Lib.hid ht2
            have HRN := Lib.hid (fun (hn : rdMR t2 = none) => HPN.out (pfX_none1 (HRF.out.trans (optL_none (List.mem_of_getElem? HTK.out) (by rw [HRP.out, if_neg hz]; exact optL_none (List.mem_of_getElem? ht2) hn)))))
            have HSH := Lib.hid (s_l01Split wx t2 58 (by omega))
            have hhp := splB_pos 58 t2
            have hhl := splB_len 58 t2
            have hhm := splB_mem_len 58 t2
            have HRD := Lib.hid (show rdMR t2 = if (pnR ((splB 58 t2).headD [])).2 ≠ 0 ∨ (splB 58 t2).length ≠ 2 then none else some ((pnR ((splB 58 t2).headD [])).1, pwB ((splB 58 t2).getD 1 [])) from rfl)
            generalize splB 58 t2 = hs at HSH hhp hhl hhm HRD
            obtain ⟨H, S, rfl⟩ : ∃ H S, hs = H :: S := by
              cases hs with
              | nil => simp at hhp
              | cons a b => exact ⟨a, b, rfl⟩
            have hHl := hhm H (by simp)
            have HSL := Lib.hid (show ∀ x ∈ S, x.length ≤ t2.length from fun x hx => hhm x (by simp [hx]))
            have HNR := Lib.hid (fun W => s_ParseNumber W H (by omega))
            have hpb := pnR_rg H
            rw [List.headD_cons] at HRD
            generalize pnR H = pn at HNR HRD hpb
            obtain ⟨f, cd⟩ := pn
            simp only at HNR HRD hpb
            obtain ⟨nh, hnh⟩ : ∃ nh, nh = S.length + 1 := ⟨_, rfl⟩
            rw [List.length_cons, ← hnh] at HRD hhl
            clear ht2 hhp hhm hz
            go_upto_region 12 with (go_at_call 17; refine HSH.out.mono ?_; rintro e wh ⟨vh, rfl, hoh, hbh⟩; obtain ⟨gh, ch, hvh⟩ := str_open hoh (by simp); subst hvh; rw [List.length_cons, ← hnh] at hoh; have HOH := Lib.hid hoh; have HBH := Lib.hid hbh; clear hoh hbh)
            clear gk gq
            first | rw [List.length_cons] | skip
            first | rw [← hnh] | skip
            have HNH := Lib.hid hnh
            clear hnh
            have g0 : wh.cell? ⟨gh, 0, none⟩ = some (strB H) := strs_cell HOH.out (j := 0) rfl
            have hnp : (0 : Int) < (nh : Int) := by have := HNH.out; omega
            go_upto_region 13 with (go_at_call 18; refine (HNR.out _).mono ?_; rintro e wn ⟨rfl, hbn⟩; have HBN := Lib.hid (HBH.out.trans (hbn.mono HBH.out.size)); have HON := Lib.hid (HOH.out.below hbn); clear hbn)
            clear g0
            by_cases hcd : cd = 0
            · have hcb : (cd != 0) = false := by simpa using hcd
              by_cases hn2 : nh = 2
              · have hnb : ((nh : Int) != 2) = false := by rw [hn2]; rfl
                obtain ⟨P, rfl⟩ : ∃ P, S = [P] := by
                  have h1 := HNH.out
                  cases S with
                  | nil => simp at h1; omega
                  | cons a b => cases b with
                    | nil => exact ⟨a, rfl⟩
                    | cons x y => simp at h1; omega
                have HMM := Lib.hid (show rdMR t2 = some (f, pwB P) by rw [HRD.out, if_neg (fun h => h.elim (fun h => h hcd) fun h => h hn2)]; rfl)
                have hPl := HSL.out P (by simp)
                have hn1 : (1 : Int) < (nh : Int) := by omega
                clear hcd hn2 HRD HRN
                obtain ⟨wp, hwp⟩ : ∃ wp, wp = wn.alloc (.cells #[] 2) := ⟨_, rfl⟩
                have HUP := Lib.hid (show OwnInts wp wn.heap.size tI (.slice (some ⟨wn.heap.size, 0, none⟩) 0 0) ((pwB P).take 0) by rw [hwp]; exact ⟨own_lit wn tI [] (by simp [maxLen]), fun z hz => by simp at hz⟩)
                have HBP := Lib.hid (show Below wn.heap.size wn wp by rw [hwp]; exact below1 wn _)
                have HOP2 := Lib.hid (HON.out.below HBP.out)
                go_upto_region 16 with fail
                first | rw [← hwp] | skip
                clear hwp
                go_wp2_with fail
                go_loopw [13, 14] (fun o i wy => ∃ (j : Nat), j ≤ P.length ∧ i = .int .i64 j ∧ Hid (OwnInts wy wn.heap.size tI o ((pwB P).take j)) ∧ Hid (Below wn.heap.size wn wy) ∧ Hid (Own wy wx.heap.size tStr (.slice (some ⟨gh, 0, none⟩) nh ch) (strs (H :: [P])))) (fun _ i _ => P.length - (intOf i).toNat)
                case atStart => exact ⟨0, Nat.zero_le _, rfl, HUP, HBP, HOP2⟩
                case round =>
                  obtain ⟨j, hj, rfl, HU, HBY, HOY⟩ := hrel
                  rename World => wy
                  clear HUP HBP HOP2
                  have hol := HU.out.1.cells.open_
                  have hlen : (ints ((pwB P).take j)).length = j := by rw [ints_len, List.length_take, pwB_len]; omega
                  rw [hlen] at hol
                  obtain ⟨Aw, cw2, hoe, -, -⟩ := hol
                  subst hoe
                  have g1 : wy.cell? ⟨gh, 1, none⟩ = some (strB P) := strs_cell HOY.out (j := 1) rfl
                  by_cases hjt : j < P.length
                  · obtain ⟨b, hb⟩ : ∃ b, P[j]? = some b := ⟨_, List.getElem?_eq_getElem hjt⟩
                    have hix := str_ix hb
                    have hjp : (j : Int) < (P.length : Int) := by omega
                    have hbl := b.toNat_lt
                    have HPJ := Lib.hid (pwB_take hb)
                    clear hb
                    go_wp2_with (at_builtin; go_loud (refine wpList_app1 T_intP HU.out.1 (by rw [hlen]; omega) HBY.out.size (by rfl) rfl (by rfl) (by rfl) (by rfl) ?_; intro v6 w6 hown6 hgr6; have HN6 := Lib.hid hown6; have HG6 := Lib.hid hgr6; clear hown6 hgr6))
                    go_roundw
                    case rel =>
                      have h1 := HN6.out
                      rw [HPJ.out] at h1
                      exact ⟨j + 1, by omega, by go_num, Lib.hid ⟨h1, fun z hz => pwB_in P z (List.mem_of_mem_take hz)⟩, Lib.hid (HG6.out.below HBY.out HBY.out.size HU.out.1.ge), Lib.hid (strOwn_kept HOY.out HU.out.1.bt (by decide) HG6.out.1)⟩
                    case measure => simp [intOf]; omega
                  · have hje : j = P.length := by omega
                    subst hje
                    have hu2 := HU.out
                    rw [List.take_of_length_le (by rw [pwB_len]; exact Nat.le_refl _)] at hu2
                    have HU2 := Lib.hid hu2
                    clear hu2 HU
                    have HBY2 := Lib.hid (show Below wx.heap.size wx wy from HBN.out.trans (HBY.out.mono HBN.out.size))
                    obtain ⟨nu, hnu⟩ : ∃ nu : Nat, nu = P.length := ⟨_, rfl⟩
                    have HB6 := Lib.hid (show Below wx.heap.size wx (wy.alloc (.cells #[.int .i64 f, .slice Aw P.length cw2] tM)) from HBY2.out.alloc HBY2.out.size _)
                    have HU6 := Lib.hid (show OwnInts (wy.alloc (.cells #[.int .i64 f, .slice Aw P.length cw2] tM)) wx.heap.size tI (.slice Aw P.length cw2) (pwB P) from ⟨(HU2.out.1.alloc _).mono HBN.out.size, HU2.out.2⟩)
                    have HLC := Lib.hid (lit_cells wy tM (cellM (.slice Aw P.length cw2) (f, pwB P)) #[.int .i64 f, .slice Aw P.length cw2] rfl)
                    have HO6 := Lib.hid (OwnK.below HM.out.own HB6.out)
                    have HS6 := Lib.hid (HOW.out.below HB6.out)
                    have hzl := HM.out.zlen
                    have hf64 : In64 f := by unfold In64; omega
                    have HF64 := Lib.hid hf64
                    clear hf64 hnu
                    go_wp2_with (at_builtin; go_loud (refine wpList_app1K T_monoP (ad := ⟨wy.heap.size, 0, none⟩) (W := (wy.alloc (.cells #[.int .i64 f, .slice Aw P.length cw2] tM))) (c := cellM (.slice Aw P.length cw2) (f, pwB P)) HO6.out (by rw [hzl, hml]; omega) (Nat.le_trans HBX.out.size HB6.out.size) rfl (by intro y hy; simp [cellM] at hy; rcases hy with rfl | rfl <;> rfl) HLC.out rfl (by rfl) (by rfl) (by rfl) ?_; intro v7 w7 hn7 hg7; have HN7 := Lib.hid hn7; have HG7 := Lib.hid hg7; clear hn7 hg7))
                    go_roundw
                    case rel =>
                      have hps := HM.out.pushP (Nat.le_refl _) HBX.out.size HB6.out HU6.out HF64.out HN7.out HG7.out
                      refine ⟨q + 1, us ++ [.slice Aw P.length cw2], ms ++ [(f, pwB P)], by omega, by go_num, Lib.hid (optL_take HOQ.out HT2.out HMM.out), Lib.hid (fun e => by rw [e] at hzb; simp at hzb), by rw [List.length_append, hml]; rfl, Lib.hid hps, Lib.hid ?_, Lib.hid ?_⟩
                      · exact strOwn_kept HS6.out (OwnK.bt HO6.out) (by decide) HG7.out.1
                      · exact HG7.out.below (HBX.out.trans (HB6.out.mono HBX.out.size)) (Nat.le_trans HBX.out.size HB6.out.size) (fun b hb => HM.out.own.ge b hb)
                    case measure => simp [intOf]; omega
              · have hnb : ((nh : Int) != 2) = true := by rw [bne_iff_ne]; omega
                have HNN := Lib.hid (HRN.out (by rw [HRD.out, if_pos (.inr hn2)]))
                clear hcd hn2
                have HBX2 := Lib.hid (HBX.out.trans (HBN.out.mono HBX.out.size))
                go_upto_region 14 with fail
                have hk0 := HK0.out.below HBX2.out HK0.out.lt
                have f0 : wn.cell? ⟨w.heap.size, 0, none⟩ = some (.int .i64 0) := hk0.cell 0
                have f1 : wn.cell? ⟨w.heap.size, 1, none⟩ = some (.slice none 0 0) := hk0.cell 1
                have f2 := hk0.frozen 0
                have f3 := hk0.frozen 1
                have HBW := Lib.hid (HB.out.trans (HBX2.out.mono HB.out.size))
                clear hk0
                go_wp2_with fail
                have c0 := Chg.refl w.heap.size (w.heap.size + 1) wn
                have c1' := c0.setCell (p := ⟨w.heap.size, 0, none⟩) (Nat.le_refl _) (by simp) (.int .i64 0)
                have c2' := c1'.setCell (p := ⟨w.heap.size, 1, none⟩) (Nat.le_refl _) (by simp) (.slice none 0 0)
                have hsz := c2'.size
                have hsb := HBW.out.size
                obtain ⟨hR, hC⟩ := HNN.out
                subst hR
                subst hC
                exact bodyPost_ret (v := .tuple #[.agg #[.int .i64 ((0 : Nat) : Int), .slice none 0 0], .int .i64 6]) (by simp [results, Tryz.results5, go_sem, f0, f1]) rfl ⟨_, rfl, ⟨Nat.le_refl _, [], [], (PFd.nil _ w.heap.size).mono (Nat.le_refl _) (by omega)⟩, c2'.below HBW.out (Nat.le_refl _) (by omega)⟩
            · have hcb : (cd != 0) = true := by simpa using hcd
              have HNN := Lib.hid (HRN.out (by rw [HRD.out, if_pos (.inl hcd)]))
              clear hcd
              have HBX2 := Lib.hid (HBX.out.trans (HBN.out.mono HBX.out.size))
              go_upto_region 14 with fail
              have hk0 := HK0.out.below HBX2.out HK0.out.lt
              have f0 : wn.cell? ⟨w.heap.size, 0, none⟩ = some (.int .i64 0) := hk0.cell 0
              have f1 : wn.cell? ⟨w.heap.size, 1, none⟩ = some (.slice none 0 0) := hk0.cell 1
              have f2 := hk0.frozen 0
              have f3 := hk0.frozen 1
              have HBW := Lib.hid (HB.out.trans (HBX2.out.mono HB.out.size))
              clear hk0
              go_wp2_with fail
              have c0 := Chg.refl w.heap.size (w.heap.size + 1) wn
              have c1' := c0.setCell (p := ⟨w.heap.size, 0, none⟩) (Nat.le_refl _) (by simp) (.int .i64 0)
              have c2' := c1'.setCell (p := ⟨w.heap.size, 1, none⟩) (Nat.le_refl _) (by simp) (.slice none 0 0)
              have hsz := c2'.size
              have hsb := HBW.out.size
              obtain ⟨hR, hC⟩ := HNN.out
              subst hR
              subst hC
              exact bodyPost_ret (v := .tuple #[.agg #[.int .i64 ((0 : Nat) : Int), .slice none 0 0], .int .i64 6]) (by simp [results, Tryz.results5, go_sem, f0, f1]) rfl ⟨_, rfl, ⟨Nat.le_refl _, [], [], (PFd.nil _ w.heap.size).mono (Nat.le_refl _) (by omega)⟩, c2'.below HBW.out (Nat.le_refl _) (by omega)⟩
          · have hqe : q = ws.length := by omega
            subst hqe
            have hop := HOQ.out
            rw [List.take_length] at hop
            have HRR := Lib.hid (show rdP rdMR t = some ms by rw [HRP.out, if_neg hz]; exact hop)
            clear hop hz
            have HOT := Lib.hid (optL_take HOP.out HTK.out HRR.out)
            have HMO := Lib.hid (show OMo wx wq.heap.size wx.heap.size (.slice Al ws.length cl) ms from ⟨us, HM.out⟩)
            have hk1 := HK1.out.below HBX.out HK1.out.lt
            have q1 : wx.cell? ⟨p, 1, none⟩ = some u := hk1.cell 1
            have HO5 := Lib.hid (HO.out.below HBX.out)
            have HOW5 := Lib.hid (HF.out.own.below HBX.out)
            clear hk1
            go_wp2_with (at_builtin; go_loud (refine wpList_app1 T_mrsP (W := wx) (B := p + 1) (v := u) (vs := vs) HOW5.out (by omega) (by have h1 := HF.out.le; have h2 := HBX.out.size; omega) (by rfl) rfl (by rfl) (by rfl) (by rfl) ?_; intro v6 w6 hown6 hgr6; obtain ⟨A6, c6, hv6, -⟩ := hown6.cells.open_; rw [List.length_append, List.length_singleton, hvk] at hv6; subst hv6; have HPR := Lib.hid (pf_round HP.out HK1.out HK0.out HF.out HB.out HBX.out HMO.out hown6 hgr6); have hk6 := HPR.out.1; have q6 : w6.cell? ⟨p, 1, none⟩ = some u := hk6.cell 1; have q7 : w6.frozen? ⟨p, 1, none⟩ = false := hk6.frozen 1; have HN6 := Lib.hid hown6; have HG6 := Lib.hid hgr6; clear hk6 hown6 hgr6))
            go_roundw
            case rel =>
              obtain ⟨-, a1, a2, a3, a4⟩ := HPR.out
              refine ⟨k + 1, _, _, _, pss ++ [ms], by omega, by go_num, HOT, by rw [List.length_append, hpl]; rfl, Lib.hid a1, Lib.hid a2, Lib.hid a3, Lib.hid ?_, Lib.hid a4⟩
              have h1 := HO5.out.kept HG6.out.1 (HO5.out.bt.ne HOW5.out.bt (by decide))
              refine h1.of_block fun b hb => Below.heap_setCell w6 ⟨p, 1, none⟩ _ b (fun e => ?_)
              have h2 := (HPR.out.1 : Blk w6 p tFq _)
              simp only at e
              subst e
              exact absurd hb (h1.ne_blkP h2 (by decide))
            case measure => simp [intOf]; omega
    · have hke : k = ts.length := by omega
      subst hke
      have hop := HOP.out
      rw [List.take_length] at hop
      have HRS := Lib.hid (HRF.out.trans hop)
      obtain ⟨hs1, hs2⟩ := HSZ.out pss HRS.out
      have HS2 := Lib.hid hs2
      clear hop hs2
      obtain ⟨n, hn⟩ : ∃ n, n = ts.length := ⟨_, rfl⟩
      rw [← hn] at HK1 HO hpl hnl hvk ⊢
      clear hn
      rw [hvk] at hu0
      subst hu0
      have HPL := Lib.hid hpl
      clear hvl hvk hpl
      have hn64 : In64 ((n : Nat) : Int) := by unfold In64; omega
      have HFA := Lib.hid (show FieldArg wq (.agg #[.int .i64 ((n : Nat) : Int), .slice Au n cu]) ((n : Nat) : Int) pss from ⟨_, rfl, hn64, HF.out.mrows⟩)
      have HIF := Lib.hid (s_l13Is wq _ ((n : Nat) : Int) pss HFA.out (fun ms h1 m h2 => by have := (HS2.out ms h1).2 m h2; omega))
      have e0 : wq.cell? ⟨p, 0, none⟩ = some (.int .i64 ((n : Nat) : Int)) := HK1.out.cell 0
      have e1 : wq.cell? ⟨p, 1, none⟩ = some (.slice Au n cu) := HK1.out.cell 1
      have hpli : ((pss.length : Nat) : Int) = ((n : Nat) : Int) := by have := HPL.out; omega
      cases hfb : fieldB ((n : Nat) : Int) pss with
      | false =>
        rw [hfb] at HIF
        have HNN := Lib.hid (HPN.out (pfX_none2 HRS.out (fun h => by rw [hpli, hfb] at h; cases h.1)))
        clear hfb hpli
        go_upto_region 23 with (go_at_call 19; refine HIF.out.mono ?_; rintro e w5 ⟨rfl, hb5⟩; have HB5 := Lib.hid hb5; clear hb5)
        clear e0 e1
        have hk0 := HK0.out.below HB5.out HK0.out.lt
        have f0 : w5.cell? ⟨w.heap.size, 0, none⟩ = some (.int .i64 0) := hk0.cell 0
        have f1 : w5.cell? ⟨w.heap.size, 1, none⟩ = some (.slice none 0 0) := hk0.cell 1
        have f2 := hk0.frozen 0
        have f3 := hk0.frozen 1
        have HBW := Lib.hid (HB.out.trans (HB5.out.mono HB.out.size))
        clear hk0
        go_wp2_with fail
        have c0 := Chg.refl w.heap.size (w.heap.size + 1) w5
        have c1' := c0.setCell (p := ⟨w.heap.size, 0, none⟩) (Nat.le_refl _) (by simp) (.int .i64 0)
        have c2' := c1'.setCell (p := ⟨w.heap.size, 1, none⟩) (Nat.le_refl _) (by simp) (.slice none 0 0)
        have hsz := c2'.size
        have hsb := HBW.out.size
        obtain ⟨hR, hC⟩ := HNN.out
        subst hR
        subst hC
        exact bodyPost_ret (v := .tuple #[.agg #[.int .i64 ((0 : Nat) : Int), .slice none 0 0], .int .i64 6]) (by simp [results, Tryz.results5, go_sem, f0, f1]) rfl ⟨_, rfl, ⟨Nat.le_refl _, [], [], (PFd.nil _ w.heap.size).mono (Nat.le_refl _) (by omega)⟩, c2'.below HBW.out (Nat.le_refl _) (by omega)⟩
      | true =>
        rw [hfb] at HIF
        have HFT := Lib.hid (fun W (hW : Below wq.heap.size wq W) => s_l13Text W _ ((n : Nat) : Int) pss (HFA.out.below hW) hfb (fun ms h => by have := (HS2.out ms h).1; omega))
        by_cases hft : fldTx pss = l
        · have HSS := Lib.hid (HPS.out pss (pfX_some HRS.out (by rw [hpli]; exact hfb) hft))
          rw [hft] at HFT
          clear hfb hft hpli
          go_upto_region 24 with (first
            | (go_at_call 19; refine HIF.out.mono ?_; rintro e w5 ⟨rfl, hb5⟩; have HB5 := Lib.hid hb5; have hk5 := HK1.out.below hb5 HK1.out.lt; have e05 : w5.cell? ⟨p, 0, none⟩ = some (.int .i64 ((n : Nat) : Int)) := hk5.cell 0; have e15 : w5.cell? ⟨p, 1, none⟩ = some (.slice Au n cu) := hk5.cell 1; clear hk5 hb5)
            | (go_at_call 20; refine (HFT.out _ HB5.out).mono ?_; rintro e w6 ⟨rfl, hb6⟩; have HB6 := Lib.hid (HB5.out.trans (hb6.mono HB5.out.size)); clear hb6))
          clear e0 e1 e05 e15
          have hk1 := HK1.out.below HB6.out HK1.out.lt
          have hk0 := HK0.out.below HB6.out HK0.out.lt
          have e0 : w6.cell? ⟨p, 0, none⟩ = some (.int .i64 ((n : Nat) : Int)) := hk1.cell 0
          have e1 : w6.cell? ⟨p, 1, none⟩ = some (.slice Au n cu) := hk1.cell 1
          have f0 : w6.cell? ⟨w.heap.size, 0, none⟩ = some (.int .i64 0) := hk0.cell 0
          have f1 : w6.cell? ⟨w.heap.size, 1, none⟩ = some (.slice none 0 0) := hk0.cell 1
          have f2 := hk0.frozen 0
          have f3 := hk0.frozen 1
          have HBW := Lib.hid (HB.out.trans (HB6.out.mono HB.out.size))
          have HPF := Lib.hid (HF.out.agree (Same.of_below HB6.out (Nat.le_refl _)))
          clear hk0 hk1
          go_wp2_with fail
          have c0 := Chg.refl w.heap.size (w.heap.size + 1) w6
          have c1' := c0.setCell (p := ⟨w.heap.size, 0, none⟩) (Nat.le_refl _) (by simp) (.int .i64 ((n : Nat) : Int))
          have c2' := c1'.setCell (p := ⟨w.heap.size, 1, none⟩) (Nat.le_refl _) (by simp) (.slice Au n cu)
          have hsz := c2'.size
          have hsb := HBW.out.size
          have hs6 := HB6.out.size
          have hpp := HP.out
          obtain ⟨hR, hC⟩ := HSS.out
          subst hR
          subst hC
          have HPG := ((HPF.out.agree (Same.of_chg c2' (by omega) (.inr (by omega)))).mono (B' := w.heap.size) (by omega) (Nat.le_trans hs6 hsz))
          rw [HPL.out]
          exact bodyPost_ret (v := .tuple #[.agg #[.int .i64 ((n : Nat) : Int), .slice Au n cu], .int .i64 0]) (by simp [results, Tryz.results5, go_sem, f0, f1]) rfl ⟨_, rfl, ⟨Nat.le_refl _, _, _, HPG⟩, c2'.below HBW.out (Nat.le_refl _) (by omega)⟩
        · have HNN := Lib.hid (HPN.out (pfX_none2 HRS.out (fun h => hft h.2)))
          have hne : (fldTx pss == l) = false := beq_eq_false_iff_ne.2 hft
          obtain ⟨F, hF⟩ : ∃ F, F = fldTx pss := ⟨_, rfl⟩
          rw [← hF] at HFT hne
          clear hfb hft hpli hF
          go_upto_region 23 with (first
            | (go_at_call 19; refine HIF.out.mono ?_; rintro e w5 ⟨rfl, hb5⟩; have HB5 := Lib.hid hb5; have hk5 := HK1.out.below hb5 HK1.out.lt; have e05 : w5.cell? ⟨p, 0, none⟩ = some (.int .i64 ((n : Nat) : Int)) := hk5.cell 0; have e15 : w5.cell? ⟨p, 1, none⟩ = some (.slice Au n cu) := hk5.cell 1; clear hk5 hb5)
            | (go_at_call 20; refine (HFT.out _ HB5.out).mono ?_; rintro e w6 ⟨rfl, hb6⟩; have HB6 := Lib.hid (HB5.out.trans (hb6.mono HB5.out.size)); clear hb6))
          clear e0 e1 e05 e15
          have hk0 := HK0.out.below HB6.out HK0.out.lt
          have f0 : w6.cell? ⟨w.heap.size, 0, none⟩ = some (.int .i64 0) := hk0.cell 0
          have f1 : w6.cell? ⟨w.heap.size, 1, none⟩ = some (.slice none 0 0) := hk0.cell 1
          have f2 := hk0.frozen 0
          have f3 := hk0.frozen 1
          have HBW := Lib.hid (HB.out.trans (HB6.out.mono HB.out.size))
          clear hk0
          go_wp2_with fail
          have c0 := Chg.refl w.heap.size (w.heap.size + 1) w6
          have c1' := c0.setCell (p := ⟨w.heap.size, 0, none⟩) (Nat.le_refl _) (by simp) (.int .i64 0)
          have c2' := c1'.setCell (p := ⟨w.heap.size, 1, none⟩) (Nat.le_refl _) (by simp) (.slice none 0 0)
          have hsz := c2'.size
          have hsb := HBW.out.size
          obtain ⟨hR, hC⟩ := HNN.out
          subst hR
          subst hC
          exact bodyPost_ret (v := .tuple #[.agg #[.int .i64 ((0 : Nat) : Int), .slice none 0 0], .int .i64 6]) (by simp [results, Tryz.results5, go_sem, f0, f1]) rfl ⟨_, rfl, ⟨Nat.le_refl _, [], [], (PFd.nil _ w.heap.size).mono (Nat.le_refl _) (by omega)⟩, c2'.below HBW.out (Nat.le_refl _) (by omega)⟩
end Go.Proofs.YtnnfjjadehgmeaaGreatDoor

set_option maxRecDepth 100000
set_option linter.unusedVariables false
set_option linter.unusedSimpArgs false
namespace Go.Proofs.YtnnfjjadehgmeaaGreatDoor
open Go.RowKit

theorem mTx_tot (m : Mono) : 1 + m.2.length ≤ (mTx m).length := by
  unfold mTx
  rw [List.length_append, List.length_cons, List.length_map]; omega
theorem joinTail_le {α : Type} {f : α → List UInt8} {sz : α → Nat} {sep : List UInt8} : ∀ (r : List α), (∀ x ∈ r, sz x ≤ (f x).length) → (r.map sz).sum ≤ (Lib.joinTail sep (r.map f)).length
  | [], _ => by simp
  | x :: r, h => by
    have h1 := h x (by simp)
    have h2 := joinTail_le (sep := sep) r fun y hy => h y (by simp [hy])
    simp only [Lib.joinTail, List.map_cons, List.flatten_cons, List.length_append, List.sum_cons] at h2 ⊢
    omega
theorem join_le {α : Type} {f : α → List UInt8} {sz : α → Nat} {sep : List UInt8} (r : List α) (h : ∀ x ∈ r, sz x ≤ (f x).length) : (r.map sz).sum ≤ (Lib.join (r.map f) sep).length := by
  cases r with
  | nil => simp
  | cons x r =>
    have h1 := h x (by simp)
    have h2 := joinTail_le (sep := sep) r fun y hy => h y (by simp [hy])
    rw [List.map_cons, List.map_cons, Lib.join_cons, List.length_append, List.sum_cons]
    omega
theorem msTot_sum : ∀ ms : List Mono, msTot ms = (ms.map fun m => 1 + m.2.length).sum
  | [] => rfl
  | m :: r => by rw [msTot, msTot_sum r, List.map_cons, List.sum_cons]
theorem fTot_sum : ∀ pss : List (List Mono), fTot pss = (pss.map msTot).sum
  | [] => rfl
  | m :: r => by rw [fTot, fTot_sum r, List.map_cons, List.sum_cons]
theorem parTx_tot (ms : List Mono) : msTot ms ≤ (parTx ms).length := by
  rw [msTot_sum]
  unfold parTx
  by_cases h : ms = []
  · subst h; simp
  · rw [if_neg h]
    exact join_le ms fun m _ => mTx_tot m
theorem fldTx_tot (pss : List (List Mono)) : fTot pss ≤ (fldTx pss).length := by
  rw [fTot_sum]
  unfold fldTx
  exact join_le pss fun m _ => parTx_tot m
theorem pfR_tot (l : List UInt8) : fTot (pfR l) ≤ l.length ∧ (pfR l).length ≤ 3 := by
  unfold pfR
  cases h : pfX rdMF l with
  | none => simp [fTot]
  | some pss =>
    obtain ⟨h1, h2⟩ := pfX_sound h
    refine ⟨?_, (fieldB_mono h1).2.1⟩
    rw [← h2]
    exact fldTx_tot pss
end Go.Proofs.YtnnfjjadehgmeaaGreatDoor

