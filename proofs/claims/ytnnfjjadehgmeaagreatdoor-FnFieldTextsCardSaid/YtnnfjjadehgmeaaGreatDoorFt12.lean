/- Walk of the program: ParseField. | Walks: lists of numbers that are drawn: l01List of the reference, list5 of the laws. | Walks: maps that are drawn by the reference for substitutions. | Walk of the reference: l13Draw. -/
import Derived.Test.YtnnfjjadehgmeaaGreatDoorFt9
import Derived.Test.YtnnfjjadehgmeaaGreatDoorFt11
import Derived.Test.YtnnfjjadehgmeaaGreatDoorFt10
set_option maxRecDepth 100000
set_option linter.unusedVariables false
set_option linter.unusedSimpArgs false
namespace Go.Proofs.YtnnfjjadehgmeaaGreatDoor
open Go.RowKit

abbrev tFq : TypeId := 24
theorem T_mrsP : ElemT Tryz.prog 22 tMs (.slice none 0 0) 24 := ⟨Tryz.underlying22, by kernel_rfl, rfl, by omega⟩
theorem lib_lengthS (w : World) (A : Option Addr) (n c : Nat) : Calls Tryz.prog 22 #[.slice A n c] w fun e w' => e = .returned (.int .i64 n) ∧ w = w' := by
  go_enter Tryz.func22, Tryz.ntmps22
  go_wp2
  go_ret
  exact ⟨rfl, rfl⟩
theorem i_readPartS (w : World) (l : List UInt8) (hl : l.length ≤ 4294967000) (h : LibOK w) {ms : List Mono} (hr : rdP rdMF l = some ms) :
    Calls Tryz.prog 23 #[strB l] w fun e w' => ∃ v, e = .returned (.tuple #[v, .bool true]) ∧ OMo w' w.heap.size w'.heap.size v ms ∧ Below w.heap.size w w' := by
  refine (i_readPart w l hl h).mono fun e w' ⟨hb, hres⟩ => ?_
  rcases hres with ⟨v, ms', he, hr', ho⟩ | ⟨_, hr'⟩
  · rw [hr] at hr'
    injection hr' with hr'
    subst hr'
    exact ⟨v, he, ho, hb⟩
  · rw [hr] at hr'; cases hr'
theorem i_readPartN (w : World) (l : List UInt8) (hl : l.length ≤ 4294967000) (h : LibOK w) (hr : rdP rdMF l = none) :
    Calls Tryz.prog 23 #[strB l] w fun e w' => e = .returned (.tuple #[.slice none 0 0, .bool false]) ∧ Below w.heap.size w w' := by
  refine (i_readPart w l hl h).mono fun e w' ⟨hb, hres⟩ => ?_
  rcases hres with ⟨v, ms', he, hr', ho⟩ | ⟨he, hr'⟩
  · rw [hr] at hr'; cases hr'
  · exact ⟨he, hb⟩
theorem Own.ne_blkP {w : World} {B p : Nat} {e t : TypeId} {v : Value} {vs : List Value} {cs : Array Value} (h : Own w B e v vs) (hk : Blk w p t cs) (hne : e ≠ t) : v.ownBlock ≠ some p := by
  intro hb
  rcases h.cases with ⟨rfl, _⟩ | ⟨g, cap, cur, rfl, _, _, hg, _⟩
  · simp [Value.ownBlock] at hb
  · simp [Value.ownBlock] at hb
    subst hb
    have h2 : w.heap[g]? = some (.cells cs t (0, 0)) := hk
    rw [hg] at h2
    simp at h2
    exact hne h2.2
/-- one part more in the field that is filled -/
theorem pf_round {w wr w5 w6 : World} {p n : Nat} {u v u6 : Value} {vs : List Value} {ivs : List (Nat × Nat)} {pss : List (List Mono)} {ms : List Mono} (hp : w.heap.size < p) (k1 : Blk wr p tFq #[.int .i64 n, u]) (k0 : Blk wr w.heap.size tFq #[.int .i64 0, .slice none 0 0]) (hf : PFd wr (p + 1) wr.heap.size u vs ivs pss) (hb : Below w.heap.size w wr)
    (h5 : Below wr.heap.size wr w5) (ho5 : OMo w5 wr.heap.size w5.heap.size v ms) (hn : Own w6 (p + 1) tMs u6 (vs ++ [v])) (hg : Grow w5 w6 u u6) :
    Blk w6 p tFq #[.int .i64 n, u] ∧ Blk (w6.setCell ⟨p, 1, none⟩ u6) p tFq #[.int .i64 n, u6] ∧ Blk (w6.setCell ⟨p, 1, none⟩ u6) w.heap.size tFq #[.int .i64 0, .slice none 0 0] ∧ PFd (w6.setCell ⟨p, 1, none⟩ u6) (p + 1) (w6.setCell ⟨p, 1, none⟩ u6).heap.size u6 (vs ++ [v]) (ivs ++ [(wr.heap.size, w5.heap.size)]) (pss ++ [ms]) ∧ Below w.heap.size w (w6.setCell ⟨p, 1, none⟩ u6) := by
  have hpu : u.ownBlock ≠ some p := fun e => by have h1 := hf.own.ge _ e; omega
  have h0u : u.ownBlock ≠ some w.heap.size := fun e => by have h1 := hf.own.ge _ e; omega
  have hf6 := hf.step (Nat.le_refl _) h5 ho5 (Below.refl w5.heap.size w5) hn hg
  have hsame : Same (p + 1) w6.heap.size w6 (w6.setCell ⟨p, 1, none⟩ u6) := fun k h1 _ => Below.heap_setCell w6 ⟨p, 1, none⟩ _ k (by show k ≠ p; omega)
  have hk6 := (k1.below h5 k1.lt).growP hg hpu
  have hs : (w6.setCell ⟨p, 1, none⟩ u6).heap.size = w6.heap.size := by simp [World.setCell]
  have hb6 : Below w.heap.size w w6 := hg.below (hb.trans (h5.mono hb.size)) (Nat.le_trans hb.size h5.size) (fun b hb => by have h1 := hf.own.ge _ hb; omega)
  refine ⟨hk6, hk6.set_ 1 u6, ((k0.below h5 k0.lt).growP hg h0u).far (p := ⟨p, 1, none⟩) (by simp; omega) u6, ?_, hb6.setCell (by show w.heap.size ≤ p; omega) _⟩
  rw [hs]
  exact hf6.agree hsame
set_option maxHeartbeats 8000000 in
theorem i_ParseField (w : World) (l : List UInt8) (hl : l.length ≤ 4294960000) (h : LibOK w) :
    Calls Tryz.prog 6 #[strB l] w fun e w' => ∃ u, e = .returned (.tuple #[.agg #[.int .i64 ((pfR l).length : Nat), u], .int .i64 (pfC l)]) ∧ FdO w' w.heap.size w'.heap.size u (pfR l) ∧ Below w.heap.size w w' := by
  have HPN := Lib.hid (fun (hn : pfX rdMF l = none) => pf_none (l := l) rfl hn)
  have HPS := Lib.hid (fun pss (hs : pfX rdMF l = some pss) => pf_some (l := l) rfl hs)
  obtain ⟨R, hR⟩ : ∃ R, R = pfR l := ⟨_, rfl⟩
  obtain ⟨C, hC⟩ : ∃ C, C = pfC l := ⟨_, rfl⟩
  rw [← hR, ← hC] at HPN HPS ⊢
  clear hR hC
  obtain ⟨w1, hw1⟩ : ∃ w1, w1 = w.alloc (.cells #[.int .i64 0, .slice none 0 0] tFq) := ⟨_, rfl⟩
  have K0 := Lib.hid (show Blk w1 w.heap.size tFq #[.int .i64 0, .slice none 0 0] by rw [hw1]; exact Blk.new _ _ _)
  have HB1 := Lib.hid (show Below w.heap.size w w1 by rw [hw1]; exact below1 w _)
  have HLW := Lib.hid h
  have HSP := Lib.hid (lib_Split 59 l w1 (by omega) (h.below HB1.out))
  have HSZ := Lib.hid (fun pss (hs : rdF rdMF l = some pss) => rdF_size thinF hs)
  have HRF := Lib.hid (show rdF rdMF l = optL (rdP rdMF) (splB 59 l) from rfl)
  have HTL := Lib.hid (splB_mem_len 59 l)
  have hnl := splB_len 59 l
  generalize splB 59 l = ts at HSP HRF HTL hnl
  clear h
  go_enter Tryz.func6, Tryz.ntmps6
  go_upto_region 1 with fail
  first | rw [← hw1] | skip
  clear hw1
  go_upto_region 2 with (go_at_call 21; refine HSP.out.mono ?_; rintro e w2 ⟨g, c, rfl, ho2, hb2⟩; have HO2 := Lib.hid ho2; have HB2 := Lib.hid hb2; clear ho2 hb2)
  obtain ⟨w4, hw4⟩ : ∃ w4, w4 = w2.alloc (.cells #[.int .i64 (ts.length : Nat), .slice none 0 0] tFq) := ⟨_, rfl⟩
  obtain ⟨p, hp⟩ : ∃ p, p = w2.heap.size := ⟨_, rfl⟩
  have HW2 := Lib.hid (HB1.out.trans (HB2.out.mono HB1.out.size))
  have K1 := Lib.hid (show Blk w4 p tFq #[.int .i64 (ts.length : Nat), .slice none 0 0] by rw [hw4, hp]; exact Blk.new _ _ _)
  have K04 := Lib.hid (show Blk w4 w.heap.size tFq #[.int .i64 0, .slice none 0 0] by rw [hw4]; exact (K0.out.below HB2.out K0.out.lt).alloc _)
  have HB4 := Lib.hid (show Below w.heap.size w w4 by rw [hw4]; exact HW2.out.alloc HW2.out.size _)
  have HP := Lib.hid (show w.heap.size < p from by rw [hp]; exact Nat.lt_of_lt_of_le K0.out.lt HB2.out.size)
  have HZ := Lib.hid (show p + 1 ≤ w4.heap.size from K1.out.lt)
  have HO4 := Lib.hid (show Own w4 w.heap.size tStr (.slice (some ⟨g, 0, none⟩) ts.length c) (strs ts) by rw [hw4]; exact (HO2.out.mono HB1.out.size).alloc _)
  go_upto_region 3 with (go_at_call 22; refine (lib_lengthS _ _ _ _).mono ?_; rintro e w3 ⟨rfl, rfl⟩)
  first | rw [← hw4] | skip
  first | rw [← hp] | skip
  clear hw4 hp K0 HB1 HB2 HO2 HW2
  go_wp2_with fail
  go_loopw [17] (fun i wr => ∃ (k : Nat) (u : Value) (vs : List Value) (ivs : List (Nat × Nat)) (pss : List (List Mono)), k ≤ ts.length ∧ i = .int .i64 k ∧ Hid (optL (rdP rdMF) (ts.take k) = some pss) ∧ pss.length = k ∧ Hid (Blk wr p tFq #[.int .i64 (ts.length : Nat), u]) ∧ Hid (Blk wr w.heap.size tFq #[.int .i64 0, .slice none 0 0]) ∧ Hid (PFd wr (p + 1) wr.heap.size u vs ivs pss) ∧ Hid (Own wr w.heap.size tStr (.slice (some ⟨g, 0, none⟩) ts.length c) (strs ts)) ∧ Hid (Below w.heap.size w wr)) (fun i _ => ts.length - (intOf i).toNat)
  case atStart => exact ⟨0, _, [], [], [], Nat.zero_le _, rfl, Lib.hid rfl, rfl, K1, K04, Lib.hid ((PFd.nil w4 (p + 1)).mono (Nat.le_refl _) HZ.out), HO4, HB4⟩
  case round =>
    obtain ⟨k, u, vs, ivs, pss, hk, rfl, HOP, hpl, HK1, HK0, HF, HO, HB⟩ := hrel
    rename World => wq
    clear K1 K04 HB4 HO4 HZ
    obtain ⟨Au, cu, hu0, -⟩ := HF.out.own.cells.open_
    have hvl : vs.length = pss.length := HF.out.len
    have hvk : vs.length = k := by omega
    by_cases hlt : k < ts.length
    · obtain ⟨t, ht⟩ : ∃ t, ts[k]? = some t := ⟨_, List.getElem?_eq_getElem hlt⟩
      have gk : wq.cell? ⟨g, k, none⟩ = some (strB t) := strs_cell HO.out ht
      have hki : (k : Int) < (ts.length : Int) := by omega
      have htl := HTL.out t (List.mem_of_getElem? ht)
      have HTK := Lib.hid ht
      have HLQ := Lib.hid (HLW.out.below HB.out)
      cases hrt : rdP rdMF t with
      | none =>
        have HRP := Lib.hid (i_readPartN wq t (by omega) HLQ.out hrt)
        have HNN := Lib.hid (HPN.out (pfX_none1 (HRF.out.trans (optL_none (List.mem_of_getElem? ht) hrt))))
        clear ht hrt hu0
        go_upto_region 8 with (go_at_call 23; refine HRP.out.mono ?_; rintro e w5 ⟨rfl, hb5⟩; have HB5 := Lib.hid hb5; clear hb5)
        clear gk
        have hk0 := HK0.out.below HB5.out HK0.out.lt
        have f0 : w5.cell? ⟨w.heap.size, 0, none⟩ = some (.int .i64 0) := hk0.cell 0
        have f1 : w5.cell? ⟨w.heap.size, 1, none⟩ = some (.slice none 0 0) := hk0.cell 1
        have f2 := hk0.frozen 0
        have f3 := hk0.frozen 1
        have HBW := Lib.hid (HB.out.trans (HB5.out.mono HB.out.size))
        clear hk0
        go_wp2_with fail
        have c0 := Chg.refl w.heap.size (w.heap.size + 1) w5
        have c1' := c0.setCell (p := ⟨w.heap.size, 0, none⟩) (Nat.le_refl _) (by simp) (.int .i64 0)
        have c2' := c1'.setCell (p := ⟨w.heap.size, 1, none⟩) (Nat.le_refl _) (by simp) (.slice none 0 0)
        have hsz := c2'.size
        have hsb := HBW.out.size
        obtain ⟨hR, hC⟩ := HNN.out
        subst hR
        subst hC
        exact bodyPost_ret (v := .tuple #[.agg #[.int .i64 ((0 : Nat) : Int), .slice none 0 0], .int .i64 6]) (by simp [results, Tryz.results6, go_sem, f0, f1]) rfl ⟨_, rfl, ⟨Nat.le_refl _, [], [], (PFd.nil _ w.heap.size).mono (Nat.le_refl _) (by omega)⟩, c2'.below HBW.out (Nat.le_refl _) (by omega)⟩
      | some ms =>
        have HRP := Lib.hid (i_readPartS wq t (by omega) HLQ.out hrt)
        have HOT := Lib.hid (optL_take HOP.out ht hrt)
        clear ht hrt hu0
        go_upto_region 9 with (go_at_call 23; refine HRP.out.mono ?_; rintro e w5 ⟨v5, rfl, ho5, hb5⟩; have HM5 := Lib.hid ho5; have HB5 := Lib.hid hb5; obtain ⟨A5, c5, hv5, -⟩ := ho5.monos.open_; subst hv5; clear ho5 hb5)
        clear gk
        have hk1 := HK1.out.below HB5.out HK1.out.lt
        have q1 : w5.cell? ⟨p, 1, none⟩ = some u := hk1.cell 1
        have q1a : ∀ o, (w5.alloc o).cell? ⟨p, 1, none⟩ = some u := fun o => (hk1.alloc o).cell 1
        have HO5 := Lib.hid (HO.out.below HB5.out)
        have HOW5 := Lib.hid (HF.out.own.below HB5.out)
        clear hk1
        go_wp2_with (at_builtin; go_loud (refine wpList_app1 T_mrsP (W := w5) (B := p + 1) (v := u) (vs := vs) HOW5.out (by omega) (by have h1 := HF.out.le; have h2 := HB5.out.size; omega) (by rfl) rfl (by rfl) (by rfl) (by rfl) ?_; intro v6 w6 hown6 hgr6; obtain ⟨A6, c6, hv6, -⟩ := hown6.cells.open_; rw [List.length_append, List.length_singleton, hvk] at hv6; subst hv6; have HPR := Lib.hid (pf_round HP.out HK1.out HK0.out HF.out HB.out HB5.out HM5.out hown6 hgr6); have hk6 := HPR.out.1; have q6 : w6.cell? ⟨p, 1, none⟩ = some u := hk6.cell 1; have q7 : w6.frozen? ⟨p, 1, none⟩ = false := hk6.frozen 1; have HN6 := Lib.hid hown6; have HG6 := Lib.hid hgr6; clear hk6 hown6 hgr6))
        go_roundw
        case rel =>
          obtain ⟨-, a1, a2, a3, a4⟩ := HPR.out
          refine ⟨k + 1, _, _, _, pss ++ [ms], by omega, by go_num, HOT, by rw [List.length_append, hpl]; rfl, Lib.hid a1, Lib.hid a2, Lib.hid a3, Lib.hid ?_, Lib.hid a4⟩
          have h1 := HO5.out.kept HG6.out.1 (HO5.out.bt.ne HOW5.out.bt (by decide))
          refine h1.of_block fun b hb => Below.heap_setCell w6 ⟨p, 1, none⟩ _ b (fun e => ?_)
          have h2 := (HPR.out.1 : Blk w6 p tFq _)
          simp only at e
          subst e
          exact absurd hb (h1.ne_blkP h2 (by decide))
        case measure => simp [intOf]; omega
    · have hke : k = ts.length := by omega
      subst hke
      have hop := HOP.out
      rw [List.take_length] at hop
      have HRS := Lib.hid (HRF.out.trans hop)
      obtain ⟨hs1, hs2⟩ := HSZ.out pss HRS.out
      have HS2 := Lib.hid hs2
      clear hop hs2
      obtain ⟨n, hn⟩ : ∃ n, n = ts.length := ⟨_, rfl⟩
      rw [← hn] at HK1 HO hpl hnl hvk ⊢
      clear hn
      rw [hvk] at hu0
      subst hu0
      have HPL := Lib.hid hpl
      clear hvl hvk hpl
      have hn64 : In64 ((n : Nat) : Int) := by unfold In64; omega
      have HFA := Lib.hid (show FieldArg wq (.agg #[.int .i64 ((n : Nat) : Int), .slice Au n cu]) ((n : Nat) : Int) pss from ⟨_, rfl, hn64, HF.out.mrows⟩)
      have HIF := Lib.hid (i_IsField wq _ ((n : Nat) : Int) pss HFA.out (fun ms h1 m h2 => by have := (HS2.out ms h1).2 m h2; omega))
      have e0 : wq.cell? ⟨p, 0, none⟩ = some (.int .i64 ((n : Nat) : Int)) := HK1.out.cell 0
      have e1 : wq.cell? ⟨p, 1, none⟩ = some (.slice Au n cu) := HK1.out.cell 1
      have hpli : ((pss.length : Nat) : Int) = ((n : Nat) : Int) := by have := HPL.out; omega
      cases hfb : fieldB ((n : Nat) : Int) pss with
      | false =>
        rw [hfb] at HIF
        have HNN := Lib.hid (HPN.out (pfX_none2 HRS.out (fun h => by rw [hpli, hfb] at h; cases h.1)))
        clear hfb hpli
        go_upto_region 12 with (go_at_call 14; refine HIF.out.mono ?_; rintro e w5 ⟨rfl, hb5⟩; have HB5 := Lib.hid hb5; clear hb5)
        clear e0 e1
        have hk0 := HK0.out.below HB5.out HK0.out.lt
        have f0 : w5.cell? ⟨w.heap.size, 0, none⟩ = some (.int .i64 0) := hk0.cell 0
        have f1 : w5.cell? ⟨w.heap.size, 1, none⟩ = some (.slice none 0 0) := hk0.cell 1
        have f2 := hk0.frozen 0
        have f3 := hk0.frozen 1
        have HBW := Lib.hid (HB.out.trans (HB5.out.mono HB.out.size))
        clear hk0
        go_wp2_with fail
        have c0 := Chg.refl w.heap.size (w.heap.size + 1) w5
        have c1' := c0.setCell (p := ⟨w.heap.size, 0, none⟩) (Nat.le_refl _) (by simp) (.int .i64 0)
        have c2' := c1'.setCell (p := ⟨w.heap.size, 1, none⟩) (Nat.le_refl _) (by simp) (.slice none 0 0)
        have hsz := c2'.size
        have hsb := HBW.out.size
        obtain ⟨hR, hC⟩ := HNN.out
        subst hR
        subst hC
        exact bodyPost_ret (v := .tuple #[.agg #[.int .i64 ((0 : Nat) : Int), .slice none 0 0], .int .i64 6]) (by simp [results, Tryz.results6, go_sem, f0, f1]) rfl ⟨_, rfl, ⟨Nat.le_refl _, [], [], (PFd.nil _ w.heap.size).mono (Nat.le_refl _) (by omega)⟩, c2'.below HBW.out (Nat.le_refl _) (by omega)⟩
      | true =>
        rw [hfb] at HIF
        have HFT := Lib.hid (fun W (hW : Below wq.heap.size wq W) => i_fieldText W _ ((n : Nat) : Int) pss (HFA.out.below hW) hfb (fun ms h => by have := (HS2.out ms h).1; omega) (HLW.out.below (HB.out.trans (hW.mono HB.out.size))).pow)
        by_cases hft : fldTx pss = l
        · have HSS := Lib.hid (HPS.out pss (pfX_some HRS.out (by rw [hpli]; exact hfb) hft))
          rw [hft] at HFT
          clear hfb hft hpli
          go_upto_region 13 with (first
            | (go_at_call 14; refine HIF.out.mono ?_; rintro e w5 ⟨rfl, hb5⟩; have HB5 := Lib.hid hb5; have hk5 := HK1.out.below hb5 HK1.out.lt; have e05 : w5.cell? ⟨p, 0, none⟩ = some (.int .i64 ((n : Nat) : Int)) := hk5.cell 0; have e15 : w5.cell? ⟨p, 1, none⟩ = some (.slice Au n cu) := hk5.cell 1; clear hk5 hb5)
            | (go_at_call 24; refine (HFT.out _ HB5.out).mono ?_; rintro e w6 ⟨rfl, hb6⟩; have HB6 := Lib.hid (HB5.out.trans (hb6.mono HB5.out.size)); clear hb6))
          clear e0 e1 e05 e15
          have hk1 := HK1.out.below HB6.out HK1.out.lt
          have hk0 := HK0.out.below HB6.out HK0.out.lt
          have e0 : w6.cell? ⟨p, 0, none⟩ = some (.int .i64 ((n : Nat) : Int)) := hk1.cell 0
          have e1 : w6.cell? ⟨p, 1, none⟩ = some (.slice Au n cu) := hk1.cell 1
          have f0 : w6.cell? ⟨w.heap.size, 0, none⟩ = some (.int .i64 0) := hk0.cell 0
          have f1 : w6.cell? ⟨w.heap.size, 1, none⟩ = some (.slice none 0 0) := hk0.cell 1
          have f2 := hk0.frozen 0
          have f3 := hk0.frozen 1
          have HBW := Lib.hid (HB.out.trans (HB6.out.mono HB.out.size))
          have HPF := Lib.hid (HF.out.agree (Same.of_below HB6.out (Nat.le_refl _)))
          clear hk0 hk1
          go_wp2_with fail
          have c0 := Chg.refl w.heap.size (w.heap.size + 1) w6
          have c1' := c0.setCell (p := ⟨w.heap.size, 0, none⟩) (Nat.le_refl _) (by simp) (.int .i64 ((n : Nat) : Int))
          have c2' := c1'.setCell (p := ⟨w.heap.size, 1, none⟩) (Nat.le_refl _) (by simp) (.slice Au n cu)
          have hsz := c2'.size
          have hsb := HBW.out.size
          have hs6 := HB6.out.size
          have hpp := HP.out
          obtain ⟨hR, hC⟩ := HSS.out
          subst hR
          subst hC
          have HPG := ((HPF.out.agree (Same.of_chg c2' (by omega) (.inr (by omega)))).mono (B' := w.heap.size) (by omega) (Nat.le_trans hs6 hsz))
          rw [HPL.out]
          exact bodyPost_ret (v := .tuple #[.agg #[.int .i64 ((n : Nat) : Int), .slice Au n cu], .int .i64 0]) (by simp [results, Tryz.results6, go_sem, f0, f1]) rfl ⟨_, rfl, ⟨Nat.le_refl _, _, _, HPG⟩, c2'.below HBW.out (Nat.le_refl _) (by omega)⟩
        · have HNN := Lib.hid (HPN.out (pfX_none2 HRS.out (fun h => hft h.2)))
          have hne : (fldTx pss == l) = false := beq_eq_false_iff_ne.2 hft
          obtain ⟨F, hF⟩ : ∃ F, F = fldTx pss := ⟨_, rfl⟩
          rw [← hF] at HFT hne
          clear hfb hft hpli hF
          go_upto_region 12 with (first
            | (go_at_call 14; refine HIF.out.mono ?_; rintro e w5 ⟨rfl, hb5⟩; have HB5 := Lib.hid hb5; have hk5 := HK1.out.below hb5 HK1.out.lt; have e05 : w5.cell? ⟨p, 0, none⟩ = some (.int .i64 ((n : Nat) : Int)) := hk5.cell 0; have e15 : w5.cell? ⟨p, 1, none⟩ = some (.slice Au n cu) := hk5.cell 1; clear hk5 hb5)
            | (go_at_call 24; refine (HFT.out _ HB5.out).mono ?_; rintro e w6 ⟨rfl, hb6⟩; have HB6 := Lib.hid (HB5.out.trans (hb6.mono HB5.out.size)); clear hb6))
          clear e0 e1 e05 e15
          have hk0 := HK0.out.below HB6.out HK0.out.lt
          have f0 : w6.cell? ⟨w.heap.size, 0, none⟩ = some (.int .i64 0) := hk0.cell 0
          have f1 : w6.cell? ⟨w.heap.size, 1, none⟩ = some (.slice none 0 0) := hk0.cell 1
          have f2 := hk0.frozen 0
          have f3 := hk0.frozen 1
          have HBW := Lib.hid (HB.out.trans (HB6.out.mono HB.out.size))
          clear hk0
          go_wp2_with fail
          have c0 := Chg.refl w.heap.size (w.heap.size + 1) w6
          have c1' := c0.setCell (p := ⟨w.heap.size, 0, none⟩) (Nat.le_refl _) (by simp) (.int .i64 0)
          have c2' := c1'.setCell (p := ⟨w.heap.size, 1, none⟩) (Nat.le_refl _) (by simp) (.slice none 0 0)
          have hsz := c2'.size
          have hsb := HBW.out.size
          obtain ⟨hR, hC⟩ := HNN.out
          subst hR
          subst hC
          exact bodyPost_ret (v := .tuple #[.agg #[.int .i64 ((0 : Nat) : Int), .slice none 0 0], .int .i64 6]) (by simp [results, Tryz.results6, go_sem, f0, f1]) rfl ⟨_, rfl, ⟨Nat.le_refl _, [], [], (PFd.nil _ w.heap.size).mono (Nat.le_refl _) (by omega)⟩, c2'.below HBW.out (Nat.le_refl _) (by omega)⟩
end Go.Proofs.YtnnfjjadehgmeaaGreatDoor

set_option maxRecDepth 100000
set_option linter.unusedVariables false
set_option linter.unusedSimpArgs false
namespace Go.Proofs.YtnnfjjadehgmeaaGreatDoor
open Go.RowKit

end Go.Proofs.YtnnfjjadehgmeaaGreatDoor

set_option maxRecDepth 100000
set_option linter.unusedVariables false
set_option linter.unusedSimpArgs false
namespace Go.Proofs.YtnnfjjadehgmeaaGreatDoor
open Go.RowKit

theorem addr_addD (g n : Nat) : (⟨g, 0, none⟩ : Addr).add n = ⟨g, n, none⟩ := by by_cases h0 : n = 0 <;> simp [Addr.add, h0]
theorem ints_setD (zs : List Int) (k : Nat) (z : Int) : (ints zs).set k (.int .i64 z) = ints (zs.set k z) := by simp [ints, List.map_set]
theorem OwnInts.setAt {w : World} {C g cap k : Nat} {us : List Int} {n : Nat} (h : OwnInts w C tI (.slice (some ⟨g, 0, none⟩) n cap) us) (hk : k < us.length) {z : Int} (hz : In64 z) :
    (∃ u0, w.cell? ⟨g, k, none⟩ = some u0) ∧ w.frozen? ⟨g, k, none⟩ = false ∧ OwnInts (w.setCell ⟨g, k, none⟩ (.int .i64 z)) C tI (.slice (some ⟨g, 0, none⟩) n cap) (us.set k z) ∧ w.grownBy (w.setCell ⟨g, k, none⟩ (.int .i64 z)) (some g) := by
  obtain ⟨u0, hu0, hcg, hfg, hg2, hg1, hown', hgr⟩ := h.1.storeAt (k := k) (by rw [ints_len]; exact hk) (.int .i64 z)
  refine ⟨⟨u0, hcg⟩, hfg, ⟨by rw [ints_setD] at hown'; exact hown', fun y hy => ?_⟩, hgr⟩
  rcases List.mem_or_eq_of_mem_set hy with h1 | rfl
  · exact h.2 y h1
  · exact hz
end Go.Proofs.YtnnfjjadehgmeaaGreatDoor

set_option maxRecDepth 100000
set_option linter.unusedVariables false
set_option linter.unusedSimpArgs false
namespace Go.Proofs.YtnnfjjadehgmeaaGreatDoor
open Go.RowKit

/-- one part more in the field that is drawn -/
theorem pd_round {w wx w6 : World} {p q D B : Nat} {n : Int} {u v u6 : Value} {vs : List Value} {ivs : List (Nat × Nat)} {pss : List (List Mono)} {ms : List Mono} (hpw : p < w.heap.size) (hwq : w.heap.size < q) (k1 : Blk wx q tFq #[.int .i64 n, u]) (k0 : Blk wx w.heap.size tFq #[.int .i64 0, .slice none 0 0]) (hf : PFd wx (q + 1) D u vs ivs pss) (hD : D ≤ wx.heap.size)
    (ho : OMo wx D wx.heap.size v ms) (hb : w.grownBy wx (some p)) (hs : Src wx B tSc p) (hn : Own w6 (q + 1) tMs u6 (vs ++ [v])) (hg : Grow wx w6 u u6) :
    Blk w6 q tFq #[.int .i64 n, u] ∧ Blk (w6.setCell ⟨q, 1, none⟩ u6) q tFq #[.int .i64 n, u6] ∧ Blk (w6.setCell ⟨q, 1, none⟩ u6) w.heap.size tFq #[.int .i64 0, .slice none 0 0] ∧ PFd (w6.setCell ⟨q, 1, none⟩ u6) (q + 1) (w6.setCell ⟨q, 1, none⟩ u6).heap.size u6 (vs ++ [v]) (ivs ++ [(D, wx.heap.size)]) (pss ++ [ms]) ∧ w.grownBy (w6.setCell ⟨q, 1, none⟩ u6) (some p) ∧ Src (w6.setCell ⟨q, 1, none⟩ u6) B tSc p := by
  have hBp := hs.ge
  have hpu : u.ownBlock ≠ some q := fun e => by have h1 := hf.own.ge _ e; omega
  have h0u : u.ownBlock ≠ some w.heap.size := fun e => by have h1 := hf.own.ge _ e; omega
  have hpp : u.ownBlock ≠ some p := fun e => by have h1 := hf.own.ge _ e; omega
  have hf6 := hf.step2 (Nat.le_refl _) hD ho (Below.refl wx.heap.size wx) hn hg
  have hsame : Same (q + 1) w6.heap.size w6 (w6.setCell ⟨q, 1, none⟩ u6) := fun k h1 _ => Below.heap_setCell w6 ⟨q, 1, none⟩ _ k (by show k ≠ q; omega)
  have hk6 := k1.growP hg hpu
  have hsz : (w6.setCell ⟨q, 1, none⟩ u6).heap.size = w6.heap.size := by simp [World.setCell]
  have hg6 := gthen hb hg.1 (fun b hb => by have h1 := hf.own.ge _ hb; omega)
  have hs6 := hs.kept hg.1 hpp (fun b hb => by have h1 := hf.own.ge _ hb; omega)
  refine ⟨hk6, hk6.set_ 1 u6, (k0.growP hg h0u).far (p := ⟨q, 1, none⟩) (by simp; omega) u6, ?_, gthen hg6 (gset w6 q 1 u6) (by rintro b ⟨⟩; omega), hs6.kept (gset w6 q 1 u6) (by intro e; injection e with e; omega) (by rintro b ⟨⟩; omega)⟩
  rw [hsz]
  exact hf6.agree hsame
set_option maxHeartbeats 16000000 in
theorem s_l13Draw (w : World) (B p : Nat) (h : Src w B tSc p) :
    Calls Tryz.prog 35 #[at0 p] w fun e w' => ∃ u n pss, e = .returned (.agg #[.int .i64 ((n : Nat) : Int), u]) ∧ 1 ≤ n ∧ n ≤ 3 ∧ pss.length = n ∧ (∀ ms ∈ pss, ms.length ≤ 3 ∧ ∀ m ∈ ms, MB n m) ∧ FdO w' w.heap.size w'.heap.size u pss ∧ w.grownBy w' (some p) ∧ Src w' B tSc p := by
  have hpl := h.lt
  obtain ⟨w1, hw1⟩ : ∃ w1, w1 = w.alloc (.cells #[.int .i64 0, .slice none 0 0] tFq) := ⟨_, rfl⟩
  have HG1 := Lib.hid (show w.grownBy w1 (some p) by rw [hw1]; exact gof (below1 w _))
  have HS1 := Lib.hid (show Src w1 B tSc p by rw [hw1]; exact h.below (below1 w _))
  have K01 := Lib.hid (show Blk w1 w.heap.size tFq #[.int .i64 0, .slice none 0 0] by rw [hw1]; exact Blk.new _ _ _)
  have HN := Lib.hid (s_l01Next w1 B p 3 HS1.out (by omega) (by omega))
  clear h
  go_enter Tryz.func35, Tryz.ntmps35
  go_upto_region 1 with fail
  first | rw [← hw1] | skip
  clear hw1
  go_upto_region 2 with (go_at_call 36; go_loud (refine HN.out.mono ?_; rintro e w2 ⟨x, rfl, x0, x1, hg, hs⟩; obtain ⟨n0, rfl⟩ : ∃ k : Nat, x = k := ⟨x.toNat, by omega⟩; have HG2 := Lib.hid (gtrans HG1.out hg); have HS2 := Lib.hid hs; have K02 := Lib.hid (K01.out.of_grown hg (by omega)); have hn0 : n0 ≤ 2 := (by omega); have hw0 : wrap64 (1 + (n0 : Int)) = 1 + (n0 : Int) := w64_dr _ (by omega); clear hg hs x0 x1))
  obtain ⟨n, hn⟩ : ∃ n : Nat, (n : Int) = 1 + (n0 : Int) := ⟨n0 + 1, by omega⟩
  have hn1 : 1 ≤ n := by omega
  have hn3 : n ≤ 3 := by omega
  rw [← hn]
  clear hn hn0 hw0 K01 HS1 HG1 HN
  obtain ⟨w3, hw3⟩ : ∃ w3, w3 = w2.alloc (.cells #[.int .i64 (n : Nat), .slice none 0 0] tFq) := ⟨_, rfl⟩
  obtain ⟨q, hq⟩ : ∃ q, q = w2.heap.size := ⟨_, rfl⟩
  have HQ := Lib.hid (show w.heap.size < q from by rw [hq]; exact K02.out.lt)
  have K1 := Lib.hid (show Blk w3 q tFq #[.int .i64 (n : Nat), .slice none 0 0] by rw [hw3, hq]; exact Blk.new _ _ _)
  have K0 := Lib.hid (show Blk w3 w.heap.size tFq #[.int .i64 0, .slice none 0 0] by rw [hw3]; exact K02.out.alloc _)
  have HG := Lib.hid (show w.grownBy w3 (some p) by rw [hw3]; exact gtrans HG2.out (gof (below1 w2 _)))
  have HS := Lib.hid (show Src w3 B tSc p by rw [hw3]; exact HS2.out.below (below1 w2 _))
  have HZ := Lib.hid (show q + 1 ≤ w3.heap.size by rw [hw3, hq]; simp)
  rw [← hw3, ← hq]
  clear hw3 hq K02 HG2 HS2
  go_wp2_with fail
  go_loopw [4] (fun i wr => ∃ (k : Nat) (u : Value) (vs : List Value) (ivs : List (Nat × Nat)) (pss : List (List Mono)), k ≤ n ∧ i = .int .i64 k ∧ pss.length = k ∧ Hid (∀ ms ∈ pss, ms.length ≤ 3 ∧ ∀ m ∈ ms, MB n m) ∧ Hid (Blk wr q tFq #[.int .i64 (n : Nat), u]) ∧ Hid (Blk wr w.heap.size tFq #[.int .i64 0, .slice none 0 0]) ∧ Hid (PFd wr (q + 1) wr.heap.size u vs ivs pss) ∧ Hid (w.grownBy wr (some p)) ∧ Hid (Src wr B tSc p)) (fun i _ => n - (intOf i).toNat)
  case atStart => exact ⟨0, _, [], [], [], Nat.zero_le _, rfl, rfl, Lib.hid (fun ms hm => by simp at hm), K1, K0, Lib.hid ((PFd.nil w3 (q + 1)).mono (Nat.le_refl _) HZ.out), HG, HS⟩
  case round =>
    obtain ⟨k, u, vs, ivs, pss, hk, rfl, hpl2, HPS, HK1, HK0, HF, HGR, HSR⟩ := hrel
    clear K1 K0 HG HS HZ
    obtain ⟨Au, cu, hu0, -⟩ := HF.out.own.cells.open_
    have hvl : vs.length = pss.length := HF.out.len
    have HVK := Lib.hid (show vs.length = k by omega)
    have hv3 : vs.length ≤ 3 := by omega
    clear hu0 hvl
    have k0 : wr.cell? ⟨q, 0, none⟩ = some (.int .i64 (n : Nat)) := HK1.out.cell 0
    by_cases hlt : k < n
    · have hki : (k : Int) < (n : Int) := by omega
      obtain ⟨D, hD⟩ : ∃ D, D = wr.heap.size := ⟨_, rfl⟩
      obtain ⟨w4, hw4⟩ : ∃ w4, w4 = wr.alloc (.cells #[] tM) := ⟨_, rfl⟩
      have hwq := HQ.out
      have hqD : q < D := by rw [hD]; exact HK1.out.lt
      have hwD : w.heap.size < D := Nat.lt_trans HQ.out hqD
      have hpD : p < D := Nat.lt_trans hpl hwD
      have OL := Lib.hid (show OMd w4 D w4.heap.size (.slice (some ⟨D, 0, none⟩) 0 0) [] [] by rw [hw4, hD]; exact (OMd.newP wr).mono (Nat.le_refl _) (by simp))
      have J1 := Lib.hid (show Blk w4 q tFq #[.int .i64 (n : Nat), u] by rw [hw4]; exact HK1.out.alloc _)
      have J0 := Lib.hid (show Blk w4 w.heap.size tFq #[.int .i64 0, .slice none 0 0] by rw [hw4]; exact HK0.out.alloc _)
      have JF := Lib.hid (show PFd w4 (q + 1) D u vs ivs pss by rw [hw4, hD]; exact HF.out.agree (Same.of_below (below1 wr _) (Nat.le_refl _)))
      have JG := Lib.hid (show w.grownBy w4 (some p) by rw [hw4]; exact gtrans HGR.out (gof (below1 wr _)))
      have JS := Lib.hid (show Src w4 B tSc p by rw [hw4]; exact HSR.out.below (below1 wr _))
      have JZ := Lib.hid (show D + 1 ≤ w4.heap.size by rw [hw4, hD]; simp)
      go_upto_region 6 with fail
      rw [← hw4, ← hD]
      clear hw4 hD k0 HK1 HK0 HF HGR HSR
      have HN := Lib.hid (s_l01Next w4 B p 4 JS.out (by omega) (by omega))
      go_upto_region 7 with (go_at_call 36; go_loud (refine HN.out.mono ?_; rintro e w5 ⟨x, rfl, x0, x1, hg, hs⟩; obtain ⟨c0, rfl⟩ : ∃ k : Nat, x = k := ⟨x.toNat, by omega⟩; have L1 := Lib.hid (J1.out.of_grown hg (by omega)); have L0 := Lib.hid (J0.out.of_grown hg (by omega)); have LF := Lib.hid (JF.out.agree (Same.of_grown hg (by have := JZ.out; omega) (by omega))); have LG := Lib.hid (gtrans JG.out hg); have LS := Lib.hid hs; have LZ := Lib.hid (Nat.le_trans JZ.out hg.size); have LO := Lib.hid ((OL.out.agree (Same.of_grown hg (Nat.le_refl _) hpD)).mono (Nat.le_refl _) hg.size); have hc0 : c0 ≤ 3 := (by omega); clear hg hs x0 x1))
      clear HN J1 J0 JF JG JS JZ OL
      go_loopw [5, 6] (fun o i wx => ∃ (c : Nat) (us : List Value) (mo : List Mono), c + mo.length ≤ 3 ∧ i = .int .i64 c ∧ Hid (OMd wx D wx.heap.size o us mo) ∧ Hid (∀ m ∈ mo, MB n m) ∧ Hid (Blk wx q tFq #[.int .i64 (n : Nat), u]) ∧ Hid (Blk wx w.heap.size tFq #[.int .i64 0, .slice none 0 0]) ∧ Hid (PFd wx (q + 1) D u vs ivs pss) ∧ Hid (w.grownBy wx (some p)) ∧ Hid (Src wx B tSc p) ∧ Hid (D + 1 ≤ wx.heap.size)) (fun _ i _ => (intOf i).toNat)
      case atStart => exact ⟨c0, [], [], by simpa using hc0, rfl, LO, Lib.hid (fun m hm => by simp at hm), L1, L0, LF, LG, LS, LZ⟩
      case round =>
        obtain ⟨c, us, mo, hc, rfl, HO, HM, HK1, HK0, HF, HGR, HSR, HZ⟩ := hrel
        rename World => wx
        clear L1 L0 LF LG LS LZ LO
        obtain ⟨Ao, co, hv, -⟩ := HO.out.open_
        subst hv
        have k0 : wx.cell? ⟨q, 0, none⟩ = some (.int .i64 (n : Nat)) := HK1.out.cell 0
        by_cases hc0 : 0 < c
        · have hci : (0 : Int) < (c : Int) := by omega
          obtain ⟨E, hE⟩ : ∃ E, E = wx.heap.size := ⟨_, rfl⟩
          have hDE : D < E := by have := HZ.out; omega
          go_upto_region 10 with (at_make; refine wpList_mk rfl _ _ _ rfl _ _ _ T_int n _ rfl rfl rfl (by omega) _ ?_; intro w6 hown hb hs1; have HP := Lib.hid (show OwnInts w6 E tI _ (List.replicate n 0) from by rw [hE]; exact ⟨by rw [show ints (List.replicate n (0 : Int)) = List.replicate n (Value.int .i64 0) by simp [ints]]; exact hown, fun z hz => by rw [(List.mem_replicate.1 hz).2]; unfold In64; omega⟩); have HB6 := Lib.hid hb; clear hown hb)
          rw [← hE] at HP ⊢
          have hE6 : E ≤ w6.heap.size := by rw [hE]; exact HB6.out.size
          have hEx := hE
          have hp6 : p < w6.heap.size := by omega
          have HL := Lib.hid (lit_keep w6 p [0, 1, 1, 2, 2, 3] (by intro z hz; simp at hz; unfold In64; omega) (by simp) hp6)
          have HG6 := Lib.hid (show wx.grownBy w6 (some p) from gof HB6.out)
          have HSL := Lib.hid ((HSR.out.below HB6.out).below (below1 w6 (.cells (ints [0, 1, 1, 2, 2, 3]).toArray tI)))
          have HPK := Lib.hid (s_l01Pick _ B p _ [0, 1, 1, 2, 2, 3] HSL.out HL.out (by simp) (by simp))
          have HEX := Lib.hid hEx
          have hnE : n ≤ 3 := hn3
          clear hE hEx HL HSL HB6
          go_upto_region 11 with (go_at_call 53; go_loud (refine HPK.out.mono ?_; rintro e w8 ⟨y, rfl, hy, hg, hs⟩; have hg8 := gtrans HG6.out (gtrans (gof (below1 w6 (.cells (ints [0, 1, 1, 2, 2, 3]).toArray tI))) hg); have L1 := Lib.hid (HK1.out.of_grown hg8 (by omega)); have L0 := Lib.hid (HK0.out.of_grown hg8 (by omega)); have LF := Lib.hid (HF.out.agree (Same.of_grown hg8 (by have := HEX.out; omega) (by omega))); have LG := Lib.hid (gtrans HGR.out hg8); have LS := Lib.hid hs; have LO := Lib.hid (show OMd w8 D E _ us mo by rw [HEX.out]; exact (HO.out.agree (Same.of_grown hg8 (Nat.le_refl _) hpD))); have LP := Lib.hid (HP.out.of_grown (gtrans (gof (r := some p) (below1 w6 (.cells (ints [0, 1, 1, 2, 2, 3]).toArray tI))) hg) (by omega)); have LZ := Lib.hid (show E ≤ w8.heap.size by rw [HEX.out]; exact hg8.size); obtain ⟨e0, rfl⟩ : ∃ k : Nat, y = k := ⟨y.toNat, by simp at hy; omega⟩; have he0 : e0 ≤ 3 := (by simp at hy; omega); clear hy hg hs hg8))
          clear HPK HG6 HP HK1 HK0 HF HGR HSR HO HZ
          go_loopw [8] (fun d wy => ∃ (e : Nat) (zs : List Int), e ≤ 3 ∧ d = .int .i64 e ∧ Hid (zs.length = n) ∧ Hid (OwnInts wy E tI (.slice (some ⟨E, 0, none⟩) n n) zs) ∧ Hid (∀ z ∈ zs, 0 ≤ z ∧ z + (e : Int) ≤ 3) ∧ Hid (OMd wy D E (.slice Ao mo.length co) us mo) ∧ Hid (Blk wy q tFq #[.int .i64 (n : Nat), u]) ∧ Hid (Blk wy w.heap.size tFq #[.int .i64 0, .slice none 0 0]) ∧ Hid (PFd wy (q + 1) D u vs ivs pss) ∧ Hid (w.grownBy wy (some p)) ∧ Hid (Src wy B tSc p) ∧ Hid (E ≤ wy.heap.size)) (fun d _ => (intOf d).toNat)
          case atStart => exact ⟨e0, _, he0, rfl, Lib.hid (List.length_replicate ..), LP, Lib.hid (fun z hz => by rw [(List.mem_replicate.1 hz).2]; omega), LO, L1, L0, LF, LG, LS, LZ⟩
          case round =>
            obtain ⟨e, zs, he, rfl, HZL, HP, HZS, HO, HK1, HK0, HF, HGR, HSR, HZ⟩ := hrel
            rename World => wy
            clear L1 L0 LF LG LS LO LP LZ
            have k0 : wy.cell? ⟨q, 0, none⟩ = some (.int .i64 (n : Nat)) := HK1.out.cell 0
            by_cases he0 : 0 < e
            · have hei : (0 : Int) < (e : Int) := by omega
              have HN := Lib.hid (s_l01Next wy B p (n : Nat) HSR.out (by omega) (by omega))
              go_upto_region 14 with (go_at_call 36; go_loud (refine HN.out.mono ?_; rintro e' w9 ⟨x, rfl, x0, x1, hg, hs⟩; obtain ⟨j, rfl⟩ : ∃ k : Nat, x = k := ⟨x.toNat, by omega⟩; have hjn : j < n := (by omega); have M1 := Lib.hid (HK1.out.of_grown hg (by omega)); have M0 := Lib.hid (HK0.out.of_grown hg (by omega)); have MF := Lib.hid (HF.out.agree (Same.of_grown hg (by have := HZ.out; omega) (by omega))); have MG := Lib.hid (gtrans HGR.out hg); have MS := Lib.hid hs; have MO := Lib.hid (HO.out.agree (Same.of_grown hg HZ.out hpD)); have MP := Lib.hid (HP.out.of_grown hg (by omega)); have MZ := Lib.hid (Nat.le_trans HZ.out hg.size); clear hg hs x0 x1))
              clear HN HK1 HK0 HF HGR HSR HO HP HZ k0
              have hjz : j < zs.length := by rw [HZL.out]; exact hjn
              obtain ⟨A8, c8, he8, -, -, h38⟩ := MP.out.ints.open_
              simp only [Value.slice.injEq] at he8
              obtain ⟨rfl, -, rfl⟩ := he8
              obtain ⟨ad8, z8, had, hz8, hz8i, hc8⟩ := h38 j hjz
              injection had with had
              subst had
              rw [addr_addD] at hc8
              obtain ⟨z0, z1⟩ := HZS.out z8 (List.mem_of_getElem? hz8)
              obtain ⟨hu0', hfr, ho2, hg2⟩ := MP.out.setAt (k := j) (z := z8 + 1) hjz (by unfold In64; omega)
              have hw8 : wrap64 (z8 + 1) = z8 + 1 := w64_dr _ (by omega)
              have N1 := Lib.hid (M1.out.of_grown hg2 (by omega))
              have N0 := Lib.hid (M0.out.of_grown hg2 (by omega))
              have NF := Lib.hid (MF.out.agree (fun k a b => hg2.block k (by have := MZ.out; omega) (fun e => by injection e with e; omega)))
              have NG := Lib.hid (gthen MG.out hg2 (by rintro b ⟨⟩; omega))
              have NS := Lib.hid (MS.out.kept hg2 (by intro e; injection e with e; omega) (by rintro b ⟨⟩; have := MS.out.ge; omega))
              have NO := Lib.hid (MO.out.agree (fun k a b => hg2.block k (by have := MZ.out; omega) (fun e => by injection e with e; omega)))
              have NZ := Lib.hid (Nat.le_trans MZ.out hg2.size)
              have NP := Lib.hid ho2
              have hji : (j : Int) < (n : Int) := by omega
              clear hu0' ho2 hg2 h38 hz8i M1 M0 MF MG MS MO MZ MP
              go_wp2_with fail
              go_roundw
              case rel =>
                refine ⟨e - 1, zs.set j (z8 + 1), by omega, by go_num, Lib.hid (by rw [List.length_set]; exact HZL.out), NP, Lib.hid (fun z hz => ?_), NO, N1, N0, NF, NG, NS, NZ⟩
                rcases List.mem_or_eq_of_mem_set hz with h1 | rfl
                · have := HZS.out z h1; omega
                · omega
              case measure => simp [intOf]; omega
            · have hei : ¬ (0 : Int) < (e : Int) := by omega
              have HNB := Lib.hid (s_l01Number wy B p HSR.out)
              have HZ3 := Lib.hid (show ∀ z ∈ zs, 0 ≤ z ∧ z ≤ 3 from fun z hz => by have := HZS.out z hz; omega)
              have hmol : mo.length ≤ 3 := by omega
              go_wp2_with (first
                | (go_at_call 59; go_loud (refine HNB.out.mono ?_; rintro e' w9 ⟨y, rfl, hy, hg, hs⟩; have M1 := Lib.hid (HK1.out.of_grown hg (by omega)); have M0 := Lib.hid (HK0.out.of_grown hg (by omega)); have MF := Lib.hid (HF.out.agree (Same.of_grown hg (by have := HZ.out; omega) (by omega))); have MG := Lib.hid (gtrans HGR.out hg); have MS := Lib.hid hs; have MO := Lib.hid (HO.out.agree (Same.of_grown hg HZ.out hpD)); have MP := Lib.hid (HP.out.of_grown hg (by omega)); have MZ := Lib.hid (Nat.le_trans HZ.out hg.size); have MY := Lib.hid hy; clear hg hs hy))
                | (go_at_call 58; go_loud (refine (s_l13PutG w9 (.slice Ao mo.length co) (.slice (some ⟨E, 0, none⟩) n n) mo y zs n MO.out.monos MP.out.ints HM.out ⟨MY.out, HZL.out, HZ3.out⟩ (by omega) (by omega)).mono ?_; rintro e' w10 ⟨r, mo2, us2, rfl, ho2, hm2, hl2, hb2⟩; have N1 := Lib.hid (M1.out.below hb2 M1.out.lt); have N0 := Lib.hid (M0.out.below hb2 M0.out.lt); have NF := Lib.hid (MF.out.agree (Same.of_below hb2 (by have := MZ.out; omega))); have NG := Lib.hid (gtrans MG.out (gof hb2)); have NS := Lib.hid (MS.out.below hb2); have NO := Lib.hid (ho2.mono (B' := D) (by have := MZ.out; omega) (Nat.le_refl _)); have NM := Lib.hid hm2; have NZ := Lib.hid (show D + 1 ≤ w10.heap.size by have := MZ.out; have := hb2.size; omega); clear ho2 hm2 hb2)))
              go_roundw
              case rel => exact ⟨c - 1, us2, mo2, by omega, by go_num, NO, NM, N1, N0, NF, NG, NS, NZ⟩
              case measure => simp [intOf]; omega
        · have hci : ¬ (0 : Int) < (c : Int) := by omega
          have hDx : D ≤ wx.heap.size := by have := HZ.out; omega
          have q1 : wx.cell? ⟨q, 1, none⟩ = some u := HK1.out.cell 1
          go_wp2_with (at_builtin; go_loud (refine wpList_app1 T_mrsP (W := wx) (B := q + 1) (v := u) (vs := vs) HF.out.own (by omega) (by omega) (by rfl) rfl (by rfl) (by rfl) (by rfl) ?_; intro v6 w6 hown6 hgr6; obtain ⟨A6, c6, hv6, -⟩ := hown6.cells.open_; rw [List.length_append, List.length_singleton, HVK.out] at hv6; subst hv6; have HPR := Lib.hid (pd_round hpl hwq HK1.out HK0.out HF.out hDx ⟨us, HO.out⟩ HGR.out HSR.out hown6 hgr6); have hk6 := HPR.out.1; have q6 : w6.cell? ⟨q, 1, none⟩ = some u := hk6.cell 1; have q7 : w6.frozen? ⟨q, 1, none⟩ = false := hk6.frozen 1; clear hk6 hown6 hgr6))
          go_roundw
          case rel =>
            obtain ⟨-, a1, a2, a3, a4, a5⟩ := HPR.out
            refine ⟨k + 1, _, _, _, pss ++ [mo], by omega, by go_num, by rw [List.length_append, hpl2]; rfl, Lib.hid (fun ms hms => ?_), Lib.hid a1, Lib.hid a2, Lib.hid a3, Lib.hid a4, Lib.hid a5⟩
            rcases List.mem_append.1 hms with h1 | h1
            · exact HPS.out ms h1
            · rw [List.mem_singleton.1 h1]; exact ⟨by omega, HM.out⟩
          case measure => simp [intOf]; omega
    · have hke : k = n := by omega
      subst hke
      obtain ⟨Au2, cu2, hu0, -⟩ := HF.out.own.cells.open_
      rw [HVK.out] at hu0
      subst hu0
      have hwq := HQ.out
      have q1 : wr.cell? ⟨q, 1, none⟩ = some (.slice Au2 k cu2) := HK1.out.cell 1
      have f0 : wr.cell? ⟨w.heap.size, 0, none⟩ = some (.int .i64 0) := HK0.out.cell 0
      have f1 : wr.cell? ⟨w.heap.size, 1, none⟩ = some (.slice none 0 0) := HK0.out.cell 1
      have f2 := HK0.out.frozen 0
      have f3 := HK0.out.frozen 1
      have HPL := Lib.hid hpl2
      clear hpl2
      go_wp2_with fail
      have c0 := Chg.refl w.heap.size (w.heap.size + 1) wr
      have c1' := c0.setCell (p := ⟨w.heap.size, 0, none⟩) (Nat.le_refl _) (by simp) (.int .i64 ((k : Nat) : Int))
      have c2' := c1'.setCell (p := ⟨w.heap.size, 1, none⟩) (Nat.le_refl _) (by simp) (.slice Au2 k cu2)
      have hsz := c2'.size
      have hsb := HGR.out.size
      have hBp := HSR.out.ge
      have hlt1 := HK1.out.lt
      have HPG := ((HF.out.agree (Same.of_chg c2' (Nat.le_refl _) (.inr (by omega)))).mono (B' := w.heap.size) (by omega) hsz)
      exact bodyPost_ret (v := .agg #[.int .i64 ((k : Nat) : Int), .slice Au2 k cu2]) (by simp [results, Tryz.results35, go_sem, f0, f1]) rfl ⟨_, k, pss, rfl, hn1, hn3, HPL.out, HPS.out, ⟨Nat.le_refl _, _, _, HPG⟩, gthen (gthen HGR.out (gset wr w.heap.size 0 _) (by rintro b ⟨⟩; exact Nat.le_refl _)) (gset _ w.heap.size 1 _) (by rintro b ⟨⟩; exact Nat.le_refl _), (HSR.out.kept (gset wr w.heap.size 0 _) (by intro e; injection e with e; omega) (by rintro b ⟨⟩; omega)).kept (gset _ w.heap.size 1 _) (by intro e; injection e with e; omega) (by rintro b ⟨⟩; omega)⟩
end Go.Proofs.YtnnfjjadehgmeaaGreatDoor

