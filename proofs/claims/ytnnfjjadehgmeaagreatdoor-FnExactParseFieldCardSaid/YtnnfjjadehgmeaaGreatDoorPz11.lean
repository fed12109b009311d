/- Walk of the program: ParseField. -/
import Derived.Test.YtnnfjjadehgmeaaGreatDoorPz9
import Derived.Test.YtnnfjjadehgmeaaGreatDoorPz10
set_option maxRecDepth 100000
set_option linter.unusedVariables false
set_option linter.unusedSimpArgs false
namespace Go.Proofs.YtnnfjjadehgmeaaGreatDoor
open Go.RowKit

abbrev tFq : TypeId := 24
theorem T_mrsP : ElemT Tryz.prog 22 tMs (.slice none 0 0) 24 := ⟨Tryz.underlying22, by kernel_rfl, rfl, by omega⟩
theorem lib_lengthS (w : World) (A : Option Addr) (n c : Nat) : Calls Tryz.prog 22 #[.slice A n c] w fun e w' => e = .returned (.int .i64 n) ∧ w = w' := by
  go_enter Tryz.func22, Tryz.ntmps22
  go_wp2
  go_ret
  exact ⟨rfl, rfl⟩
theorem i_readPartS (w : World) (l : List UInt8) (hl : l.length ≤ 4294967000) (h : LibOK w) {ms : List Mono} (hr : rdP rdMF l = some ms) :
    Calls Tryz.prog 23 #[strB l] w fun e w' => ∃ v, e = .returned (.tuple #[v, .bool true]) ∧ OMo w' w.heap.size w'.heap.size v ms ∧ Below w.heap.size w w' := by
  refine (i_readPart w l hl h).mono fun e w' ⟨hb, hres⟩ => ?_
  rcases hres with ⟨v, ms', he, hr', ho⟩ | ⟨_, hr'⟩
  · rw [hr] at hr'
    injection hr' with hr'
    subst hr'
    exact ⟨v, he, ho, hb⟩
  · rw [hr] at hr'; cases hr'
theorem i_readPartN (w : World) (l : List UInt8) (hl : l.length ≤ 4294967000) (h : LibOK w) (hr : rdP rdMF l = none) :
    Calls Tryz.prog 23 #[strB l] w fun e w' => e = .returned (.tuple #[.slice none 0 0, .bool false]) ∧ Below w.heap.size w w' := by
  refine (i_readPart w l hl h).mono fun e w' ⟨hb, hres⟩ => ?_
  rcases hres with ⟨v, ms', he, hr', ho⟩ | ⟨he, hr'⟩
  · rw [hr] at hr'; cases hr'
  · exact ⟨he, hb⟩
theorem Own.ne_blkP {w : World} {B p : Nat} {e t : TypeId} {v : Value} {vs : List Value} {cs : Array Value} (h : Own w B e v vs) (hk : Blk w p t cs) (hne : e ≠ t) : v.ownBlock ≠ some p := by
  intro hb
  rcases h.cases with ⟨rfl, _⟩ | ⟨g, cap, cur, rfl, _, _, hg, _⟩
  · simp [Value.ownBlock] at hb
  · simp [Value.ownBlock] at hb
    subst hb
    have h2 : w.heap[g]? = some (.cells cs t (0, 0)) := hk
    rw [hg] at h2
    simp at h2
    exact hne h2.2
/-- one part more in the field that is filled -/
theorem pf_round {w wr w5 w6 : World} {p n : Nat} {u v u6 : Value} {vs : List Value} {ivs : List (Nat × Nat)} {pss : List (List Mono)} {ms : List Mono} (hp : w.heap.size < p) (k1 : Blk wr p tFq #[.int .i64 n, u]) (k0 : Blk wr w.heap.size tFq #[.int .i64 0, .slice none 0 0]) (hf : PFd wr (p + 1) wr.heap.size u vs ivs pss) (hb : Below w.heap.size w wr)
    (h5 : Below wr.heap.size wr w5) (ho5 : OMo w5 wr.heap.size w5.heap.size v ms) (hn : Own w6 (p + 1) tMs u6 (vs ++ [v])) (hg : Grow w5 w6 u u6) :
    Blk w6 p tFq #[.int .i64 n, u] ∧ Blk (w6.setCell ⟨p, 1, none⟩ u6) p tFq #[.int .i64 n, u6] ∧ Blk (w6.setCell ⟨p, 1, none⟩ u6) w.heap.size tFq #[.int .i64 0, .slice none 0 0] ∧ PFd (w6.setCell ⟨p, 1, none⟩ u6) (p + 1) (w6.setCell ⟨p, 1, none⟩ u6).heap.size u6 (vs ++ [v]) (ivs ++ [(wr.heap.size, w5.heap.size)]) (pss ++ [ms]) ∧ Below w.heap.size w (w6.setCell ⟨p, 1, none⟩ u6) := by
  have hpu : u.ownBlock ≠ some p := fun e => by have h1 := hf.own.ge _ e; omega
  have h0u : u.ownBlock ≠ some w.heap.size := fun e => by have h1 := hf.own.ge _ e; omega
  have hf6 := hf.step (Nat.le_refl _) h5 ho5 (Below.refl w5.heap.size w5) hn hg
  have hsame : Same (p + 1) w6.heap.size w6 (w6.setCell ⟨p, 1, none⟩ u6) := fun k h1 _ => Below.heap_setCell w6 ⟨p, 1, none⟩ _ k (by show k ≠ p; omega)
  have hk6 := (k1.below h5 k1.lt).growP hg hpu
  have hs : (w6.setCell ⟨p, 1, none⟩ u6).heap.size = w6.heap.size := by simp [World.setCell]
  have hb6 : Below w.heap.size w w6 := hg.below (hb.trans (h5.mono hb.size)) (Nat.le_trans hb.size h5.size) (fun b hb => by have h1 := hf.own.ge _ hb; omega)
  refine ⟨hk6, hk6.set_ 1 u6, ((k0.below h5 k0.lt).growP hg h0u).far (p := ⟨p, 1, none⟩) (by simp; omega) u6, ?_, hb6.setCell (by show w.heap.size ≤ p; omega) _⟩
  rw [hs]
  exact hf6.agree hsame
set_option maxHeartbeats 8000000 in
theorem i_ParseField (w : World) (l : List UInt8) (hl : l.length ≤ 4294960000) (h : LibOK w) :
    Calls Tryz.prog 6 #[strB l] w fun e w' => ∃ u, e = .returned (.tuple #[.agg #[.int .i64 ((pfR l).length : Nat), u], .int .i64 (pfC l)]) ∧ FdO w' w.heap.size w'.heap.size u (pfR l) ∧ Below w.heap.size w w' := by
  have HPN := Lib.hid (fun (hn : pfX rdMF l = none) => pf_none (l := l) rfl hn)
  have HPS := Lib.hid (fun pss (hs : pfX rdMF l = some pss) => pf_some (l := l) rfl hs)
  obtain ⟨R, hR⟩ : ∃ R, R = pfR l := ⟨_, rfl⟩
  obtain ⟨C, hC⟩ : ∃ C, C = pfC l := ⟨_, rfl⟩
  rw [← hR, ← hC] at HPN HPS ⊢
  clear hR hC
  obtain ⟨w1, hw1⟩ : ∃ w1, w1 = w.alloc (.cells #[.int .i64 0, .slice none 0 0] tFq) := ⟨_, rfl⟩
  have K0 := Lib.hid (show Blk w1 w.heap.size tFq #[.int .i64 0, .slice none 0 0] by rw [hw1]; exact Blk.new _ _ _)
  have HB1 := Lib.hid (show Below w.heap.size w w1 by rw [hw1]; exact below1 w _)
  have HLW := Lib.hid h
  have HSP := Lib.hid (lib_Split 59 l w1 (by omega) (h.below HB1.out))
  have HSZ := Lib.hid (fun pss (hs : rdF rdMF l = some pss) => rdF_size thinF hs)
  have HRF := Lib.hid (show rdF rdMF l = optL (rdP rdMF) (splB 59 l) from rfl)
  have HTL := Lib.hid (splB_mem_len 59 l)
  have hnl := splB_len 59 l
  generalize splB 59 l = ts at HSP HRF HTL hnl
  clear h
  go_enter Tryz.func6, Tryz.ntmps6
  go_upto_region 1 with fail
  first | rw [← hw1] | skip
  clear hw1
  go_upto_region 2 with (go_at_call 21; refine HSP.out.mono ?_; rintro e w2 ⟨g, c, rfl, ho2, hb2⟩; have HO2 := Lib.hid ho2; have HB2 := Lib.hid hb2; clear ho2 hb2)
  obtain ⟨w4, hw4⟩ : ∃ w4, w4 = w2.alloc (.cells #[.int .i64 (ts.length : Nat), .slice none 0 0] tFq) := ⟨_, rfl⟩
  obtain ⟨p, hp⟩ : ∃ p, p = w2.heap.size := ⟨_, rfl⟩
  have HW2 := Lib.hid (HB1.out.trans (HB2.out.mono HB1.out.size))
  have K1 := Lib.hid (show Blk w4 p tFq #[.int .i64 (ts.length : Nat), .slice none 0 0] by rw [hw4, hp]; exact Blk.new _ _ _)
  have K04 := Lib.hid (show Blk w4 w.heap.size tFq #[.int .i64 0, .slice none 0 0] by rw [hw4]; exact (K0.out.below HB2.out K0.out.lt).alloc _)
  have HB4 := Lib.hid (show Below w.heap.size w w4 by rw [hw4]; exact HW2.out.alloc HW2.out.size _)
  have HP := Lib.hid (show w.heap.size < p from by rw [hp]; exact Nat.lt_of_lt_of_le K0.out.lt HB2.out.size)
  have HZ := Lib.hid (show p + 1 ≤ w4.heap.size from K1.out.lt)
  have HO4 := Lib.hid (show Own w4 w.heap.size tStr (.slice (some ⟨g, 0, none⟩) ts.length c) (strs ts) by rw [hw4]; exact (HO2.out.mono HB1.out.size).alloc _)
  go_upto_region 3 with (go_at_call 22; refine (lib_lengthS _ _ _ _).mono ?_; rintro e w3 ⟨rfl, rfl⟩)
  first | rw [← hw4] | skip
  first | rw [← hp] | skip
  clear hw4 hp K0 HB1 HB2 HO2 HW2
  go_wp2_with fail
  go_loopw [17] (fun i wr => ∃ (k : Nat) (u : Value) (vs : List Value) (ivs : List (Nat × Nat)) (pss : List (List Mono)), k ≤ ts.length ∧ i = .int .i64 k ∧ Hid (optL (rdP rdMF) (ts.take k) = some pss) ∧ pss.length = k ∧ Hid (Blk wr p tFq #[.int .i64 (ts.length : Nat), u]) ∧ Hid (Blk wr w.heap.size tFq #[.int .i64 0, .slice none 0 0]) ∧ Hid (PFd wr (p + 1) wr.heap.size u vs ivs pss) ∧ Hid (Own wr w.heap.size tStr (.slice (some ⟨g, 0, none⟩) ts.length c) (strs ts)) ∧ Hid (Below w.heap.size w wr)) (fun i _ => ts.length - (intOf i).toNat)
  case atStart => exact ⟨0, _, [], [], [], Nat.zero_le _, rfl, Lib.hid rfl, rfl, K1, K04, Lib.hid ((PFd.nil w4 (p + 1)).mono (Nat.le_refl _) HZ.out), HO4, HB4⟩
  case round =>
    obtain ⟨k, u, vs, ivs, pss, hk, rfl, HOP, hpl, HK1, HK0, HF, HO, HB⟩ := hrel
    rename World => wq
    clear K1 K04 HB4 HO4 HZ
    obtain ⟨Au, cu, hu0, -⟩ := HF.out.own.cells.open_
    have hvl : vs.length = pss.length := HF.out.len
    have hvk : vs.length = k := by omega
    by_cases hlt : k < ts.length
    · obtain ⟨t, ht⟩ : ∃ t, ts[k]? = some t := ⟨_, List.getElem?_eq_getElem hlt⟩
      have gk : wq.cell? ⟨g, k, none⟩ = some (strB t) := strs_cell HO.out ht
      have hki : (k : Int) < (ts.length : Int) := by omega
      have htl := HTL.out t (List.mem_of_getElem? ht)
      have HTK := Lib.hid ht
      have HLQ := Lib.hid (HLW.out.below HB.out)
      cases hrt : rdP rdMF t with
      | none =>
        have HRP := Lib.hid (i_readPartN wq t (by omega) HLQ.out hrt)
        have HNN := Lib.hid (HPN.out (pfX_none1 (HRF.out.trans (optL_none (List.mem_of_getElem? ht) hrt))))
        clear ht hrt hu0
        go_upto_region 8 with (go_at_call 23; refine HRP.out.mono ?_; rintro e w5 ⟨rfl, hb5⟩; have HB5 := Lib.hid hb5; clear hb5)
        clear gk
        have hk0 := HK0.out.below HB5.out HK0.out.lt
        have f0 : w5.cell? ⟨w.heap.size, 0, none⟩ = some (.int .i64 0) := hk0.cell 0
        have f1 : w5.cell? ⟨w.heap.size, 1, none⟩ = some (.slice none 0 0) := hk0.cell 1
        have f2 := hk0.frozen 0
        have f3 := hk0.frozen 1
        have HBW := Lib.hid (HB.out.trans (HB5.out.mono HB.out.size))
        clear hk0
        go_wp2_with fail
        have c0 := Chg.refl w.heap.size (w.heap.size + 1) w5
        have c1' := c0.setCell (p := ⟨w.heap.size, 0, none⟩) (Nat.le_refl _) (by simp) (.int .i64 0)
        have c2' := c1'.setCell (p := ⟨w.heap.size, 1, none⟩) (Nat.le_refl _) (by simp) (.slice none 0 0)
        have hsz := c2'.size
        have hsb := HBW.out.size
        obtain ⟨hR, hC⟩ := HNN.out
        subst hR
        subst hC
        exact bodyPost_ret (v := .tuple #[.agg #[.int .i64 ((0 : Nat) : Int), .slice none 0 0], .int .i64 6]) (by simp [results, Tryz.results6, go_sem, f0, f1]) rfl ⟨_, rfl, ⟨Nat.le_refl _, [], [], (PFd.nil _ w.heap.size).mono (Nat.le_refl _) (by omega)⟩, c2'.below HBW.out (Nat.le_refl _) (by omega)⟩
      | some ms =>
        have HRP := Lib.hid (i_readPartS wq t (by omega) HLQ.out hrt)
        have HOT := Lib.hid (optL_take HOP.out ht hrt)
        clear ht hrt hu0
        go_upto_region 9 with (go_at_call 23; refine HRP.out.mono ?_; rintro e w5 ⟨v5, rfl, ho5, hb5⟩; have HM5 := Lib.hid ho5; have HB5 := Lib.hid hb5; obtain ⟨A5, c5, hv5, -⟩ := ho5.monos.open_; subst hv5; clear ho5 hb5)
        clear gk
        have hk1 := HK1.out.below HB5.out HK1.out.lt
        have q1 : w5.cell? ⟨p, 1, none⟩ = some u := hk1.cell 1
        have q1a : ∀ o, (w5.alloc o).cell? ⟨p, 1, none⟩ = some u := fun o => (hk1.alloc o).cell 1
        have HO5 := Lib.hid (HO.out.below HB5.out)
        have HOW5 := Lib.hid (HF.out.own.below HB5.out)
        clear hk1
        go_wp2_with (at_builtin; go_loud (refine wpList_app1 T_mrsP (W := w5) (B := p + 1) (v := u) (vs := vs) HOW5.out (by omega) (by have h1 := HF.out.le; have h2 := HB5.out.size; omega) (by rfl) rfl (by rfl) (by rfl) (by rfl) ?_; intro v6 w6 hown6 hgr6; obtain ⟨A6, c6, hv6, -⟩ := hown6.cells.open_; rw [List.length_append, List.length_singleton, hvk] at hv6; subst hv6; have HPR := Lib.hid (pf_round HP.out HK1.out HK0.out HF.out HB.out HB5.out HM5.out hown6 hgr6); have hk6 := HPR.out.1; have q6 : w6.cell? ⟨p, 1, none⟩ = some u := hk6.cell 1; have q7 : w6.frozen? ⟨p, 1, none⟩ = false := hk6.frozen 1; have HN6 := Lib.hid hown6; have HG6 := Lib.hid hgr6; clear hk6 hown6 hgr6))
        go_roundw
        case rel =>
          obtain ⟨-, a1, a2, a3, a4⟩ := HPR.out
          refine ⟨k + 1, _, _, _, pss ++ [ms], by omega, by go_num, HOT, by rw [List.length_append, hpl]; rfl, Lib.hid a1, Lib.hid a2, Lib.hid a3, Lib.hid ?_, Lib.hid a4⟩
          have h1 := HO5.out.kept HG6.out.1 (HO5.out.bt.ne HOW5.out.bt (by decide))
          refine h1.of_block fun b hb => Below.heap_setCell w6 ⟨p, 1, none⟩ _ b (fun e => ?_)
          have h2 := (HPR.out.1 : Blk w6 p tFq _)
          simp only at e
          subst e
          exact absurd hb (h1.ne_blkP h2 (by decide))
        case measure => simp [intOf]; omega
    · have hke : k = ts.length := by omega
      subst hke
      have hop := HOP.out
      rw [List.take_length] at hop
      have HRS := Lib.hid (HRF.out.trans hop)
      obtain ⟨hs1, hs2⟩ := HSZ.out pss HRS.out
      have HS2 := Lib.hid hs2
      clear hop hs2
      obtain ⟨n, hn⟩ : ∃ n, n = ts.length := ⟨_, rfl⟩
      rw [← hn] at HK1 HO hpl hnl hvk ⊢
      clear hn
      rw [hvk] at hu0
      subst hu0
      have HPL := Lib.hid hpl
      clear hvl hvk hpl
      have hn64 : In64 ((n : Nat) : Int) := by unfold In64; omega
      have HFA := Lib.hid (show FieldArg wq (.agg #[.int .i64 ((n : Nat) : Int), .slice Au n cu]) ((n : Nat) : Int) pss from ⟨_, rfl, hn64, HF.out.mrows⟩)
      have HIF := Lib.hid (i_IsField wq _ ((n : Nat) : Int) pss HFA.out (fun ms h1 m h2 => by have := (HS2.out ms h1).2 m h2; omega))
      have e0 : wq.cell? ⟨p, 0, none⟩ = some (.int .i64 ((n : Nat) : Int)) := HK1.out.cell 0
      have e1 : wq.cell? ⟨p, 1, none⟩ = some (.slice Au n cu) := HK1.out.cell 1
      have hpli : ((pss.length : Nat) : Int) = ((n : Nat) : Int) := by have := HPL.out; omega
      cases hfb : fieldB ((n : Nat) : Int) pss with
      | false =>
        rw [hfb] at HIF
        have HNN := Lib.hid (HPN.out (pfX_none2 HRS.out (fun h => by rw [hpli, hfb] at h; cases h.1)))
        clear hfb hpli
        go_upto_region 12 with (go_at_call 14; refine HIF.out.mono ?_; rintro e w5 ⟨rfl, hb5⟩; have HB5 := Lib.hid hb5; clear hb5)
        clear e0 e1
        have hk0 := HK0.out.below HB5.out HK0.out.lt
        have f0 : w5.cell? ⟨w.heap.size, 0, none⟩ = some (.int .i64 0) := hk0.cell 0
        have f1 : w5.cell? ⟨w.heap.size, 1, none⟩ = some (.slice none 0 0) := hk0.cell 1
        have f2 := hk0.frozen 0
        have f3 := hk0.frozen 1
        have HBW := Lib.hid (HB.out.trans (HB5.out.mono HB.out.size))
        clear hk0
        go_wp2_with fail
        have c0 := Chg.refl w.heap.size (w.heap.size + 1) w5
        have c1' := c0.setCell (p := ⟨w.heap.size, 0, none⟩) (Nat.le_refl _) (by simp) (.int .i64 0)
        have c2' := c1'.setCell (p := ⟨w.heap.size, 1, none⟩) (Nat.le_refl _) (by simp) (.slice none 0 0)
        have hsz := c2'.size
        have hsb := HBW.out.size
        obtain ⟨hR, hC⟩ := HNN.out
        subst hR
        subst hC
        exact bodyPost_ret (v := .tuple #[.agg #[.int .i64 ((0 : Nat) : Int), .slice none 0 0], .int .i64 6]) (by simp [results, Tryz.results6, go_sem, f0, f1]) rfl ⟨_, rfl, ⟨Nat.le_refl _, [], [], (PFd.nil _ w.heap.size).mono (Nat.le_refl _) (by omega)⟩, c2'.below HBW.out (Nat.le_refl _) (by omega)⟩
      | true =>
        rw [hfb] at HIF
        have HFT := Lib.hid (fun W (hW : Below wq.heap.size wq W) => i_fieldText W _ ((n : Nat) : Int) pss (HFA.out.below hW) hfb (fun ms h => by have := (HS2.out ms h).1; omega) (HLW.out.below (HB.out.trans (hW.mono HB.out.size))).pow)
        by_cases hft : fldTx pss = l
        · have HSS := Lib.hid (HPS.out pss (pfX_some HRS.out (by rw [hpli]; exact hfb) hft))
          rw [hft] at HFT
          clear hfb hft hpli
          go_upto_region 13 with (first
            | (go_at_call 14; refine HIF.out.mono ?_; rintro e w5 ⟨rfl, hb5⟩; have HB5 := Lib.hid hb5; have hk5 := HK1.out.below hb5 HK1.out.lt; have e05 : w5.cell? ⟨p, 0, none⟩ = some (.int .i64 ((n : Nat) : Int)) := hk5.cell 0; have e15 : w5.cell? ⟨p, 1, none⟩ = some (.slice Au n cu) := hk5.cell 1; clear hk5 hb5)
            | (go_at_call 24; refine (HFT.out _ HB5.out).mono ?_; rintro e w6 ⟨rfl, hb6⟩; have HB6 := Lib.hid (HB5.out.trans (hb6.mono HB5.out.size)); clear hb6))
          clear e0 e1 e05 e15
          have hk1 := HK1.out.below HB6.out HK1.out.lt
          have hk0 := HK0.out.below HB6.out HK0.out.lt
          have e0 : w6.cell? ⟨p, 0, none⟩ = some (.int .i64 ((n : Nat) : Int)) := hk1.cell 0
          have e1 : w6.cell? ⟨p, 1, none⟩ = some (.slice Au n cu) := hk1.cell 1
          have f0 : w6.cell? ⟨w.heap.size, 0, none⟩ = some (.int .i64 0) := hk0.cell 0
          have f1 : w6.cell? ⟨w.heap.size, 1, none⟩ = some (.slice none 0 0) := hk0.cell 1
          have f2 := hk0.frozen 0
          have f3 := hk0.frozen 1
          have HBW := Lib.hid (HB.out.trans (HB6.out.mono HB.out.size))
          have HPF := Lib.hid (HF.out.agree (Same.of_below HB6.out (Nat.le_refl _)))
          clear hk0 hk1
          go_wp2_with fail
          have c0 := Chg.refl w.heap.size (w.heap.size + 1) w6
          have c1' := c0.setCell (p := ⟨w.heap.size, 0, none⟩) (Nat.le_refl _) (by simp) (.int .i64 ((n : Nat) : Int))
          have c2' := c1'.setCell (p := ⟨w.heap.size, 1, none⟩) (Nat.le_refl _) (by simp) (.slice Au n cu)
          have hsz := c2'.size
          have hsb := HBW.out.size
          have hs6 := HB6.out.size
          have hpp := HP.out
          obtain ⟨hR, hC⟩ := HSS.out
          subst hR
          subst hC
          have HPG := ((HPF.out.agree (Same.of_chg c2' (by omega) (.inr (by omega)))).mono (B' := w.heap.size) (by omega) (Nat.le_trans hs6 hsz))
          rw [HPL.out]
          exact bodyPost_ret (v := .tuple #[.agg #[.int .i64 ((n : Nat) : Int), .slice Au n cu], .int .i64 0]) (by simp [results, Tryz.results6, go_sem, f0, f1]) rfl ⟨_, rfl, ⟨Nat.le_refl _, _, _, HPG⟩, c2'.below HBW.out (Nat.le_refl _) (by omega)⟩
        · have HNN := Lib.hid (HPN.out (pfX_none2 HRS.out (fun h => hft h.2)))
          have hne : (fldTx pss == l) = false := beq_eq_false_iff_ne.2 hft
          obtain ⟨F, hF⟩ : ∃ F, F = fldTx pss := ⟨_, rfl⟩
          rw [← hF] at HFT hne
          clear hfb hft hpli hF
          go_upto_region 12 with (first
            | (go_at_call 14; refine HIF.out.mono ?_; rintro e w5 ⟨rfl, hb5⟩; have HB5 := Lib.hid hb5; have hk5 := HK1.out.below hb5 HK1.out.lt; have e05 : w5.cell? ⟨p, 0, none⟩ = some (.int .i64 ((n : Nat) : Int)) := hk5.cell 0; have e15 : w5.cell? ⟨p, 1, none⟩ = some (.slice Au n cu) := hk5.cell 1; clear hk5 hb5)
            | (go_at_call 24; refine (HFT.out _ HB5.out).mono ?_; rintro e w6 ⟨rfl, hb6⟩; have HB6 := Lib.hid (HB5.out.trans (hb6.mono HB5.out.size)); clear hb6))
          clear e0 e1 e05 e15
          have hk0 := HK0.out.below HB6.out HK0.out.lt
          have f0 : w6.cell? ⟨w.heap.size, 0, none⟩ = some (.int .i64 0) := hk0.cell 0
          have f1 : w6.cell? ⟨w.heap.size, 1, none⟩ = some (.slice none 0 0) := hk0.cell 1
          have f2 := hk0.frozen 0
          have f3 := hk0.frozen 1
          have HBW := Lib.hid (HB.out.trans (HB6.out.mono HB.out.size))
          clear hk0
          go_wp2_with fail
          have c0 := Chg.refl w.heap.size (w.heap.size + 1) w6
          have c1' := c0.setCell (p := ⟨w.heap.size, 0, none⟩) (Nat.le_refl _) (by simp) (.int .i64 0)
          have c2' := c1'.setCell (p := ⟨w.heap.size, 1, none⟩) (Nat.le_refl _) (by simp) (.slice none 0 0)
          have hsz := c2'.size
          have hsb := HBW.out.size
          obtain ⟨hR, hC⟩ := HNN.out
          subst hR
          subst hC
          exact bodyPost_ret (v := .tuple #[.agg #[.int .i64 ((0 : Nat) : Int), .slice none 0 0], .int .i64 6]) (by simp [results, Tryz.results6, go_sem, f0, f1]) rfl ⟨_, rfl, ⟨Nat.le_refl _, [], [], (PFd.nil _ w.heap.size).mono (Nat.le_refl _) (by omega)⟩, c2'.below HBW.out (Nat.le_refl _) (by omega)⟩
end Go.Proofs.YtnnfjjadehgmeaaGreatDoor

