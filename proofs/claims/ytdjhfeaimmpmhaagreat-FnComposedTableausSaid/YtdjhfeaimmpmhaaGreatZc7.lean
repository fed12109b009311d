/- Walks: compareTrees, forestOf of the program: lists of trees in their order. | Walks: isLevelList, IsLevels of the program; l03Is of the reference. | Walk: l03Is of the reference. | Plain: a list of levels with at most eight nodes, as natural numbers; it is one of finitely many, and each has a canonical list. | Walk: l16Parent of the reference. | Walk: parentsOf of the program. | Walk: canonical of the program. | Walk: treeFrom of the program. | Owned lists whose elements are k cells each (arrays, structs). No program in sight. -/
import Derived.Test.YtdjhfeaimmpmhaaGreatZc5
import Derived.Test.YtdjhfeaimmpmhaaGreatZc6
import Derived.Test.YtdjhfeaimmpmhaaGreatZc3
import Derived.Laws.MakeOwn
set_option maxRecDepth 100000
set_option linter.unusedVariables false
set_option linter.unusedSimpArgs false
namespace Go.Proofs.YtdjhfeaimmpmhaaGreat
open Go.RowKit Go.Sort Go.Shelf

/-- the program's comparison of trees -/
def cmpT (a b : List Int) : Int := if a.length = b.length then cmpL b a else (a.length : Int) - b.length
theorem cmpT_up (a b : List Nat) : decide (cmpT (up a) (up b) < 0) = befN a b := by
  unfold cmpT befN
  rw [up_len, up_len]
  by_cases h : a.length = b.length
  · rw [if_pos h, h, Nat.beq_refl]
    exact cmpL_up b a
  · rw [if_neg h]
    have : Nat.beq a.length b.length = false := by
      cases hb : Nat.beq a.length b.length with
      | true => exact absurd (Nat.eq_of_beq_eq_true hb) h
      | false => rfl
    rw [this]
    simp only [cond_false]
    cases hlt : Nat.blt a.length b.length with
    | true => have := (blt_iff _ _).1 hlt; simp; omega
    | false => have : ¬ a.length < b.length := fun h2 => by rw [(blt_iff _ _).2 h2] at hlt; cases hlt
               simp; omega

theorem i_compareTrees (w : World) (v v' : Value) (a b : List Int) (ha : Ints w v a) (hb : Ints w v' b) :
    Calls Tryz.prog 118 #[v, v'] w fun e w' => e = .returned (.int .i64 (cmpT a b)) ∧ w = w' := by
  have HA := Lib.hid ha
  have HB := Lib.hid hb
  obtain ⟨A, c, rfl, l1, l2, -⟩ := ha.open_
  obtain ⟨A', c', rfl, m1, m2, -⟩ := hb.open_
  clear ha hb
  by_cases h : a.length = b.length
  · have HE := Lib.hid (show cmpT a b = cmpL b a by rw [cmpT, if_pos h])
    rw [HE.out]
    have hd : ((a.length : Int) != (b.length : Int)) = false := by simp [h]
    have HL := Lib.hid h
    clear h
    go_enter Tryz.func118, Tryz.ntmps118
    go_wp2_with (go_at_call 168; refine (lib_Compare _ _ _ b a HB.out HA.out).mono ?_; rintro e w1 ⟨rfl, rfl⟩)
    go_ret
    exact ⟨rfl, rfl⟩
  · have HE := Lib.hid (show cmpT a b = (a.length : Int) - b.length by rw [cmpT, if_neg h])
    rw [HE.out]
    have hd : ((a.length : Int) != (b.length : Int)) = true := by simp; omega
    have hw : IntKind.i64.wrap ((a.length : Int) - (b.length : Int)) = (a.length : Int) - (b.length : Int) := IntWalk.i64_in _ (by omega)
    clear h
    go_enter Tryz.func118, Tryz.ntmps118
    go_wp2_with fail
    go_ret
    exact ⟨rfl, rfl⟩

theorem treeCmp {w : World} {B : Nat} (x y : Row1s w B) : ltOf (fun (x y : Row1s w B) => cmpT (up x.1.2) (up y.1.2)) x y = befN x.1.2 y.1.2 := cmpT_up _ _
theorem treeSwo (w : World) (B : Nat) : SWO (ltOf fun (x y : Row1s w B) => cmpT (up x.1.2) (up y.1.2)) where
  irrefl x := by rw [treeCmp]; exact befN_irrefl _
  trans x y z h1 h2 := by rw [treeCmp] at *; exact befN_trans h1 h2
  ntrans x y z h1 h2 := by rw [treeCmp] at *; exact befN_ntrans h1 h2

/-- the insertion sort of the library, at a list of trees of one's own -/
theorem lib_insTrees (w : World) (B cap : Nat) (A : Option Addr) (vs : List Value) (bs : List (List Nat)) (h : Own w B tL (.slice A vs.length cap) vs) (hr : RR w B vs (bs.map up)) (hn : vs.length ≤ 1000) :
    Calls Tryz.prog 241 #[.slice A vs.length cap, .int .i64 0, .int .i64 vs.length, .func (.func 118) #[] #[]] w fun e w' => e = .returned (.tuple #[]) ∧
      ∃ vs', vs'.length = vs.length ∧ vs'.Perm vs ∧ Own w' B tL (.slice A vs.length cap) vs' ∧ RR w' B vs' ((srtB bs).map up) ∧ w.grownBy w' (Value.ownBlock (.slice A vs.length cap)) := by
  rcases h.cases with ⟨he, rfl⟩ | ⟨g, cap', cur, he, hBg, hgs, -⟩
  · simp only [Value.slice.injEq] at he
    obtain ⟨rfl, -, rfl⟩ := he
    have hb : bs = [] := by have h0 := hr.1; rw [List.length_map] at h0; exact List.eq_nil_of_length_eq_zero h0.symm
    subst hb
    refine (AnyF.insertionSortCmpFunc_none { Tryz.lsort with } none 0 _ w).mono ?_
    rintro e w' ⟨rfl, rfl⟩
    exact ⟨rfl, [], rfl, .refl _, h, hr, World.grownBy.refl _ _⟩
  · simp only [Value.slice.injEq] at he
    obtain ⟨rfl, -, rfl⟩ := he
    obtain ⟨d, hd1, hd2⟩ := mkRows hr
    have hdl : d.length = vs.length := by rw [← hd1, List.length_map]
    have ho : Own w B tL (.slice (some ⟨g, 0, none⟩) d.length cap) (d.map fun x => x.1.1) := by rw [hd1, hdl]; exact h
    have hone : OneCell (fun x : Row1s w B => x.1.1) := fun x => (RR.one x.2).oneCell _ (by simp)
    have eg : ∀ args w, (callFunc 118 args).run Tryz.prog w = .ok (.enter 118 args) w := enters_of Tryz.func118 (by kernel_rfl) rfl
    have hkeep : ∀ (x : Row1s w B) (m : Nat) (dk : Array (Row1s w B)) (os : Array Obj), OwnInts (sortWorld (fun x : Row1s w B => x.1.1) w g 0 m dk os) B tI x.1.1 (up x.1.2) := fun x m dk os =>
      x.2.kept (v' := .slice (some ⟨g, 0, none⟩) vs.length cap) (grownBy_srt dk) (x.2.1.ne_of_type h (by decide))
    have hcmp : CmpReads Tryz.prog 118 #[] (fun x : Row1s w B => x.1.1) (fun x y => cmpT (up x.1.2) (up y.1.2)) g 0 d.toArray.size w := fun m os dk _ x y =>
      (i_compareTrees _ _ _ _ _ (hkeep x m dk os).ints (hkeep y m dk os).ints).mono fun e w' ⟨he, hw⟩ => ⟨he, 0, hw.symm⟩
    have hcon := Any.insertionSortCmpFunc_one { Tryz.lsort with } (fun x : Row1s w B => x.1.1) hone _ 118 #[] g 0 cap 0 d.toArray.size d.toArray w eg hcmp (holds_own ho) (Nat.zero_le _) (Nat.le_refl _) (by simp; omega)
    rw [List.size_toArray, hdl] at hcon
    refine hcon.mono ?_
    rintro e w' ⟨rfl, n, rfl⟩
    have hins := insertionSort_holds (treeSwo w B) d.toArray 0 vs.length (Nat.zero_le _) (by simp; omega)
    generalize Sort.insertionSort (ltOf fun (x y : Row1s w B) => cmpT (up x.1.2) (up y.1.2)) d.toArray 0 vs.length = d' at hins ⊢
    obtain ⟨hp, hs⟩ := hins
    have hsz : d'.size = vs.length := by have := hp.1; simp at this; omega
    have hperm : d'.toList.Perm d := by
      have h3 := hp.2.2
      rw [← hsz] at h3
      simp only [Array.extract_size] at h3
      have e : (d.toArray.extract 0 d'.size).toList = d := by
        rw [show d'.size = d.toArray.size by simp; omega, Array.extract_size]
      rw [e] at h3
      exact h3
    have hasc : Asc (d'.toList.map fun x => x.1.2) := by
      rw [Asc, List.pairwise_iff_getElem]
      intro i j hi hj hij
      simp at hi hj
      have h4 := hs i j (Nat.zero_le _) hij (by omega)
      rw [treeCmp, getElem!_pos d' i (by omega), getElem!_pos d' j (by omega)] at h4
      simpa using h4
    have hL : (d'.toList.map fun x => x.1.2) = srtB bs := srtB_unique (by rw [← hd2]; exact hperm.map _) hasc
    have hl : d'.toList.length = d.length := by simp; omega
    have hfin := own_srt (n := n) (os := #[]) ho hl
    simp only [Array.toArray_toList] at hfin
    rw [hdl] at hfin
    rw [← sortWorld_none]
    refine ⟨rfl, d'.toList.map (fun x => x.1.1), by simp; omega, by rw [← hd1]; exact hperm.map _, hfin, ⟨by rw [← hL]; simp, fun k u zs hu hz => ?_⟩, grownBy_srt d'⟩
    rw [← hL, List.map_map, List.getElem?_map] at hz
    rw [List.getElem?_map] at hu
    cases hx : d'.toList[k]? with
    | none => rw [hx] at hu; cases hu
    | some x =>
      rw [hx] at hu hz
      simp only [Option.map_some, Option.some.injEq, Function.comp] at hu hz
      subst hu; subst hz
      exact hkeep x _ _ _

set_option maxHeartbeats 2000000 in
theorem lib_stable (w : World) (B cap : Nat) (A : Option Addr) (vs : List Value) (bs : List (List Nat)) (h : Own w B tL (.slice A vs.length cap) vs) (hr : RR w B vs (bs.map up)) (hn : vs.length ≤ 19) :
    Calls Tryz.prog 251 #[.slice A vs.length cap, .int .i64 vs.length, .func (.func 118) #[] #[]] w fun e w' => e = .returned (.tuple #[]) ∧
      ∃ vs', vs'.length = vs.length ∧ vs'.Perm vs ∧ Own w' B tL (.slice A vs.length cap) vs' ∧ RR w' B vs' ((srtB bs).map up) ∧ w.grownBy w' (Value.ownBlock (.slice A vs.length cap)) := by
  have hI := Lib.hid (lib_insTrees w B cap A vs bs h hr (by omega))
  have hn1 : ¬ ((20 : Int) ≤ (vs.length : Int)) := by omega
  have hn2 : ¬ ((20 : Int) < (vs.length : Int)) := by omega
  have hd1 : decide ((20 : Int) ≤ (vs.length : Int)) = false := by simp; omega
  have hd2 : decide ((20 : Int) < (vs.length : Int)) = false := by simp; omega
  clear hn
  clear h hr
  go_enter Tryz.func251, Tryz.ntmps251
  go_wp2_with fail
  refine wp_loop_rounds 1 ?_
  rw [rounds_succ]
  go_wp2_with (go_at_call 241; refine hI.out.mono ?_; rintro e w1 ⟨rfl, h1⟩; have H1 := Lib.hid h1; clear h1)
  refine wp_loop_rounds 1 ?_
  rw [rounds_succ]
  go_wp2_with fail
  go_end0
  exact ⟨rfl, H1.out⟩

theorem lib_SortStable (w : World) (B cap : Nat) (A : Option Addr) (vs : List Value) (bs : List (List Nat)) (h : Own w B tL (.slice A vs.length cap) vs) (hr : RR w B vs (bs.map up)) (hn : vs.length ≤ 19) :
    Calls Tryz.prog 232 #[.slice A vs.length cap, .func (.func 118) #[] #[]] w fun e w' => e = .returned (.tuple #[]) ∧
      ∃ vs', vs'.length = vs.length ∧ vs'.Perm vs ∧ Own w' B tL (.slice A vs.length cap) vs' ∧ RR w' B vs' ((srtB bs).map up) ∧ w.grownBy w' (Value.ownBlock (.slice A vs.length cap)) := by
  have hI := Lib.hid (lib_stable w B cap A vs bs h hr hn)
  clear h hr hn
  go_enter Tryz.func232, Tryz.ntmps232
  go_wp2_with (go_at_call 251; refine hI.out.mono ?_; rintro e w1 ⟨rfl, h1⟩; have H1 := Lib.hid h1; clear h1)
  go_end0
  exact ⟨rfl, H1.out⟩

set_option maxHeartbeats 2000000 in
theorem i_cloneRows (w : World) (v : Value) (xss : List (List Int)) (ha : Rows w v xss) (hn : xss.length ≤ 1000) (hl : ∀ zs ∈ xss, zs.length ≤ 1000) :
    Calls Tryz.prog 231 #[v] w fun e w' => ∃ x, e = .returned x ∧ LA w' w.heap.size x xss ∧ Below w.heap.size w w' := by
  obtain ⟨A, c, rfl, l1, l2, h3⟩ := ha.open_
  have H3 := Lib.hid h3
  have HL := Lib.hid hl
  have OL := Lib.hid (show Own (w.alloc (.cells #[] tL)) w.heap.size tL (.slice (some ⟨w.heap.size, 0, none⟩) 0 0) [] from own_lit w tL [] (by simp [maxLen]))
  clear h3 hl ha
  go_enter Tryz.func231, Tryz.ntmps231
  go_wp2_with fail
  go_loopw [3, 9] (fun o i wr => ∃ (j : Nat) (vs : List Value), j ≤ xss.length ∧ i = .int .i64 j ∧ Own wr w.heap.size tL o vs ∧ RR wr w.heap.size vs (xss.take j) ∧ vs.Pairwise Apart ∧ Below w.heap.size w wr) (fun _ i _ => xss.length - (intOf i).toNat)
  case atStart =>
    exact ⟨0, [], Nat.zero_le _, rfl, OL.out, RR.nil _ _, List.Pairwise.nil, below1 _ _⟩
  case round =>
    obtain ⟨j, vs, hj, rfl, hown, hrr, hap, hbw⟩ := hrel
    clear OL
    have HO := Lib.hid hown
    have HRR := Lib.hid hrr
    have HBW := Lib.hid hbw
    have HAP := Lib.hid hap
    clear hap
    by_cases hlt : j < xss.length
    · obtain ⟨ad, u, zs, rfl, hz, hu, hc0⟩ := H3.out j hlt
      have hc : wr.cell? (ad.add j) = some u := by
        rw [hbw.cell (by rw [block_add]; have := World.block_lt_of_cell? w _ hc0; rwa [block_add] at this)]; exact hc0
      have HU := Lib.hid (hu.below hbw)
      have HZL := Lib.hid (HL.out zs (List.mem_of_getElem? hz))
      have HTK := Lib.hid (show xss.take (j + 1) = xss.take j ++ [zs] by rw [List.take_add_one, hz]; rfl)
      have hvl : vs.length ≤ 1000 := by have h1 := hrr.1; rw [List.length_take] at h1; omega
      have hji : (j : Int) < (xss.length : Int) := by omega
      clear hown hrr hbw hz hu hc0
      go_wp2_with (first
        | (go_at_call 167; refine (lib_Clone _ _ zs HU.out (by have := HZL.out; omega)).mono ?_; rintro e w2 ⟨r2, rfl, ho2, hb2⟩; obtain ⟨A5, c5, he5, -, -, -⟩ := ho2.ints.open_; subst he5; have HAF := Lib.hid (HRR.out.fresh (Nat.le_refl _) ho2.1.ge); have HO2 := Lib.hid (ho2.mono HBW.out.size); have HBI := Lib.hid hb2; have HB2 := Lib.hid (HBW.out.trans (hb2.mono HBW.out.size)); have HOW := Lib.hid (HO.out.below hb2); clear ho2 hb2)
        | (at_builtin; refine wpList_app1 T_row HOW.out (by omega) HB2.out.size (by rfl) rfl (by rfl) (by rfl) (by rfl) ?_; intro v1 w5 hown1 hgr1; have HN1 := Lib.hid hown1; have HGR := Lib.hid hgr1.1; have HB5 := Lib.hid (hgr1.below HB2.out HB2.out.size HOW.out.ge); clear hown1 hgr1))
      go_roundw
      case rel =>
        refine ⟨j + 1, _, by omega, by go_num, HN1.out, ?_, pairApart_snoc HAP.out HAF.out, HB5.out⟩
        rw [HTK.out]
        exact LL.snoc HOW.out (HRR.out.below HBI.out) HO2.out HN1.out HGR.out
      case measure => simp [intOf]; omega
    · have : j = xss.length := by omega
      subst this
      rw [List.take_length] at HRR
      go_wp2_with fail
      go_ret
      exact ⟨_, rfl, ⟨vs, HO.out, HRR.out, HAP.out⟩, HBW.out⟩

theorem i_forestOf (w : World) (v : Value) (bs : List (List Nat)) (ha : Rows w v (bs.map up)) (hn : bs.length ≤ 19) (hl : ∀ b ∈ bs, b.length ≤ 1000) :
    Calls Tryz.prog 208 #[v] w fun e w' => ∃ x, e = .returned x ∧ LA w' w.heap.size x ((srtB bs).map up) ∧ Below w.heap.size w w' := by
  have HA := Lib.hid ha
  have HL := Lib.hid (show ∀ zs ∈ bs.map up, zs.length ≤ 1000 from fun zs hz => by obtain ⟨b, hb, rfl⟩ := List.mem_map.1 hz; rw [up_len]; exact hl b hb)
  obtain ⟨A, c, rfl, l1, l2, -⟩ := ha.open_
  clear ha hl
  rw [List.length_map] at l1 HA ⊢
  go_enter Tryz.func208, Tryz.ntmps208
  go_wp2_with (first
    | (go_at_call 231; refine (i_cloneRows _ _ (bs.map up) HA.out (by rw [List.length_map]; omega) HL.out).mono ?_; rintro e w1 ⟨x, rfl, ⟨vs, ho, hr, hpa⟩, hb⟩; have HPA := Lib.hid hpa; clear hpa; have hvl := hr.1; rw [List.length_map] at hvl; obtain ⟨A1, c1, rfl, -, -⟩ := ho.cells.open_; have HVL := Lib.hid hvl; have HO := Lib.hid ho; have HR := Lib.hid hr; have HB := Lib.hid hb; clear ho hr hb hvl)
    | (go_at_call 232; refine (lib_SortStable _ _ _ _ vs bs HO.out HR.out (by rw [HVL.out]; exact hn)).mono ?_; rintro e w2 ⟨rfl, vs', hl', hpm, ho', hr', hg'⟩; have HPM := Lib.hid hpm; clear hpm; have HO' := Lib.hid ho'; have HR' := Lib.hid hr'; have HG' := Lib.hid hg'; clear ho' hr' hg' hl'))
  go_ret
  exact ⟨_, rfl, ⟨vs', HO'.out, HR'.out, pairApart_perm HPA.out HPM.out⟩, HB.out.grown HG'.out HB.out.size HO.out.ge⟩
end Go.Proofs.YtdjhfeaimmpmhaaGreat

set_option maxRecDepth 100000
set_option linter.unusedVariables false
set_option linter.unusedSimpArgs false
namespace Go.Proofs.YtdjhfeaimmpmhaaGreat
open Go.RowKit

end Go.Proofs.YtdjhfeaimmpmhaaGreat

set_option maxRecDepth 100000
set_option linter.unusedVariables false
set_option linter.unusedSimpArgs false
namespace Go.Proofs.YtdjhfeaimmpmhaaGreat
open Go.RowKit

end Go.Proofs.YtdjhfeaimmpmhaaGreat

set_option linter.unusedVariables false
set_option linter.unusedSimpArgs false
set_option maxRecDepth 100000
namespace Go.Proofs.YtdjhfeaimmpmhaaGreat

end Go.Proofs.YtdjhfeaimmpmhaaGreat

set_option maxRecDepth 100000
set_option linter.unusedVariables false
set_option linter.unusedSimpArgs false
namespace Go.Proofs.YtdjhfeaimmpmhaaGreat
open Go.RowKit

end Go.Proofs.YtdjhfeaimmpmhaaGreat

set_option maxRecDepth 100000
set_option linter.unusedVariables false
set_option linter.unusedSimpArgs false
namespace Go.Proofs.YtdjhfeaimmpmhaaGreat
open Go.RowKit

abbrev tN : TypeId := 3
theorem T_nat : ElemT Tryz.prog 119 3 (.int .i64 0) 8 := ⟨Tryz.underlying119, by kernel_rfl, rfl, by omega⟩

end Go.Proofs.YtdjhfeaimmpmhaaGreat

set_option maxRecDepth 100000
set_option linter.unusedVariables false
set_option linter.unusedSimpArgs false
namespace Go.Proofs.YtdjhfeaimmpmhaaGreat
open Go.RowKit

/-- a row of one's own is stored in a list of rows of one's own -/
theorem RR.store {w : World} {B g n cap k : Nat} {vs : List Value} {xss : List (List Int)} {u : Value} {zs : List Int} (h : Own w B tL (.slice (some ⟨g, 0, none⟩) n cap) vs) (hr : RR w B vs xss) (hk : k < vs.length) (hu : OwnInts w B tI u zs) :
    (∃ u0, w.cell? ⟨g, k, none⟩ = some u0) ∧ w.frozen? ⟨g, k, none⟩ = false ∧ Own (w.setCell ⟨g, k, none⟩ u) B tL (.slice (some ⟨g, 0, none⟩) n cap) (vs.set k u) ∧ RR (w.setCell ⟨g, k, none⟩ u) B (vs.set k u) (xss.set k zs) := by
  obtain ⟨u0, -, hc, hf, -, -, ho, hg⟩ := h.storeAt hk u
  refine ⟨⟨u0, hc⟩, hf, ho, ?_⟩
  exact (hr.set hu).other (v := .slice (some ⟨g, 0, none⟩) n cap) hg h (by decide)

theorem put_step {cs bs : List (List Nat)} {j : Nat} {c : List Nat} (hl : cs.length = bs.length) (hj : j < bs.length) (hc : cs[j]? = some c) :
    ((cs.take j ++ bs.drop j).map up).set j (up c) = (cs.take (j + 1) ++ bs.drop (j + 1)).map up := by
  rw [← List.map_set]
  congr 1
  have e1 : (cs.take j).length = j := by rw [List.length_take]; omega
  rw [List.set_append, if_neg (by omega), e1, Nat.sub_self, List.drop_eq_getElem_cons hj, List.set_cons_zero, List.take_add_one, hc]
  simp
theorem put_at {cs bs : List (List Nat)} {j : Nat} (hl : cs.length = bs.length) (hj : j < bs.length) : (cs.take j ++ bs.drop j)[j]? = bs[j]? := by
  have e1 : (cs.take j).length = j := by rw [List.length_take]; omega
  rw [List.getElem?_append_right (by omega), e1, Nat.sub_self, List.getElem?_drop, Nat.add_zero]

set_option maxHeartbeats 8000000 in
theorem i_canonical : ∀ (f : Nat) (w : World) (v : Value) (t r : List Nat), Ints w v (up t) → canO f t = some r → t.length ≤ 1000 → (∀ l ∈ t, l ≤ 1000000) →
    Calls Tryz.prog 170 #[v] w fun e w' => ∃ x, e = .returned x ∧ OwnInts w' w.heap.size tI x (up r) ∧ Below w.heap.size w w' := by
  intro f
  induction f with
  | zero => intro w v t r _ h; cases h
  | succ f ih =>
    intro w v t r ha hcan hn hl
    obtain ⟨bs, cs, hb, hm, hr⟩ := canO_parts hcan
    have IH := Lib.hid ih
    have HA := Lib.hid ha
    have HB := Lib.hid hb
    have HM := Lib.hid hm
    have HR := Lib.hid hr
    have HL := Lib.hid hl
    have HLE := Lib.hid (brO_lens hb hn)
    have HLM := Lib.hid (brO_mem hb hl)
    have HCL := Lib.hid (mapO_len hm)
    have HSB := Lib.hid (show ∀ q ∈ srtD cs, q.length ≤ 1000 ∧ ∀ l ∈ q, l < 1000000 from fun q hq => by
      rcases mem_srtF hq with h | h
      · simp at h
      · obtain ⟨x, hx, hxq⟩ := mapO_all hm q h
        have h1 := canO_len hxq
        have h2 := (brO_lens hb hn).2 x hx
        exact ⟨by omega, fun l hl => by have := canO_lt hxq l hl; omega⟩)
    have HBT := Lib.hid (show brLen (srtD cs) ≤ 1000 by
      have h2 := canO_len hcan
      rw [hr, rootN, List.length_cons, bumps_len] at h2
      omega)
    have HSL := Lib.hid (show (srtD cs).length ≤ 1000 by
      have h1 := (brO_lens hb hn).1
      have h2 := mapO_len hm
      rw [srtD, len_srtF, h2]
      simpa using h1)
    have hbl : bs.length ≤ 1000 := HLE.out.1
    obtain ⟨A, c, rfl, -, -, -⟩ := ha.open_
    rw [up_len] at HA ⊢
    clear ih ha hb hm hr hl hcan
    go_enter Tryz.func170, Tryz.ntmps170
    go_wp2_with (go_at_call 193; refine (i_branchesOf _ _ t bs HA.out HB.out hn HL.out).mono ?_; rintro e w1 ⟨r1, rfl, ⟨vs0, ho1, hr1⟩, hb1⟩; obtain ⟨A1, c1, he1, -, -⟩ := ho1.cells.open_; have HL0 := Lib.hid (show vs0.length = bs.length by rw [hr1.1, List.length_map]); rw [HL0.out] at he1; subst he1; have HO0 := Lib.hid ho1; have HR0 := Lib.hid hr1; have HB0 := Lib.hid hb1; clear ho1 hr1 hb1)
    go_loopw [10] (fun i wr => ∃ (j : Nat) (vs : List Value), j ≤ bs.length ∧ i = .int .i64 j ∧ Hid (vs.length = bs.length) ∧ Own wr w.heap.size tL (.slice A1 bs.length c1) vs ∧ RR wr w.heap.size vs ((cs.take j ++ bs.drop j).map up) ∧ Below w.heap.size w wr) (fun i _ => bs.length - (intOf i).toNat)
    case atStart => exact ⟨0, vs0, Nat.zero_le _, rfl, HL0, HO0.out, by simpa using HR0.out, HB0.out⟩
    case round =>
      obtain ⟨j, vs, hj, rfl, HVL, hown, hrr, hbw⟩ := hrel
      clear HL0 HO0 HR0 HB0
      have HO := Lib.hid hown
      have HRR := Lib.hid hrr
      have HBW := Lib.hid hbw
      by_cases hlt : j < bs.length
      · rcases hown.cases with ⟨he, hv⟩ | ⟨g, cap, cur, he, hBg, hgs, -⟩
        · have := HVL.out; rw [hv] at this; simp at this; omega
        · simp only [Value.slice.injEq] at he
          obtain ⟨rfl, -, rfl⟩ := he
          have hjv : j < vs.length := by rw [HVL.out]; exact hlt
          have hu' : vs[j]? = some (vs[j]'hjv) := List.getElem?_eq_getElem _
          have hbj : bs[j]? = some (bs[j]'hlt) := List.getElem?_eq_getElem _
          obtain ⟨cj, hcj, hcan⟩ := mapO_get HM.out j _ hbj
          have hi := hrr.2 j _ _ hu' (by rw [List.getElem?_map, put_at HCL.out hlt, hbj]; rfl)
          obtain ⟨Au, cu, hue, -, -, -⟩ := hi.ints.open_
          rw [up_len] at hue
          obtain ⟨u0, hu0, q0, -⟩ := hown.storeAt hjv (.slice none 0 0)
          have hc : wr.cell? ⟨g, j, none⟩ = some (.slice Au (bs[j]'hlt).length cu) := by rw [q0, ← hue, ← hu0, hu']
          have HU := Lib.hid (show Ints wr (.slice Au (bs[j]'hlt).length cu) (up (bs[j]'hlt)) by rw [← hue]; exact hi.ints)
          have HCAN := Lib.hid hcan
          have HBJ1 := Lib.hid (HLE.out.2 _ (List.mem_of_getElem? hbj))
          have HBJ2 := Lib.hid (HLM.out _ (List.mem_of_getElem? hbj))
          have HPS := Lib.hid (put_step HCL.out hlt hcj)
          have HJV := Lib.hid hjv
          have hji : (j : Int) < (bs.length : Int) := by omega
          generalize bs[j]'hlt = bj at HU HCAN HBJ1 HBJ2 hc
          have HGB := Lib.hid hBg
          clear hu' hbj hcj hcan hi hue hu0 q0 hown hrr hbw hjv hBg
          go_wp2_with (go_at_call 170; refine (IH.out _ _ _ _ HU.out HCAN.out HBJ1.out HBJ2.out).mono ?_; rintro e w2 ⟨r2, rfl, ho2, hb2⟩; obtain ⟨A5, c5, he5, -, -, -⟩ := ho2.ints.open_; rw [up_len] at he5; subst he5; obtain ⟨⟨u0, q1⟩, q2, ho3, hr3⟩ := RR.store (k := j) (HO.out.below hb2) (HRR.out.below hb2) HJV.out (ho2.mono HBW.out.size); have HO3 := Lib.hid ho3; have HR3 := Lib.hid hr3; have HB2 := Lib.hid (HBW.out.trans (hb2.mono HBW.out.size)); have hgs2 : g < w2.heap.size := Nat.lt_of_lt_of_le hgs hb2.size; clear ho2 hb2 ho3 hr3)
          go_roundw
          case rel =>
            refine ⟨j + 1, vs.set j (.slice A5 cj.length c5), by omega, by go_num, by simp only [Hid, List.length_set]; exact HVL.out, HO3.out, ?_, HB2.out.setCell (p := ⟨g, j, none⟩) HGB.out _⟩
            rw [← HPS.out]
            exact HR3.out
          case measure => simp [intOf]; omega
      · have : j = bs.length := by omega
        subst this
        have HRR2 := Lib.hid (show RR wr w.heap.size vs (cs.map up) by
          have h := hrr
          rw [List.drop_length, List.append_nil, ← HCL.out, List.take_length] at h
          exact h)
        have HV1 := Lib.hid (show vs.length ≤ 1000 by rw [HVL.out]; exact hbl)
        clear hown hrr hbw HRR
        go_wp2_with (first
          | (go_at_call 203; have hS := lib_SortDesc wr w.heap.size c1 A1 vs cs (by rw [HVL.out]; exact HO.out) HRR2.out HV1.out; rw [HVL.out] at hS; refine hS.mono ?_; clear hS; rintro e w3 ⟨rfl, vs', hl', ho', hr', hg'⟩; have HROW := Lib.hid (hr'.rows ho'); have HB3 := Lib.hid (HBW.out.grown hg' HBW.out.size HO.out.ge); clear ho' hr' hg' hl')
          | (go_at_call 205; refine (i_rootOn _ _ (srtD cs) HROW.out HSB.out HBT.out HSL.out).mono ?_; rintro e w4 ⟨x, rfl, hx, hb4⟩; have HX := Lib.hid hx; have HB4 := Lib.hid hb4; clear hx hb4))
        go_ret
        exact ⟨_, rfl, by rw [HR.out]; exact HX.out.mono HB3.out.size, HB3.out.trans (HB4.out.mono HB3.out.size)⟩
end Go.Proofs.YtdjhfeaimmpmhaaGreat

set_option maxRecDepth 100000
set_option linter.unusedVariables false
set_option linter.unusedSimpArgs false
namespace Go.Proofs.YtdjhfeaimmpmhaaGreat
open Go.RowKit

end Go.Proofs.YtdjhfeaimmpmhaaGreat

set_option maxRecDepth 100000
set_option linter.unusedVariables false
set_option linter.unusedSimpArgs false
namespace Go.Proofs.YtdjhfeaimmpmhaaGreat
open Go.RowKit

/-- the block of a slice has elements of type e -/
def BT (w : World) (e : TypeId) (v : Value) : Prop := v.ownBlock = none ∨ ∃ g cur fz, v.ownBlock = some g ∧ w.heap[g]? = some (.cells cur e fz)
theorem BT.ne {w : World} {e e' : TypeId} {v v' : Value} (h : BT w e v) (h' : BT w e' v') (hne : e ≠ e') : Apart v v' := by
  rcases h with h | ⟨g, cur, fz, h, hg⟩
  · exact .inl h
  · rcases h' with h' | ⟨g', cur', fz', h', hg'⟩
    · exact .inr (by rw [h, h']; simp)
    · refine .inr ?_
      rw [h, h']
      intro he
      injection he with he
      subst he
      rw [hg] at hg'
      injection hg' with hg'
      injection hg' with _ ht
      exact hne ht
theorem ownsRow_bt {w : World} {B e k n : Nat} {v : Value} {xs : List Value} (h : w.ownsRow B e k v n xs) : BT w e v := by
  rcases h.2 with ⟨rfl, _⟩ | ⟨g, cap, cur, rfl, _, hg, _⟩
  · exact .inl rfl
  · exact .inr ⟨g, cur, _, rfl, hg⟩
theorem Own.bt {w : World} {B : Nat} {e : TypeId} {v : Value} {vs : List Value} (h : Own w B e v vs) : BT w e v := ownsRow_bt h

/-- the call owns from block B on the slice v of elements of type e, k cells each -/
def OwnK (w : World) (B : Nat) (e : TypeId) (k : Nat) (v : Value) (css : List (List Value)) : Prop :=
  w.ownsRow B e k v css.length css.flatten ∧ ∀ c ∈ css, c.length = k

theorem flat_get {k : Nat} : ∀ {css : List (List Value)} {i j : Nat} {c : List Value} {u : Value}, (∀ c ∈ css, c.length = k) → css[i]? = some c → c[j]? = some u → css.flatten[i * k + j]? = some u
  | [], i, j, c, u, _, h, _ => by simp at h
  | d :: css, 0, j, c, u, hk, h, hu => by
    simp at h; subst h
    have := (List.getElem?_eq_some_iff.1 hu).1
    simp only [List.flatten_cons, Nat.zero_mul, Nat.zero_add]
    rw [List.getElem?_append_left this]
    exact hu
  | d :: css, i + 1, j, c, u, hk, h, hu => by
    have hd := hk d (by simp)
    rw [List.flatten_cons, List.getElem?_append_right (by rw [hd, Nat.add_mul]; omega), hd]
    have e : (i + 1) * k + j - k = i * k + j := by rw [Nat.add_mul]; omega
    rw [e]
    exact flat_get (fun c hc => hk c (by simp [hc])) (by simpa using h) hu
theorem flat_len {k : Nat} : ∀ {css : List (List Value)}, (∀ c ∈ css, c.length = k) → css.flatten.length = css.length * k
  | [], _ => by simp
  | d :: css, hk => by rw [List.flatten_cons, List.length_append, hk d (by simp), flat_len fun c hc => hk c (by simp [hc]), List.length_cons, Nat.add_mul]; omega
theorem flat_set {k : Nat} : ∀ {css : List (List Value)} {i j : Nat} {c : List Value} {u : Value}, (∀ c ∈ css, c.length = k) → css[i]? = some c → j < k → css.flatten.set (i * k + j) u = (css.set i (c.set j u)).flatten
  | [], i, j, c, u, _, h, _ => by simp at h
  | d :: css, 0, j, c, u, hk, h, hj => by
    simp at h; subst h
    have hd := hk d (by simp)
    rw [List.flatten_cons, Nat.zero_mul, Nat.zero_add, List.set_append, if_pos (by omega), List.set_cons_zero, List.flatten_cons]
  | d :: css, i + 1, j, c, u, hk, h, hj => by
    have hd := hk d (by simp)
    rw [List.flatten_cons, List.set_append, if_neg (by rw [hd, Nat.add_mul]; omega), hd]
    have e : (i + 1) * k + j - k = i * k + j := by rw [Nat.add_mul]; omega
    rw [e, flat_set (fun c hc => hk c (by simp [hc])) (by simpa using h) hj, List.set_cons_succ, List.flatten_cons]

section
variable {w w' : World} {B k : Nat} {e : TypeId} {v : Value} {css : List (List Value)}
theorem OwnK.cases (h : OwnK w B e k v css) : (v = .slice none 0 0 ∧ css = []) ∨
    ∃ g cap cur, v = .slice (some ⟨g, 0, none⟩) css.length cap ∧ B ≤ g ∧ g < w.heap.size ∧ w.heap[g]? = some (.cells cur e (0, 0)) ∧ css.length ≤ cap ∧ cap ≤ maxLen := by
  rcases h.1.2 with ⟨h1, h2⟩ | ⟨g, cap, cur, h1, h2, h3, h4, h5, h6, h7⟩
  · exact .inl ⟨h1, List.eq_nil_of_length_eq_zero h2⟩
  · exact .inr ⟨g, cap, cur, h1, h2, (Array.getElem?_eq_some_iff.1 h3).1, h3, h4, h5⟩
theorem OwnK.open_ (h : OwnK w B e k v css) : ∃ A c, v = .slice A css.length c ∧ css.length ≤ c ∧ c ≤ 9223372036854775807 := by
  rcases h.cases with ⟨rfl, rfl⟩ | ⟨g, cap, cur, rfl, -, -, -, h4, h5⟩
  · exact ⟨none, 0, rfl, Nat.le_refl _, by omega⟩
  · exact ⟨_, cap, rfl, h4, by simpa [maxLen] using h5⟩
theorem OwnK.nil (w : World) (B : Nat) (e : TypeId) (k : Nat) : OwnK w B e k (.slice none 0 0) [] := ⟨World.ownsRow_nil w B e k, fun c hc => by simp at hc⟩
theorem OwnK.of_block (h : OwnK w B e k v css) (hb : ∀ b, v.ownBlock = some b → w'.heap[b]? = w.heap[b]?) : OwnK w' B e k v css := by
  refine ⟨⟨h.1.1, ?_⟩, h.2⟩
  rcases h.1.2 with hn | ⟨g, cap, cur, rfl, hB, hgg, rest⟩
  · exact .inl hn
  · exact .inr ⟨g, cap, cur, rfl, hB, by rw [hb g rfl]; exact hgg, rest⟩
theorem OwnK.lt (h : OwnK w B e k v css) : ∀ b, v.ownBlock = some b → b < w.heap.size := fun b hb => (World.ownsRow.lt h.1 b hb).2
theorem OwnK.ge (h : OwnK w B e k v css) : ∀ b, v.ownBlock = some b → B ≤ b := fun b hb => (World.ownsRow.lt h.1 b hb).1
theorem OwnK.below (h : OwnK w B e k v css) (hb : Below w.heap.size w w') : OwnK w' B e k v css := h.of_block fun b hv => hb.block b (h.lt b hv)
theorem OwnK.kept (h : OwnK w B e k v css) {row : Option Nat} (hg : w.grownBy w' row) (hne : v.ownBlock = none ∨ v.ownBlock ≠ row) : OwnK w' B e k v css := ⟨World.ownsRow.kept h.1 hg hne, h.2⟩
theorem OwnK.mono {B' : Nat} (h : OwnK w B e k v css) (hB : B' ≤ B) : OwnK w B' e k v css := by
  refine ⟨⟨h.1.1, ?_⟩, h.2⟩
  rcases h.1.2 with hn | ⟨g, cap, cur, rfl, hB', rest⟩
  · exact .inl hn
  · exact .inr ⟨g, cap, cur, rfl, by omega, rest⟩
theorem OwnK.drewN (h : OwnK w B e k v css) (n : Nat) : OwnK (w.drewN n) B e k v css := h
theorem OwnK.bt (h : OwnK w B e k v css) : BT w e v := ownsRow_bt h.1
theorem addr_add (g n : Nat) : (⟨g, 0, none⟩ : Addr).add n = ⟨g, n, none⟩ := by by_cases h0 : n = 0 <;> simp [Addr.add, h0]
/-- cell j of element i -/
theorem OwnK.cell {i j : Nat} {c : List Value} {u : Value} (h : OwnK w B e k v css) (hc : css[i]? = some c) (hu : c[j]? = some u) : ∃ g cap, v = .slice (some ⟨g, 0, none⟩) css.length cap ∧ w.cell? ⟨g, i * k + j, none⟩ = some u := by
  rcases h.cases with ⟨_, rfl⟩ | ⟨g, cap, cur, rfl, h1, h2, h3, h4, h5⟩
  · simp at hc
  · refine ⟨g, cap, rfl, ?_⟩
    have := World.ownsRow.cells h.1 (g := g) rfl (i * k + j) u (flat_get h.2 hc hu)
    rwa [addr_add] at this
theorem OwnK.cellAt {g n cap i j : Nat} {c : List Value} {u : Value} (h : OwnK w B e k (.slice (some ⟨g, 0, none⟩) n cap) css) (hc : css[i]? = some c) (hu : c[j]? = some u) : w.cell? ⟨g, i * k + j, none⟩ = some u := by
  obtain ⟨g', cap', hv, h1⟩ := h.cell hc hu
  simp only [Value.slice.injEq, Option.some.injEq, Addr.mk.injEq, and_true, true_and] at hv
  rw [hv.1]; exact h1
/-- a store into cell j of element i -/
theorem OwnK.storeAt {g n cap i j : Nat} {c : List Value} (h : OwnK w B e k (.slice (some ⟨g, 0, none⟩) n cap) css) (hc : css[i]? = some c) (hj : j < k) (u : Value) :
    (∃ u0, w.cell? ⟨g, i * k + j, none⟩ = some u0) ∧ w.frozen? ⟨g, i * k + j, none⟩ = false ∧ B ≤ g ∧ OwnK (w.setCell ⟨g, i * k + j, none⟩ u) B e k (.slice (some ⟨g, 0, none⟩) n cap) (css.set i (c.set j u)) ∧ w.grownBy (w.setCell ⟨g, i * k + j, none⟩ u) (some g) := by
  have hck := h.2 c (List.mem_of_getElem? hc)
  have hu0 : c[j]? = some (c[j]'(by omega)) := List.getElem?_eq_getElem _
  have hn : n = css.length := by
    rcases h.cases with ⟨he, _⟩ | ⟨g', cap', cur, he, _⟩
    · cases he
    · simp only [Value.slice.injEq] at he; exact he.2.1
  subst hn
  have hs := World.ownsRow.stored h.1 (i * k + j) u
  refine ⟨⟨_, h.cellAt hc hu0⟩, World.ownsRow.frozenAt h.1 _, h.ge g rfl, ⟨?_, fun d hd => ?_⟩, hs.2⟩
  · rw [List.length_set, ← flat_set h.2 hc hj]; exact hs.1
  · rcases List.mem_or_eq_of_mem_set hd with hd | hd
    · exact h.2 d hd
    · rw [hd, List.length_set]; exact hck
end

/-- what is known of a slice type t over elements of type e, k cells each -/
structure ElemK (P : Program) (t e : TypeId) (z : Value) (k bytes : Nat) : Prop where
  under : P.underlying t = some (.slice e)
  info : (P.info? e).map (fun i => (i.zero, i.size, i.bytes)) = some (some z, k, bytes)
  cells : z.cells.size = k
  pos : 0 < k
  small : bytes ≤ 64

theorem OwnK.lit (W : World) (e : TypeId) (k : Nat) (css : List (List Value)) (hk : ∀ c ∈ css, c.length = k) (hn : css.length ≤ maxLen) (cs : Array Value) (hcs : cs.toList = css.flatten) :
    OwnK (W.alloc (.cells cs e)) W.heap.size e k (.slice (some ⟨W.heap.size, 0, none⟩) css.length css.length) css := by
  refine ⟨?_, hk⟩
  have := World.ownsRow_lit (base := W.heap.size) (e := e) (size := k) W cs css.length (Nat.le_refl _) hn (by rw [← Array.length_toList, hcs, flat_len hk])
  rwa [hcs] at this

/-- append of one element of k cells, which lies anywhere -/
theorem run_app1K {P : Program} {t e : TypeId} {z : Value} {k bytes B : Nat} {v : Value} {css : List (List Value)} {W : World} {c : List Value} {ad : Addr} (ty : TypeId)
    (T : ElemK P t e z k bytes) (hown : OwnK W B e k v css) (hlen : css.length < 1099511627776) (hB : B ≤ W.heap.size) (hc : c.length = k) (hu : ∀ u ∈ c, u.oneCell' = true)
    (hcell : ∀ j u, c[j]? = some u → W.cell? (ad.add j) = some u) :
    ∃ v' w', (Builtin.append_ #[t, t] ty #[v, .slice (some ad) 1 1]).run P W = .ok v' w' ∧ OwnK w' B e k v' (css ++ [c]) ∧ Grow W w' v v' := by
  obtain ⟨i, hi, hz, h1, h2⟩ := info_parts T.info
  have hby := T.small
  obtain ⟨v', w', hrun, r1, r2, _, r3⟩ := run_append_own_at (P := P) W B t ty e i z k bytes T.under hi hz h1 h2 T.cells T.pos v css.length css.flatten hown.1 ad 1 1 c (by omega) hcell hu (by simp only [maxLen]; omega) (by have := Nat.mul_le_mul_left (css.length + 1) hby; omega) hB
  refine ⟨v', w', hrun, ⟨by simpa using r1, fun d hd => ?_⟩, r2, ?_⟩
  · rcases List.mem_append.1 hd with hd | hd
    · exact hown.2 d hd
    · simp at hd; rw [hd]; exact hc
  · rcases r3 with r3 | r3
    · exact .inl r3
    · exact .inr ⟨_, r3, Nat.le_refl _⟩

theorem wpList_app1K {P : Program} {ops : Array Oper} {rest : List Oper} {o : Oper} {a : Act} {Q : Exit → Act → World → Prop} {s x : Operand} {t : TypeId}
    {e : TypeId} {z : Value} {k bytes : Nat} {B : Nat} {v : Value} {css : List (List Value)} {W : World} {c : List Value} {ad : Addr}
    (T : ElemK P t e z k bytes) (hown : OwnK W B e k v css) (hlen : css.length < 1099511627776) (hB : B ≤ W.heap.size) (hc : c.length = k) (hu : ∀ u ∈ c, u.oneCell' = true)
    (hcell : ∀ j u, c[j]? = some u → W.cell? (ad.add j) = some u)
    (hgd : o.guard = none) (ho : o.op = .call { callee := .builtin .append, args := #[s, x], argTypes := #[t, t] }) (hs : a.eval s = v)
    (hx : a.eval x = .slice (some ad) 1 1)
    (h : ∀ v' w', OwnK w' B e k v' (css ++ [c]) → Grow W w' v v' → wpList P ops Q rest (a.put o.dst v') w') : wpList P ops Q (o :: rest) a W := by
  obtain ⟨v', w', hrun, r1, r2⟩ := run_app1K o.type T hown hlen hB hc hu hcell
  refine wpList_plain hgd fun K hK => ?_
  unfold Oper.wp execOp
  simp only [ho, resolve, invoke, builtin, Sem.run_bind, Sem.run_pure, Result.andThen_ok, List.map_toArray, List.map_cons, List.map_nil, hs, hx, hrun]
  exact hK _ _ (h v' w' r1 r2)

/-- the same, met in a region that draws -/
theorem step_app1K {P : Program} {ops : Array Oper} {o : Oper} {a : Act} {K : Act → World → Prop} {Q : Exit → Act → World → Prop} {E : Prop} {s x : Operand} {t : TypeId}
    {e : TypeId} {z : Value} {k bytes : Nat} {B : Nat} {v : Value} {css : List (List Value)} {W : World} {c : List Value} {ad : Addr}
    (T : ElemK P t e z k bytes) (hown : OwnK W B e k v css) (hlen : css.length < 1099511627776) (hB : B ≤ W.heap.size) (hc : c.length = k) (hu : ∀ u ∈ c, u.oneCell' = true)
    (hcell : ∀ j u, c[j]? = some u → W.cell? (ad.add j) = some u)
    (hgd : o.guard = none) (ho : o.op = .call { callee := .builtin .append, args := #[s, x], argTypes := #[t, t] }) (hs : a.eval s = v)
    (hx : a.eval x = .slice (some ad) 1 1)
    (h : ∀ v' w', OwnK w' B e k v' (css ++ [c]) → Grow W w' v v' → K (a.put o.dst v') w') :
    if Region.wanted o (yielded ops a.tmps) = true then Oper.wp P o a W K Q else E := by
  have hw : Region.wanted o (yielded ops a.tmps) = true := by simp [Region.wanted, hgd]
  rw [if_pos hw]
  obtain ⟨v', w', hrun, r1, r2⟩ := run_app1K o.type T hown hlen hB hc hu hcell
  unfold Oper.wp execOp
  simp only [ho, resolve, invoke, builtin, Sem.run_bind, Sem.run_pure, Result.andThen_ok, List.map_toArray, List.map_cons, List.map_nil, hs, hx, hrun]
  exact h v' w' r1 r2

/-- the cells of a literal of one element of k cells, just laid -/
theorem lit_cells (W : World) (e : TypeId) (c : List Value) (cs : Array Value) (hcs : cs.toList = c) : ∀ j u, c[j]? = some u → (W.alloc (.cells cs e)).cell? ((⟨W.heap.size, 0, none⟩ : Addr).add j) = some u := by
  intro j u hu
  rw [addr_add, (Blk.new W cs e).cell, ← Array.getElem?_toList, hcs]
  exact hu
end Go.Proofs.YtdjhfeaimmpmhaaGreat

