/- Lists of lists of one's own whose rows can be read and lie apart from one another. | Walks: compareTrees, forestOf of the program: lists of trees in their order. | Walks: isLevelList, IsLevels of the program; l03Is of the reference. | Walk: l03Is of the reference. | Plain: a list of levels with at most eight nodes, as natural numbers; it is one of finitely many, and each has a canonical list. | Walk: l16Parent of the reference. | Walk: parentsOf of the program. | Walk: canonical of the program. -/
import Derived.Test.YtdjhfeaimmpmhaaGreatZf3
import Derived.Test.YtdjhfeaimmpmhaaGreatZf5
import Derived.Test.YtdjhfeaimmpmhaaGreatZf6
set_option maxRecDepth 100000
set_option linter.unusedVariables false
set_option linter.unusedSimpArgs false
namespace Go.Proofs.YtdjhfeaimmpmhaaGreat
open Go.RowKit

theorem pairApart_perm {vs vs' : List Value} (h : vs.Pairwise Apart) (hp : vs'.Perm vs) : vs'.Pairwise Apart := (hp.pairwise_iff fun h => h.symm).2 h
theorem pairApart_cons {vs : List Value} {u : Value} (h : vs.Pairwise Apart) (hu : ∀ x ∈ vs, Apart x u) : (u :: vs).Pairwise Apart := List.pairwise_cons.2 ⟨fun x hx => (hu x hx).symm, h⟩
theorem pairApart_snoc {vs : List Value} {u : Value} (h : vs.Pairwise Apart) (hu : ∀ x ∈ vs, Apart x u) : (vs ++ [u]).Pairwise Apart := pairApart_perm (pairApart_cons h hu) (List.perm_append_singleton u vs)
/-- a row that has just been made lies apart from rows that were there -/
theorem RR.fresh {w : World} {B M : Nat} {vs : List Value} {xss : List (List Int)} {u : Value} (h : RR w B vs xss) (hM : w.heap.size ≤ M) (hu : ∀ b, u.ownBlock = some b → M ≤ b) : ∀ x ∈ vs, Apart x u := by
  intro x hx
  obtain ⟨k, hk, rfl⟩ := List.getElem_of_mem hx
  have hz : xss[k]? = some (xss[k]'(by rw [← h.1]; exact hk)) := List.getElem?_eq_getElem _
  exact apart_of_lt (fun b hb => Nat.lt_of_lt_of_le ((h.2 k _ _ (List.getElem?_eq_getElem hk) hz).1.lt b hb) hM) hu

def LA (w : World) (B : Nat) (v : Value) (xss : List (List Int)) : Prop := ∃ vs, Own w B tL v vs ∧ RR w B vs xss ∧ vs.Pairwise Apart
section
variable {w w' : World} {B : Nat} {v : Value} {xss : List (List Int)}
theorem LA.ll (h : LA w B v xss) : LL w B v xss := by obtain ⟨vs, h1, h2, -⟩ := h; exact ⟨vs, h1, h2⟩
theorem LA.below (h : LA w B v xss) (hb : Below w.heap.size w w') : LA w' B v xss := by obtain ⟨vs, h1, h2, h3⟩ := h; exact ⟨vs, h1.below hb, h2.below hb, h3⟩
theorem LA.mono {B' : Nat} (h : LA w B v xss) (hB : B' ≤ B) : LA w B' v xss := by obtain ⟨vs, h1, h2, h3⟩ := h; exact ⟨vs, h1.mono hB, h2.mono hB, h3⟩
theorem LA.rows (h : LA w B v xss) : Rows w v xss := h.ll.rows
theorem LA.nil (w : World) (B : Nat) : LA w B (.slice none 0 0) [] := ⟨[], Own.nil _ _ _, RR.nil _ _, List.Pairwise.nil⟩
theorem LA.or (h : LA w B v xss) : OR w B w.heap.size tL tI v xss := by
  obtain ⟨vs, h1, h2, h3⟩ := h
  refine ⟨vs, h1, h1.lt, h2.1, fun k u zs hu hz => OI.of (h2.2 k u zs hu hz), fun i j u u' hij hu hu' => ?_⟩
  have hi := (List.getElem?_eq_some_iff.1 hu).1
  have hj := (List.getElem?_eq_some_iff.1 hu').1
  have := List.pairwise_iff_getElem.1 h3 i j hi hj hij
  rw [(List.getElem?_eq_some_iff.1 hu).2, (List.getElem?_eq_some_iff.1 hu').2] at this
  exact this
end
end Go.Proofs.YtdjhfeaimmpmhaaGreat

set_option maxRecDepth 100000
set_option linter.unusedVariables false
set_option linter.unusedSimpArgs false
namespace Go.Proofs.YtdjhfeaimmpmhaaGreat
open Go.RowKit Go.Sort Go.Shelf

/-- the program's comparison of trees -/
def cmpT (a b : List Int) : Int := if a.length = b.length then cmpL b a else (a.length : Int) - b.length
theorem cmpT_up (a b : List Nat) : decide (cmpT (up a) (up b) < 0) = befN a b := by
  unfold cmpT befN
  rw [up_len, up_len]
  by_cases h : a.length = b.length
  · rw [if_pos h, h, Nat.beq_refl]
    exact cmpL_up b a
  · rw [if_neg h]
    have : Nat.beq a.length b.length = false := by
      cases hb : Nat.beq a.length b.length with
      | true => exact absurd (Nat.eq_of_beq_eq_true hb) h
      | false => rfl
    rw [this]
    simp only [cond_false]
    cases hlt : Nat.blt a.length b.length with
    | true => have := (blt_iff _ _).1 hlt; simp; omega
    | false => have : ¬ a.length < b.length := fun h2 => by rw [(blt_iff _ _).2 h2] at hlt; cases hlt
               simp; omega

theorem i_compareTrees (w : World) (v v' : Value) (a b : List Int) (ha : Ints w v a) (hb : Ints w v' b) :
    Calls Tryz.prog 118 #[v, v'] w fun e w' => e = .returned (.int .i64 (cmpT a b)) ∧ w = w' := by
  have HA := Lib.hid ha
  have HB := Lib.hid hb
  obtain ⟨A, c, rfl, l1, l2, -⟩ := ha.open_
  obtain ⟨A', c', rfl, m1, m2, -⟩ := hb.open_
  clear ha hb
  by_cases h : a.length = b.length
  · have HE := Lib.hid (show cmpT a b = cmpL b a by rw [cmpT, if_pos h])
    rw [HE.out]
    have hd : ((a.length : Int) != (b.length : Int)) = false := by simp [h]
    have HL := Lib.hid h
    clear h
    go_enter Tryz.func118, Tryz.ntmps118
    go_wp2_with (go_at_call 168; refine (lib_Compare _ _ _ b a HB.out HA.out).mono ?_; rintro e w1 ⟨rfl, rfl⟩)
    go_ret
    exact ⟨rfl, rfl⟩
  · have HE := Lib.hid (show cmpT a b = (a.length : Int) - b.length by rw [cmpT, if_neg h])
    rw [HE.out]
    have hd : ((a.length : Int) != (b.length : Int)) = true := by simp; omega
    have hw : IntKind.i64.wrap ((a.length : Int) - (b.length : Int)) = (a.length : Int) - (b.length : Int) := IntWalk.i64_in _ (by omega)
    clear h
    go_enter Tryz.func118, Tryz.ntmps118
    go_wp2_with fail
    go_ret
    exact ⟨rfl, rfl⟩

theorem treeCmp {w : World} {B : Nat} (x y : Row1s w B) : ltOf (fun (x y : Row1s w B) => cmpT (up x.1.2) (up y.1.2)) x y = befN x.1.2 y.1.2 := cmpT_up _ _
theorem treeSwo (w : World) (B : Nat) : SWO (ltOf fun (x y : Row1s w B) => cmpT (up x.1.2) (up y.1.2)) where
  irrefl x := by rw [treeCmp]; exact befN_irrefl _
  trans x y z h1 h2 := by rw [treeCmp] at *; exact befN_trans h1 h2
  ntrans x y z h1 h2 := by rw [treeCmp] at *; exact befN_ntrans h1 h2

/-- the insertion sort of the library, at a list of trees of one's own -/
theorem lib_insTrees (w : World) (B cap : Nat) (A : Option Addr) (vs : List Value) (bs : List (List Nat)) (h : Own w B tL (.slice A vs.length cap) vs) (hr : RR w B vs (bs.map up)) (hn : vs.length ≤ 1000) :
    Calls Tryz.prog 241 #[.slice A vs.length cap, .int .i64 0, .int .i64 vs.length, .func (.func 118) #[] #[]] w fun e w' => e = .returned (.tuple #[]) ∧
      ∃ vs', vs'.length = vs.length ∧ vs'.Perm vs ∧ Own w' B tL (.slice A vs.length cap) vs' ∧ RR w' B vs' ((srtB bs).map up) ∧ w.grownBy w' (Value.ownBlock (.slice A vs.length cap)) := by
  rcases h.cases with ⟨he, rfl⟩ | ⟨g, cap', cur, he, hBg, hgs, -⟩
  · simp only [Value.slice.injEq] at he
    obtain ⟨rfl, -, rfl⟩ := he
    have hb : bs = [] := by have h0 := hr.1; rw [List.length_map] at h0; exact List.eq_nil_of_length_eq_zero h0.symm
    subst hb
    refine (AnyF.insertionSortCmpFunc_none { Tryz.lsort with } none 0 _ w).mono ?_
    rintro e w' ⟨rfl, rfl⟩
    exact ⟨rfl, [], rfl, .refl _, h, hr, World.grownBy.refl _ _⟩
  · simp only [Value.slice.injEq] at he
    obtain ⟨rfl, -, rfl⟩ := he
    obtain ⟨d, hd1, hd2⟩ := mkRows hr
    have hdl : d.length = vs.length := by rw [← hd1, List.length_map]
    have ho : Own w B tL (.slice (some ⟨g, 0, none⟩) d.length cap) (d.map fun x => x.1.1) := by rw [hd1, hdl]; exact h
    have hone : OneCell (fun x : Row1s w B => x.1.1) := fun x => (RR.one x.2).oneCell _ (by simp)
    have eg : ∀ args w, (callFunc 118 args).run Tryz.prog w = .ok (.enter 118 args) w := enters_of Tryz.func118 (by kernel_rfl) rfl
    have hkeep : ∀ (x : Row1s w B) (m : Nat) (dk : Array (Row1s w B)) (os : Array Obj), OwnInts (sortWorld (fun x : Row1s w B => x.1.1) w g 0 m dk os) B tI x.1.1 (up x.1.2) := fun x m dk os =>
      x.2.kept (v' := .slice (some ⟨g, 0, none⟩) vs.length cap) (grownBy_srt dk) (x.2.1.ne_of_type h (by decide))
    have hcmp : CmpReads Tryz.prog 118 #[] (fun x : Row1s w B => x.1.1) (fun x y => cmpT (up x.1.2) (up y.1.2)) g 0 d.toArray.size w := fun m os dk _ x y =>
      (i_compareTrees _ _ _ _ _ (hkeep x m dk os).ints (hkeep y m dk os).ints).mono fun e w' ⟨he, hw⟩ => ⟨he, 0, hw.symm⟩
    have hcon := Any.insertionSortCmpFunc_one { Tryz.lsort with } (fun x : Row1s w B => x.1.1) hone _ 118 #[] g 0 cap 0 d.toArray.size d.toArray w eg hcmp (holds_own ho) (Nat.zero_le _) (Nat.le_refl _) (by simp; omega)
    rw [List.size_toArray, hdl] at hcon
    refine hcon.mono ?_
    rintro e w' ⟨rfl, n, rfl⟩
    have hins := insertionSort_holds (treeSwo w B) d.toArray 0 vs.length (Nat.zero_le _) (by simp; omega)
    generalize Sort.insertionSort (ltOf fun (x y : Row1s w B) => cmpT (up x.1.2) (up y.1.2)) d.toArray 0 vs.length = d' at hins ⊢
    obtain ⟨hp, hs⟩ := hins
    have hsz : d'.size = vs.length := by have := hp.1; simp at this; omega
    have hperm : d'.toList.Perm d := by
      have h3 := hp.2.2
      rw [← hsz] at h3
      simp only [Array.extract_size] at h3
      have e : (d.toArray.extract 0 d'.size).toList = d := by
        rw [show d'.size = d.toArray.size by simp; omega, Array.extract_size]
      rw [e] at h3
      exact h3
    have hasc : Asc (d'.toList.map fun x => x.1.2) := by
      rw [Asc, List.pairwise_iff_getElem]
      intro i j hi hj hij
      simp at hi hj
      have h4 := hs i j (Nat.zero_le _) hij (by omega)
      rw [treeCmp, getElem!_pos d' i (by omega), getElem!_pos d' j (by omega)] at h4
      simpa using h4
    have hL : (d'.toList.map fun x => x.1.2) = srtB bs := srtB_unique (by rw [← hd2]; exact hperm.map _) hasc
    have hl : d'.toList.length = d.length := by simp; omega
    have hfin := own_srt (n := n) (os := #[]) ho hl
    simp only [Array.toArray_toList] at hfin
    rw [hdl] at hfin
    rw [← sortWorld_none]
    refine ⟨rfl, d'.toList.map (fun x => x.1.1), by simp; omega, by rw [← hd1]; exact hperm.map _, hfin, ⟨by rw [← hL]; simp, fun k u zs hu hz => ?_⟩, grownBy_srt d'⟩
    rw [← hL, List.map_map, List.getElem?_map] at hz
    rw [List.getElem?_map] at hu
    cases hx : d'.toList[k]? with
    | none => rw [hx] at hu; cases hu
    | some x =>
      rw [hx] at hu hz
      simp only [Option.map_some, Option.some.injEq, Function.comp] at hu hz
      subst hu; subst hz
      exact hkeep x _ _ _

set_option maxHeartbeats 2000000 in
theorem lib_stable (w : World) (B cap : Nat) (A : Option Addr) (vs : List Value) (bs : List (List Nat)) (h : Own w B tL (.slice A vs.length cap) vs) (hr : RR w B vs (bs.map up)) (hn : vs.length ≤ 19) :
    Calls Tryz.prog 251 #[.slice A vs.length cap, .int .i64 vs.length, .func (.func 118) #[] #[]] w fun e w' => e = .returned (.tuple #[]) ∧
      ∃ vs', vs'.length = vs.length ∧ vs'.Perm vs ∧ Own w' B tL (.slice A vs.length cap) vs' ∧ RR w' B vs' ((srtB bs).map up) ∧ w.grownBy w' (Value.ownBlock (.slice A vs.length cap)) := by
  have hI := Lib.hid (lib_insTrees w B cap A vs bs h hr (by omega))
  have hn1 : ¬ ((20 : Int) ≤ (vs.length : Int)) := by omega
  have hn2 : ¬ ((20 : Int) < (vs.length : Int)) := by omega
  have hd1 : decide ((20 : Int) ≤ (vs.length : Int)) = false := by simp; omega
  have hd2 : decide ((20 : Int) < (vs.length : Int)) = false := by simp; omega
  clear hn
  clear h hr
  go_enter Tryz.func251, Tryz.ntmps251
  go_wp2_with fail
  refine wp_loop_rounds 1 ?_
  rw [rounds_succ]
  go_wp2_with (go_at_call 241; refine hI.out.mono ?_; rintro e w1 ⟨rfl, h1⟩; have H1 := Lib.hid h1; clear h1)
  refine wp_loop_rounds 1 ?_
  rw [rounds_succ]
  go_wp2_with fail
  go_end0
  exact ⟨rfl, H1.out⟩

theorem lib_SortStable (w : World) (B cap : Nat) (A : Option Addr) (vs : List Value) (bs : List (List Nat)) (h : Own w B tL (.slice A vs.length cap) vs) (hr : RR w B vs (bs.map up)) (hn : vs.length ≤ 19) :
    Calls Tryz.prog 232 #[.slice A vs.length cap, .func (.func 118) #[] #[]] w fun e w' => e = .returned (.tuple #[]) ∧
      ∃ vs', vs'.length = vs.length ∧ vs'.Perm vs ∧ Own w' B tL (.slice A vs.length cap) vs' ∧ RR w' B vs' ((srtB bs).map up) ∧ w.grownBy w' (Value.ownBlock (.slice A vs.length cap)) := by
  have hI := Lib.hid (lib_stable w B cap A vs bs h hr hn)
  clear h hr hn
  go_enter Tryz.func232, Tryz.ntmps232
  go_wp2_with (go_at_call 251; refine hI.out.mono ?_; rintro e w1 ⟨rfl, h1⟩; have H1 := Lib.hid h1; clear h1)
  go_end0
  exact ⟨rfl, H1.out⟩

set_option maxHeartbeats 2000000 in
theorem i_cloneRows (w : World) (v : Value) (xss : List (List Int)) (ha : Rows w v xss) (hn : xss.length ≤ 1000) (hl : ∀ zs ∈ xss, zs.length ≤ 1000) :
    Calls Tryz.prog 231 #[v] w fun e w' => ∃ x, e = .returned x ∧ LA w' w.heap.size x xss ∧ Below w.heap.size w w' := by
  obtain ⟨A, c, rfl, l1, l2, h3⟩ := ha.open_
  have H3 := Lib.hid h3
  have HL := Lib.hid hl
  have OL := Lib.hid (show Own (w.alloc (.cells #[] tL)) w.heap.size tL (.slice (some ⟨w.heap.size, 0, none⟩) 0 0) [] from own_lit w tL [] (by simp [maxLen]))
  clear h3 hl ha
  go_enter Tryz.func231, Tryz.ntmps231
  go_wp2_with fail
  go_loopw [3, 9] (fun o i wr => ∃ (j : Nat) (vs : List Value), j ≤ xss.length ∧ i = .int .i64 j ∧ Own wr w.heap.size tL o vs ∧ RR wr w.heap.size vs (xss.take j) ∧ vs.Pairwise Apart ∧ Below w.heap.size w wr) (fun _ i _ => xss.length - (intOf i).toNat)
  case atStart =>
    exact ⟨0, [], Nat.zero_le _, rfl, OL.out, RR.nil _ _, List.Pairwise.nil, below1 _ _⟩
  case round =>
    obtain ⟨j, vs, hj, rfl, hown, hrr, hap, hbw⟩ := hrel
    clear OL
    have HO := Lib.hid hown
    have HRR := Lib.hid hrr
    have HBW := Lib.hid hbw
    have HAP := Lib.hid hap
    clear hap
    by_cases hlt : j < xss.length
    · obtain ⟨ad, u, zs, rfl, hz, hu, hc0⟩ := H3.out j hlt
      have hc : wr.cell? (ad.add j) = some u := by
        rw [hbw.cell (by rw [block_add]; have := World.block_lt_of_cell? w _ hc0; rwa [block_add] at this)]; exact hc0
      have HU := Lib.hid (hu.below hbw)
      have HZL := Lib.hid (HL.out zs (List.mem_of_getElem? hz))
      have HTK := Lib.hid (show xss.take (j + 1) = xss.take j ++ [zs] by rw [List.take_add_one, hz]; rfl)
      have hvl : vs.length ≤ 1000 := by have h1 := hrr.1; rw [List.length_take] at h1; omega
      have hji : (j : Int) < (xss.length : Int) := by omega
      clear hown hrr hbw hz hu hc0
      go_wp2_with (first
        | (go_at_call 167; refine (lib_Clone _ _ zs HU.out (by have := HZL.out; omega)).mono ?_; rintro e w2 ⟨r2, rfl, ho2, hb2⟩; obtain ⟨A5, c5, he5, -, -, -⟩ := ho2.ints.open_; subst he5; have HAF := Lib.hid (HRR.out.fresh (Nat.le_refl _) ho2.1.ge); have HO2 := Lib.hid (ho2.mono HBW.out.size); have HBI := Lib.hid hb2; have HB2 := Lib.hid (HBW.out.trans (hb2.mono HBW.out.size)); have HOW := Lib.hid (HO.out.below hb2); clear ho2 hb2)
        | (at_builtin; refine wpList_app1 T_row HOW.out (by omega) HB2.out.size (by rfl) rfl (by rfl) (by rfl) (by rfl) ?_; intro v1 w5 hown1 hgr1; have HN1 := Lib.hid hown1; have HGR := Lib.hid hgr1.1; have HB5 := Lib.hid (hgr1.below HB2.out HB2.out.size HOW.out.ge); clear hown1 hgr1))
      go_roundw
      case rel =>
        refine ⟨j + 1, _, by omega, by go_num, HN1.out, ?_, pairApart_snoc HAP.out HAF.out, HB5.out⟩
        rw [HTK.out]
        exact LL.snoc HOW.out (HRR.out.below HBI.out) HO2.out HN1.out HGR.out
      case measure => simp [intOf]; omega
    · have : j = xss.length := by omega
      subst this
      rw [List.take_length] at HRR
      go_wp2_with fail
      go_ret
      exact ⟨_, rfl, ⟨vs, HO.out, HRR.out, HAP.out⟩, HBW.out⟩

theorem i_forestOf (w : World) (v : Value) (bs : List (List Nat)) (ha : Rows w v (bs.map up)) (hn : bs.length ≤ 19) (hl : ∀ b ∈ bs, b.length ≤ 1000) :
    Calls Tryz.prog 208 #[v] w fun e w' => ∃ x, e = .returned x ∧ LA w' w.heap.size x ((srtB bs).map up) ∧ Below w.heap.size w w' := by
  have HA := Lib.hid ha
  have HL := Lib.hid (show ∀ zs ∈ bs.map up, zs.length ≤ 1000 from fun zs hz => by obtain ⟨b, hb, rfl⟩ := List.mem_map.1 hz; rw [up_len]; exact hl b hb)
  obtain ⟨A, c, rfl, l1, l2, -⟩ := ha.open_
  clear ha hl
  rw [List.length_map] at l1 HA ⊢
  go_enter Tryz.func208, Tryz.ntmps208
  go_wp2_with (first
    | (go_at_call 231; refine (i_cloneRows _ _ (bs.map up) HA.out (by rw [List.length_map]; omega) HL.out).mono ?_; rintro e w1 ⟨x, rfl, ⟨vs, ho, hr, hpa⟩, hb⟩; have HPA := Lib.hid hpa; clear hpa; have hvl := hr.1; rw [List.length_map] at hvl; obtain ⟨A1, c1, rfl, -, -⟩ := ho.cells.open_; have HVL := Lib.hid hvl; have HO := Lib.hid ho; have HR := Lib.hid hr; have HB := Lib.hid hb; clear ho hr hb hvl)
    | (go_at_call 232; refine (lib_SortStable _ _ _ _ vs bs HO.out HR.out (by rw [HVL.out]; exact hn)).mono ?_; rintro e w2 ⟨rfl, vs', hl', hpm, ho', hr', hg'⟩; have HPM := Lib.hid hpm; clear hpm; have HO' := Lib.hid ho'; have HR' := Lib.hid hr'; have HG' := Lib.hid hg'; clear ho' hr' hg' hl'))
  go_ret
  exact ⟨_, rfl, ⟨vs', HO'.out, HR'.out, pairApart_perm HPA.out HPM.out⟩, HB.out.grown HG'.out HB.out.size HO.out.ge⟩
end Go.Proofs.YtdjhfeaimmpmhaaGreat

set_option maxRecDepth 100000
set_option linter.unusedVariables false
set_option linter.unusedSimpArgs false
namespace Go.Proofs.YtdjhfeaimmpmhaaGreat
open Go.RowKit

end Go.Proofs.YtdjhfeaimmpmhaaGreat

set_option maxRecDepth 100000
set_option linter.unusedVariables false
set_option linter.unusedSimpArgs false
namespace Go.Proofs.YtdjhfeaimmpmhaaGreat
open Go.RowKit

end Go.Proofs.YtdjhfeaimmpmhaaGreat

set_option linter.unusedVariables false
set_option linter.unusedSimpArgs false
set_option maxRecDepth 100000
namespace Go.Proofs.YtdjhfeaimmpmhaaGreat

theorem mem_grow1 {t : List Nat} {last l : Nat} : ∀ {b : Nat}, 1 ≤ l → l ≤ b → t ++ [l] ∈ grow1 t last b
  | 0, h1, h2 => by omega
  | b + 1, h1, h2 => by
    rw [grow1]
    by_cases h : l = b + 1
    · subst h; simp
    · exact List.mem_cons_of_mem _ (mem_grow1 h1 (by omega))
theorem lastN_cons (a b : Nat) (t : List Nat) : lastN (a :: b :: t) = lastN (b :: t) := rfl
theorem lvlF_snoc : ∀ (p : Nat) (t : List Nat) (l : Nat), lvlF p (t ++ [l]) = true → lvlF p t = true ∧ 1 ≤ l ∧ l ≤ lastN (p :: t) + 1
  | p, [], l, h => by
    rw [List.nil_append, lvlF] at h
    cases h1 : Nat.ble 1 l with
    | false => rw [h1] at h; cases h
    | true =>
      cases h2 : Nat.ble l (p + 1) with
      | false => rw [h1, h2] at h; cases h
      | true => exact ⟨rfl, Nat.le_of_ble_eq_true h1, Nat.le_of_ble_eq_true h2⟩
  | p, x :: t, l, h => by
    rw [List.cons_append, lvlF] at h
    rw [lvlF, lastN_cons]
    cases h1 : Nat.ble 1 x with
    | false => rw [h1] at h; cases h
    | true =>
      cases h2 : Nat.ble x (p + 1) with
      | false => rw [h1, h2] at h; cases h
      | true =>
        rw [h1, h2] at h
        exact lvlF_snoc x t l h
theorem lvl_snoc {t : List Nat} {l : Nat} (ht : t ≠ []) (h : lvl (t ++ [l]) = true) : lvl t = true ∧ 1 ≤ l ∧ l ≤ lastN t + 1 := by
  cases t with
  | nil => exact absurd rfl ht
  | cons a t =>
    rw [List.cons_append, lvl] at h
    rw [lvl]
    cases h1 : Nat.beq a 0 with
    | false => rw [h1] at h; cases h
    | true =>
      rw [h1] at h
      have := Nat.eq_of_beq_eq_true h1
      subst this
      exact lvlF_snoc 0 t l h
theorem mem_levs : ∀ (m : Nat) (t : List Nat), t.length = m + 1 → lvl t = true → t ∈ levs m
  | 0, t, hl, h => by
    cases t with
    | nil => simp at hl
    | cons a t =>
      have : t = [] := List.eq_nil_of_length_eq_zero (by simpa using hl)
      subst this
      rw [lvl] at h
      cases h1 : Nat.beq a 0 with
      | false => rw [h1] at h; cases h
      | true => have := Nat.eq_of_beq_eq_true h1; subst this; simp [levs]
  | m + 1, t, hl, h => by
    have hne : t ≠ [] := fun e => by rw [e] at hl; simp at hl
    obtain ⟨s, l, rfl⟩ : ∃ s l, t = s ++ [l] := ⟨t.dropLast, t.getLast hne, (List.dropLast_concat_getLast hne).symm⟩
    have hsl : s.length = m + 1 := by simpa using hl
    obtain ⟨h1, h2, h3⟩ := lvl_snoc (fun e => by rw [e] at hsl; simp at hsl) h
    rw [levs, List.mem_flatMap]
    exact ⟨s, mem_levs m s hsl h1, mem_grow1 h2 h3⟩

/-- what holds of all the lists of at most eight levels -/
theorem lev8 {p : List Nat → Bool} (h : (List.range 8).all (fun m => (levs m).all p) = true) {t : List Nat} (ht : lvl t = true) (hl : t.length ≤ 8) : p t = true := by
  have hpos : 0 < t.length := by cases t with
    | nil => cases ht
    | cons a t => simp
  rw [List.all_eq_true] at h
  have h1 := h (t.length - 1) (by simp; omega)
  rw [List.all_eq_true] at h1
  exact h1 t (mem_levs _ _ (by omega) ht)
theorem canO_8 {t : List Nat} (ht : lvl t = true) (hl : t.length ≤ 8) : ∃ r, canO 9 t = some r ∧ lvl r = true ∧ canO 9 r = some r := by
  have h := lev8 (p := fun t => match canO 9 t with | none => false | some r => lvl r && (match canO 9 r with | none => false | some r' => eqN r r')) (by decide +kernel) ht hl
  cases hr : canO 9 t with
  | none => rw [hr] at h; cases h
  | some r =>
    rw [hr] at h
    simp only [Bool.and_eq_true] at h
    refine ⟨r, rfl, h.1, ?_⟩
    have h2 := h.2
    cases hr2 : canO 9 r with
    | none => rw [hr2] at h2; cases h2
    | some r' =>
      rw [hr2] at h2
      rw [eqN_iff.1 h2]
end Go.Proofs.YtdjhfeaimmpmhaaGreat

set_option maxRecDepth 100000
set_option linter.unusedVariables false
set_option linter.unusedSimpArgs false
namespace Go.Proofs.YtdjhfeaimmpmhaaGreat
open Go.RowKit

end Go.Proofs.YtdjhfeaimmpmhaaGreat

set_option maxRecDepth 100000
set_option linter.unusedVariables false
set_option linter.unusedSimpArgs false
namespace Go.Proofs.YtdjhfeaimmpmhaaGreat
open Go.RowKit

abbrev tN : TypeId := 3
theorem T_nat : ElemT Tryz.prog 119 3 (.int .i64 0) 8 := ⟨Tryz.underlying119, by kernel_rfl, rfl, by omega⟩

/-- the parents of the first j nodes, -1 for none -/
def pzTo (t : List Nat) (j : Nat) : List Int := (List.range j).map fun i => (parN t (t.getD i 0) i : Int) - 1
theorem pzTo_len (t : List Nat) (j : Nat) : (pzTo t j).length = j := by simp [pzTo]
theorem pzTo_succ (t : List Nat) (j : Nat) : pzTo t (j + 1) = pzTo t j ++ [(parN t (t.getD j 0) j : Int) - 1] := by simp [pzTo, List.range_succ]

set_option maxHeartbeats 2000000 in
theorem i_parentsOf (w : World) (v : Value) (t : List Nat) (ha : Ints w v (up t)) (hn : t.length ≤ 1000) (hl : ∀ l ∈ t, l ≤ 1000000) :
    Calls Tryz.prog 201 #[v] w fun e w' => ∃ x, e = .returned x ∧ OwnInts w' w.heap.size tN x (pzTo t t.length) ∧ Below w.heap.size w w' := by
  obtain ⟨A, c, rfl, l1, l2, h3⟩ := ha.open_
  rw [up_len] at l1 h3 ⊢
  have H3 := Lib.hid h3
  have HLV := Lib.hid hl
  have OL := Lib.hid (show OwnInts (w.alloc (.cells #[] tN)) w.heap.size tN (.slice (some ⟨w.heap.size, 0, none⟩) 0 0) [] from ⟨own_lit w tN [] (by simp [maxLen]), fun z hz => by simp at hz⟩)
  clear ha h3 hl
  go_enter Tryz.func201, Tryz.ntmps201
  go_wp2_with fail
  go_loopw [3, 10] (fun o x wr => ∃ j : Nat, j ≤ t.length ∧ x = .int .i64 j ∧ OwnInts wr w.heap.size tN o (pzTo t j) ∧ Below w.heap.size w wr) (fun _ x _ => t.length - (intOf x).toNat)
  case atStart => exact ⟨0, Nat.zero_le _, rfl, by simpa [pzTo] using OL.out, below1 _ _⟩
  case round =>
    obtain ⟨j, hj, rfl, ho, hb⟩ := hrel
    clear OL
    have HO := Lib.hid ho
    have HB := Lib.hid hb
    clear ho hb
    by_cases hlt : j < t.length
    · obtain ⟨ad, zi, rfl, hzi, -, hci0⟩ := H3.out j hlt
      have hci : wr.cell? (ad.add j) = some (.int .i64 zi) := by
        rw [HB.out.cell (by rw [block_add]; have := World.block_lt_of_cell? w _ hci0; rwa [block_add] at this)]; exact hci0
      obtain ⟨L, hL, hzL⟩ := up_getD hzi
      have hL6 := HLV.out L (List.mem_of_getElem? hL)
      have HG := Lib.hid (show t.getD j 0 = L by simp [List.getD, hL])
      have hji : (j : Int) < (t.length : Int) := by omega
      have hwz : IntKind.i64.wrap (zi - 1) = zi - 1 := IntWalk.i64_in _ (by omega)
      have hwi : IntKind.i64.wrap ((j : Int) - 1) = (j : Int) - 1 := IntWalk.i64_in _ (by omega)
      have HZL := Lib.hid hzL
      have HZB := Lib.hid (show (0 : Int) ≤ zi ∧ zi ≤ 1000000 by omega)
      clear hzi hL hci0 hzL hL6
      go_wp2_with fail
      obtain ⟨wo, rfl⟩ : ∃ wo : World, wo = wr := ⟨_, rfl⟩
      go_loopw [6] (fun x wi => ∃ m : Nat, m ≤ j ∧ x = .int .i64 ((m : Int) - 1) ∧ Hid (parN t L m = parN t L j) ∧ wo = wi) (fun x _ => (intOf x + 1).toNat)
      case atStart => exact ⟨j, Nat.le_refl _, rfl, rfl, rfl⟩
      case round =>
        obtain ⟨m, hm, rfl, HP, rfl⟩ := hrel
        cases m with
        | zero =>
          have h0 : ((0 : Nat) : Int) - 1 = -1 := rfl
          rw [h0]
          clear h0
          have HV := Lib.hid (show (parN t (t.getD j 0) j : Int) - 1 = -1 by rw [HG.out, ← HP.out]; rfl)
          have hv64 : In64 (-1) := by unfold In64; omega
          clear hm
          go_wp2_with (at_builtin; refine wpList_app1 T_nat HO.out.1 (by rw [ints_len, pzTo_len]; omega) HB.out.size (by rfl) rfl (by rfl) (by rfl) (by rfl) ?_; intro v1 w5 hown1 hgr1; have HN := Lib.hid hown1; have HB5 := Lib.hid (hgr1.below HB.out HB.out.size HO.out.1.ge); clear hown1 hgr1)
          go_roundw
          case rel =>
            refine ⟨j + 1, by omega, by go_num, ?_, HB5.out⟩
            rw [pzTo_succ, HV.out]
            exact ⟨by simpa [ints] using HN.out, fun y hy => by rcases List.mem_append.1 hy with hy | hy; exact HO.out.2 y hy; simp at hy; subst hy; exact hv64⟩
          case measure => simp [intOf]; omega
        | succ p =>
          have h0 : ((p + 1 : Nat) : Int) - 1 = (p : Int) := by omega
          rw [h0]
          clear h0
          obtain ⟨ad', z, hae, hz, -, hc0⟩ := H3.out p (by omega)
          injection hae with hae
          subst hae
          have hc : wo.cell? (ad.add p) = some (.int .i64 z) := by
            rw [HB.out.cell (by rw [block_add]; have := World.block_lt_of_cell? w _ hc0; rwa [block_add] at this)]; exact hc0
          obtain ⟨P, hP, hzP⟩ := up_getD hz
          have HGP := Lib.hid (show t.getD p 0 = P by simp [List.getD, hP])
          have hpi : (p : Int) < (t.length : Int) := by omega
          have hp0 : (0 : Int) ≤ (p : Int) := by omega
          have hwp : IntKind.i64.wrap ((p : Int) - 1) = (p : Int) - 1 := IntWalk.i64_in _ (by omega)
          by_cases hq : P + 1 = L
          · have hd : (z != zi - 1) = false := by rw [HZL.out, hzP]; simp; omega
            have HV := Lib.hid (show (parN t (t.getD j 0) j : Int) - 1 = (p : Int) by rw [HG.out, ← HP.out, parN, HGP.out, hq, Nat.beq_refl]; simp)
            have hv64 : In64 (p : Int) := by unfold In64; omega
            clear hzP hq hz hP hc0
            go_wp2_with (at_builtin; refine wpList_app1 T_nat HO.out.1 (by rw [ints_len, pzTo_len]; omega) HB.out.size (by rfl) rfl (by rfl) (by rfl) (by rfl) ?_; intro v1 w5 hown1 hgr1; have HN := Lib.hid hown1; have HB5 := Lib.hid (hgr1.below HB.out HB.out.size HO.out.1.ge); clear hown1 hgr1)
            go_roundw
            case rel =>
              refine ⟨j + 1, by omega, by go_num, ?_, HB5.out⟩
              rw [pzTo_succ, HV.out]
              exact ⟨by simpa [ints] using HN.out, fun y hy => by rcases List.mem_append.1 hy with hy | hy; exact HO.out.2 y hy; simp at hy; subst hy; exact hv64⟩
            case measure => simp [intOf]; omega
          · have hd : (z != zi - 1) = true := by rw [HZL.out, hzP]; simp; omega
            have HR := Lib.hid (show parN t L (p + 1) = parN t L p by
              rw [parN, HGP.out]
              cases hb : Nat.beq (P + 1) L with
              | true => exact absurd (Nat.eq_of_beq_eq_true hb) hq
              | false => rfl)
            clear hzP hq hz hP hc0
            go_wp2_with fail
            go_roundw
            case rel => exact ⟨p, by omega, by first | rfl | go_num, by rw [← HR.out]; exact HP.out, by first | rfl | trivial⟩
            case measure => first | (simp [intOf]; done) | (simp [intOf]; omega)
    · have : j = t.length := by omega
      subst this
      go_wp2_with fail
      go_ret
      exact ⟨_, rfl, HO.out, HB.out⟩
end Go.Proofs.YtdjhfeaimmpmhaaGreat

set_option maxRecDepth 100000
set_option linter.unusedVariables false
set_option linter.unusedSimpArgs false
namespace Go.Proofs.YtdjhfeaimmpmhaaGreat
open Go.RowKit

/-- a row of one's own is stored in a list of rows of one's own -/
theorem RR.store {w : World} {B g n cap k : Nat} {vs : List Value} {xss : List (List Int)} {u : Value} {zs : List Int} (h : Own w B tL (.slice (some ⟨g, 0, none⟩) n cap) vs) (hr : RR w B vs xss) (hk : k < vs.length) (hu : OwnInts w B tI u zs) :
    (∃ u0, w.cell? ⟨g, k, none⟩ = some u0) ∧ w.frozen? ⟨g, k, none⟩ = false ∧ Own (w.setCell ⟨g, k, none⟩ u) B tL (.slice (some ⟨g, 0, none⟩) n cap) (vs.set k u) ∧ RR (w.setCell ⟨g, k, none⟩ u) B (vs.set k u) (xss.set k zs) := by
  obtain ⟨u0, -, hc, hf, -, -, ho, hg⟩ := h.storeAt hk u
  refine ⟨⟨u0, hc⟩, hf, ho, ?_⟩
  exact (hr.set hu).other (v := .slice (some ⟨g, 0, none⟩) n cap) hg h (by decide)

theorem put_step {cs bs : List (List Nat)} {j : Nat} {c : List Nat} (hl : cs.length = bs.length) (hj : j < bs.length) (hc : cs[j]? = some c) :
    ((cs.take j ++ bs.drop j).map up).set j (up c) = (cs.take (j + 1) ++ bs.drop (j + 1)).map up := by
  rw [← List.map_set]
  congr 1
  have e1 : (cs.take j).length = j := by rw [List.length_take]; omega
  rw [List.set_append, if_neg (by omega), e1, Nat.sub_self, List.drop_eq_getElem_cons hj, List.set_cons_zero, List.take_add_one, hc]
  simp
theorem put_at {cs bs : List (List Nat)} {j : Nat} (hl : cs.length = bs.length) (hj : j < bs.length) : (cs.take j ++ bs.drop j)[j]? = bs[j]? := by
  have e1 : (cs.take j).length = j := by rw [List.length_take]; omega
  rw [List.getElem?_append_right (by omega), e1, Nat.sub_self, List.getElem?_drop, Nat.add_zero]

set_option maxHeartbeats 8000000 in
theorem i_canonical : ∀ (f : Nat) (w : World) (v : Value) (t r : List Nat), Ints w v (up t) → canO f t = some r → t.length ≤ 1000 → (∀ l ∈ t, l ≤ 1000000) →
    Calls Tryz.prog 170 #[v] w fun e w' => ∃ x, e = .returned x ∧ OwnInts w' w.heap.size tI x (up r) ∧ Below w.heap.size w w' := by
  intro f
  induction f with
  | zero => intro w v t r _ h; cases h
  | succ f ih =>
    intro w v t r ha hcan hn hl
    obtain ⟨bs, cs, hb, hm, hr⟩ := canO_parts hcan
    have IH := Lib.hid ih
    have HA := Lib.hid ha
    have HB := Lib.hid hb
    have HM := Lib.hid hm
    have HR := Lib.hid hr
    have HL := Lib.hid hl
    have HLE := Lib.hid (brO_lens hb hn)
    have HLM := Lib.hid (brO_mem hb hl)
    have HCL := Lib.hid (mapO_len hm)
    have HSB := Lib.hid (show ∀ q ∈ srtD cs, q.length ≤ 1000 ∧ ∀ l ∈ q, l < 1000000 from fun q hq => by
      rcases mem_srtF hq with h | h
      · simp at h
      · obtain ⟨x, hx, hxq⟩ := mapO_all hm q h
        have h1 := canO_len hxq
        have h2 := (brO_lens hb hn).2 x hx
        exact ⟨by omega, fun l hl => by have := canO_lt hxq l hl; omega⟩)
    have HBT := Lib.hid (show brLen (srtD cs) ≤ 1000 by
      have h2 := canO_len hcan
      rw [hr, rootN, List.length_cons, bumps_len] at h2
      omega)
    have HSL := Lib.hid (show (srtD cs).length ≤ 1000 by
      have h1 := (brO_lens hb hn).1
      have h2 := mapO_len hm
      rw [srtD, len_srtF, h2]
      simpa using h1)
    have hbl : bs.length ≤ 1000 := HLE.out.1
    obtain ⟨A, c, rfl, -, -, -⟩ := ha.open_
    rw [up_len] at HA ⊢
    clear ih ha hb hm hr hl hcan
    go_enter Tryz.func170, Tryz.ntmps170
    go_wp2_with (go_at_call 193; refine (i_branchesOf _ _ t bs HA.out HB.out hn HL.out).mono ?_; rintro e w1 ⟨r1, rfl, ⟨vs0, ho1, hr1⟩, hb1⟩; obtain ⟨A1, c1, he1, -, -⟩ := ho1.cells.open_; have HL0 := Lib.hid (show vs0.length = bs.length by rw [hr1.1, List.length_map]); rw [HL0.out] at he1; subst he1; have HO0 := Lib.hid ho1; have HR0 := Lib.hid hr1; have HB0 := Lib.hid hb1; clear ho1 hr1 hb1)
    go_loopw [10] (fun i wr => ∃ (j : Nat) (vs : List Value), j ≤ bs.length ∧ i = .int .i64 j ∧ Hid (vs.length = bs.length) ∧ Own wr w.heap.size tL (.slice A1 bs.length c1) vs ∧ RR wr w.heap.size vs ((cs.take j ++ bs.drop j).map up) ∧ Below w.heap.size w wr) (fun i _ => bs.length - (intOf i).toNat)
    case atStart => exact ⟨0, vs0, Nat.zero_le _, rfl, HL0, HO0.out, by simpa using HR0.out, HB0.out⟩
    case round =>
      obtain ⟨j, vs, hj, rfl, HVL, hown, hrr, hbw⟩ := hrel
      clear HL0 HO0 HR0 HB0
      have HO := Lib.hid hown
      have HRR := Lib.hid hrr
      have HBW := Lib.hid hbw
      by_cases hlt : j < bs.length
      · rcases hown.cases with ⟨he, hv⟩ | ⟨g, cap, cur, he, hBg, hgs, -⟩
        · have := HVL.out; rw [hv] at this; simp at this; omega
        · simp only [Value.slice.injEq] at he
          obtain ⟨rfl, -, rfl⟩ := he
          have hjv : j < vs.length := by rw [HVL.out]; exact hlt
          have hu' : vs[j]? = some (vs[j]'hjv) := List.getElem?_eq_getElem _
          have hbj : bs[j]? = some (bs[j]'hlt) := List.getElem?_eq_getElem _
          obtain ⟨cj, hcj, hcan⟩ := mapO_get HM.out j _ hbj
          have hi := hrr.2 j _ _ hu' (by rw [List.getElem?_map, put_at HCL.out hlt, hbj]; rfl)
          obtain ⟨Au, cu, hue, -, -, -⟩ := hi.ints.open_
          rw [up_len] at hue
          obtain ⟨u0, hu0, q0, -⟩ := hown.storeAt hjv (.slice none 0 0)
          have hc : wr.cell? ⟨g, j, none⟩ = some (.slice Au (bs[j]'hlt).length cu) := by rw [q0, ← hue, ← hu0, hu']
          have HU := Lib.hid (show Ints wr (.slice Au (bs[j]'hlt).length cu) (up (bs[j]'hlt)) by rw [← hue]; exact hi.ints)
          have HCAN := Lib.hid hcan
          have HBJ1 := Lib.hid (HLE.out.2 _ (List.mem_of_getElem? hbj))
          have HBJ2 := Lib.hid (HLM.out _ (List.mem_of_getElem? hbj))
          have HPS := Lib.hid (put_step HCL.out hlt hcj)
          have HJV := Lib.hid hjv
          have hji : (j : Int) < (bs.length : Int) := by omega
          generalize bs[j]'hlt = bj at HU HCAN HBJ1 HBJ2 hc
          have HGB := Lib.hid hBg
          clear hu' hbj hcj hcan hi hue hu0 q0 hown hrr hbw hjv hBg
          go_wp2_with (go_at_call 170; refine (IH.out _ _ _ _ HU.out HCAN.out HBJ1.out HBJ2.out).mono ?_; rintro e w2 ⟨r2, rfl, ho2, hb2⟩; obtain ⟨A5, c5, he5, -, -, -⟩ := ho2.ints.open_; rw [up_len] at he5; subst he5; obtain ⟨⟨u0, q1⟩, q2, ho3, hr3⟩ := RR.store (k := j) (HO.out.below hb2) (HRR.out.below hb2) HJV.out (ho2.mono HBW.out.size); have HO3 := Lib.hid ho3; have HR3 := Lib.hid hr3; have HB2 := Lib.hid (HBW.out.trans (hb2.mono HBW.out.size)); have hgs2 : g < w2.heap.size := Nat.lt_of_lt_of_le hgs hb2.size; clear ho2 hb2 ho3 hr3)
          go_roundw
          case rel =>
            refine ⟨j + 1, vs.set j (.slice A5 cj.length c5), by omega, by go_num, by simp only [Hid, List.length_set]; exact HVL.out, HO3.out, ?_, HB2.out.setCell (p := ⟨g, j, none⟩) HGB.out _⟩
            rw [← HPS.out]
            exact HR3.out
          case measure => simp [intOf]; omega
      · have : j = bs.length := by omega
        subst this
        have HRR2 := Lib.hid (show RR wr w.heap.size vs (cs.map up) by
          have h := hrr
          rw [List.drop_length, List.append_nil, ← HCL.out, List.take_length] at h
          exact h)
        have HV1 := Lib.hid (show vs.length ≤ 1000 by rw [HVL.out]; exact hbl)
        clear hown hrr hbw HRR
        go_wp2_with (first
          | (go_at_call 203; have hS := lib_SortDesc wr w.heap.size c1 A1 vs cs (by rw [HVL.out]; exact HO.out) HRR2.out HV1.out; rw [HVL.out] at hS; refine hS.mono ?_; clear hS; rintro e w3 ⟨rfl, vs', hl', ho', hr', hg'⟩; have HROW := Lib.hid (hr'.rows ho'); have HB3 := Lib.hid (HBW.out.grown hg' HBW.out.size HO.out.ge); clear ho' hr' hg' hl')
          | (go_at_call 205; refine (i_rootOn _ _ (srtD cs) HROW.out HSB.out HBT.out HSL.out).mono ?_; rintro e w4 ⟨x, rfl, hx, hb4⟩; have HX := Lib.hid hx; have HB4 := Lib.hid hb4; clear hx hb4))
        go_ret
        exact ⟨_, rfl, by rw [HR.out]; exact HX.out.mono HB3.out.size, HB3.out.trans (HB4.out.mono HB3.out.size)⟩
end Go.Proofs.YtdjhfeaimmpmhaaGreat

