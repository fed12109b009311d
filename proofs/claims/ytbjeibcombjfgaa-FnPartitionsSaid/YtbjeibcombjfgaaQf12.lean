/- Walks: compareTrees, forestOf of the program: lists of trees in their order. | Arguments that came in, opened to the words of the Mem text. -/
import Derived.Test.YtbjeibcombjfgaaQf5
import Derived.Test.YtbjeibcombjfgaaQf7
import Derived.Test.YtbjeibcombjfgaaQf11
import Derived.Test.YtbjeibcombjfgaaRows
import Derived.Test.YtbjeibcombjfgaaQf1
import Derived.WalkKit
import Derived.ProofKit
import Derived.OpenShut
set_option maxRecDepth 100000
set_option linter.unusedVariables false
set_option linter.unusedSimpArgs false
namespace Go.Proofs.Ytbjeibcombjfgaa
open Go.RowKit Go.Sort Go.Shelf

/-- the program's comparison of trees -/
def cmpT (a b : List Int) : Int := if a.length = b.length then cmpL b a else (a.length : Int) - b.length
theorem cmpT_up (a b : List Nat) : decide (cmpT (up a) (up b) < 0) = befN a b := by
  unfold cmpT befN
  rw [up_len, up_len]
  by_cases h : a.length = b.length
  · rw [if_pos h, h, Nat.beq_refl]
    exact cmpL_up b a
  · rw [if_neg h]
    have : Nat.beq a.length b.length = false := by
      cases hb : Nat.beq a.length b.length with
      | true => exact absurd (Nat.eq_of_beq_eq_true hb) h
      | false => rfl
    rw [this]
    simp only [cond_false]
    cases hlt : Nat.blt a.length b.length with
    | true => have := (blt_iff _ _).1 hlt; simp; omega
    | false => have : ¬ a.length < b.length := fun h2 => by rw [(blt_iff _ _).2 h2] at hlt; cases hlt
               simp; omega

theorem i_compareTrees (w : World) (v v' : Value) (a b : List Int) (ha : Ints w v a) (hb : Ints w v' b) :
    Calls Try.prog 150 #[v, v'] w fun e w' => e = .returned (.int .i64 (cmpT a b)) ∧ w = w' := by
  have HA := Lib.hid ha
  have HB := Lib.hid hb
  obtain ⟨A, c, rfl, l1, l2, -⟩ := ha.open_
  obtain ⟨A', c', rfl, m1, m2, -⟩ := hb.open_
  clear ha hb
  by_cases h : a.length = b.length
  · have HE := Lib.hid (show cmpT a b = cmpL b a by rw [cmpT, if_pos h])
    rw [HE.out]
    have hd : ((a.length : Int) != (b.length : Int)) = false := by simp [h]
    have HL := Lib.hid h
    clear h
    go_enter Try.func150, Try.ntmps150
    go_wp2_with (go_at_call 161; refine (lib_Compare _ _ _ b a HB.out HA.out).mono ?_; rintro e w1 ⟨rfl, rfl⟩)
    go_ret
    exact ⟨rfl, rfl⟩
  · have HE := Lib.hid (show cmpT a b = (a.length : Int) - b.length by rw [cmpT, if_neg h])
    rw [HE.out]
    have hd : ((a.length : Int) != (b.length : Int)) = true := by simp; omega
    have hw : IntKind.i64.wrap ((a.length : Int) - (b.length : Int)) = (a.length : Int) - (b.length : Int) := IntWalk.i64_in _ (by omega)
    clear h
    go_enter Try.func150, Try.ntmps150
    go_wp2_with fail
    go_ret
    exact ⟨rfl, rfl⟩

theorem treeCmp {w : World} {B : Nat} (x y : Row1s w B) : ltOf (fun (x y : Row1s w B) => cmpT (up x.1.2) (up y.1.2)) x y = befN x.1.2 y.1.2 := cmpT_up _ _
theorem treeSwo (w : World) (B : Nat) : SWO (ltOf fun (x y : Row1s w B) => cmpT (up x.1.2) (up y.1.2)) where
  irrefl x := by rw [treeCmp]; exact befN_irrefl _
  trans x y z h1 h2 := by rw [treeCmp] at *; exact befN_trans h1 h2
  ntrans x y z h1 h2 := by rw [treeCmp] at *; exact befN_ntrans h1 h2

/-- the insertion sort of the library, at a list of trees of one's own -/
theorem lib_insTrees (w : World) (B cap : Nat) (A : Option Addr) (vs : List Value) (bs : List (List Nat)) (h : Own w B tL (.slice A vs.length cap) vs) (hr : RR w B vs (bs.map up)) (hn : vs.length ≤ 1000) :
    Calls Try.prog 219 #[.slice A vs.length cap, .int .i64 0, .int .i64 vs.length, .func (.func 150) #[] #[]] w fun e w' => e = .returned (.tuple #[]) ∧
      ∃ vs', vs'.length = vs.length ∧ vs'.Perm vs ∧ Own w' B tL (.slice A vs.length cap) vs' ∧ RR w' B vs' ((srtB bs).map up) ∧ w.grownBy w' (Value.ownBlock (.slice A vs.length cap)) := by
  rcases h.cases with ⟨he, rfl⟩ | ⟨g, cap', cur, he, hBg, hgs, -⟩
  · simp only [Value.slice.injEq] at he
    obtain ⟨rfl, -, rfl⟩ := he
    have hb : bs = [] := by have h0 := hr.1; rw [List.length_map] at h0; exact List.eq_nil_of_length_eq_zero h0.symm
    subst hb
    refine (AnyF.insertionSortCmpFunc_none { Try.lsort with } none 0 _ w).mono ?_
    rintro e w' ⟨rfl, rfl⟩
    exact ⟨rfl, [], rfl, .refl _, h, hr, World.grownBy.refl _ _⟩
  · simp only [Value.slice.injEq] at he
    obtain ⟨rfl, -, rfl⟩ := he
    obtain ⟨d, hd1, hd2⟩ := mkRows hr
    have hdl : d.length = vs.length := by rw [← hd1, List.length_map]
    have ho : Own w B tL (.slice (some ⟨g, 0, none⟩) d.length cap) (d.map fun x => x.1.1) := by rw [hd1, hdl]; exact h
    have hone : OneCell (fun x : Row1s w B => x.1.1) := fun x => (RR.one x.2).oneCell _ (by simp)
    have eg : ∀ args w, (callFunc 150 args).run Try.prog w = .ok (.enter 150 args) w := enters_of Try.func150 (by kernel_rfl) rfl
    have hkeep : ∀ (x : Row1s w B) (m : Nat) (dk : Array (Row1s w B)) (os : Array Obj), OwnInts (sortWorld (fun x : Row1s w B => x.1.1) w g 0 m dk os) B tI x.1.1 (up x.1.2) := fun x m dk os =>
      x.2.kept (v' := .slice (some ⟨g, 0, none⟩) vs.length cap) (grownBy_srt dk) (x.2.1.ne_of_type h (by decide))
    have hcmp : CmpReads Try.prog 150 #[] (fun x : Row1s w B => x.1.1) (fun x y => cmpT (up x.1.2) (up y.1.2)) g 0 d.toArray.size w := fun m os dk _ x y =>
      (i_compareTrees _ _ _ _ _ (hkeep x m dk os).ints (hkeep y m dk os).ints).mono fun e w' ⟨he, hw⟩ => ⟨he, 0, hw.symm⟩
    have hcon := Any.insertionSortCmpFunc_one { Try.lsort with } (fun x : Row1s w B => x.1.1) hone _ 150 #[] g 0 cap 0 d.toArray.size d.toArray w eg hcmp (holds_own ho) (Nat.zero_le _) (Nat.le_refl _) (by simp; omega)
    rw [List.size_toArray, hdl] at hcon
    refine hcon.mono ?_
    rintro e w' ⟨rfl, n, rfl⟩
    have hins := insertionSort_holds (treeSwo w B) d.toArray 0 vs.length (Nat.zero_le _) (by simp; omega)
    generalize Sort.insertionSort (ltOf fun (x y : Row1s w B) => cmpT (up x.1.2) (up y.1.2)) d.toArray 0 vs.length = d' at hins ⊢
    obtain ⟨hp, hs⟩ := hins
    have hsz : d'.size = vs.length := by have := hp.1; simp at this; omega
    have hperm : d'.toList.Perm d := by
      have h3 := hp.2.2
      rw [← hsz] at h3
      simp only [Array.extract_size] at h3
      have e : (d.toArray.extract 0 d'.size).toList = d := by
        rw [show d'.size = d.toArray.size by simp; omega, Array.extract_size]
      rw [e] at h3
      exact h3
    have hasc : Asc (d'.toList.map fun x => x.1.2) := by
      rw [Asc, List.pairwise_iff_getElem]
      intro i j hi hj hij
      simp at hi hj
      have h4 := hs i j (Nat.zero_le _) hij (by omega)
      rw [treeCmp, getElem!_pos d' i (by omega), getElem!_pos d' j (by omega)] at h4
      simpa using h4
    have hL : (d'.toList.map fun x => x.1.2) = srtB bs := srtB_unique (by rw [← hd2]; exact hperm.map _) hasc
    have hl : d'.toList.length = d.length := by simp; omega
    have hfin := own_srt (n := n) (os := #[]) ho hl
    simp only [Array.toArray_toList] at hfin
    rw [hdl] at hfin
    rw [← sortWorld_none]
    refine ⟨rfl, d'.toList.map (fun x => x.1.1), by simp; omega, by rw [← hd1]; exact hperm.map _, hfin, ⟨by rw [← hL]; simp, fun k u zs hu hz => ?_⟩, grownBy_srt d'⟩
    rw [← hL, List.map_map, List.getElem?_map] at hz
    rw [List.getElem?_map] at hu
    cases hx : d'.toList[k]? with
    | none => rw [hx] at hu; cases hu
    | some x =>
      rw [hx] at hu hz
      simp only [Option.map_some, Option.some.injEq, Function.comp] at hu hz
      subst hu; subst hz
      exact hkeep x _ _ _

set_option maxHeartbeats 2000000 in
theorem lib_stable (w : World) (B cap : Nat) (A : Option Addr) (vs : List Value) (bs : List (List Nat)) (h : Own w B tL (.slice A vs.length cap) vs) (hr : RR w B vs (bs.map up)) (hn : vs.length ≤ 19) :
    Calls Try.prog 218 #[.slice A vs.length cap, .int .i64 vs.length, .func (.func 150) #[] #[]] w fun e w' => e = .returned (.tuple #[]) ∧
      ∃ vs', vs'.length = vs.length ∧ vs'.Perm vs ∧ Own w' B tL (.slice A vs.length cap) vs' ∧ RR w' B vs' ((srtB bs).map up) ∧ w.grownBy w' (Value.ownBlock (.slice A vs.length cap)) := by
  have hI := Lib.hid (lib_insTrees w B cap A vs bs h hr (by omega))
  have hn1 : ¬ ((20 : Int) ≤ (vs.length : Int)) := by omega
  have hn2 : ¬ ((20 : Int) < (vs.length : Int)) := by omega
  have hd1 : decide ((20 : Int) ≤ (vs.length : Int)) = false := by simp; omega
  have hd2 : decide ((20 : Int) < (vs.length : Int)) = false := by simp; omega
  clear hn
  clear h hr
  go_enter Try.func218, Try.ntmps218
  go_wp2_with fail
  refine wp_loop_rounds 1 ?_
  rw [rounds_succ]
  go_wp2_with (go_at_call 219; refine hI.out.mono ?_; rintro e w1 ⟨rfl, h1⟩; have H1 := Lib.hid h1; clear h1)
  refine wp_loop_rounds 1 ?_
  rw [rounds_succ]
  go_wp2_with fail
  go_end0
  exact ⟨rfl, H1.out⟩

theorem lib_SortStable (w : World) (B cap : Nat) (A : Option Addr) (vs : List Value) (bs : List (List Nat)) (h : Own w B tL (.slice A vs.length cap) vs) (hr : RR w B vs (bs.map up)) (hn : vs.length ≤ 19) :
    Calls Try.prog 202 #[.slice A vs.length cap, .func (.func 150) #[] #[]] w fun e w' => e = .returned (.tuple #[]) ∧
      ∃ vs', vs'.length = vs.length ∧ vs'.Perm vs ∧ Own w' B tL (.slice A vs.length cap) vs' ∧ RR w' B vs' ((srtB bs).map up) ∧ w.grownBy w' (Value.ownBlock (.slice A vs.length cap)) := by
  have hI := Lib.hid (lib_stable w B cap A vs bs h hr hn)
  clear h hr hn
  go_enter Try.func202, Try.ntmps202
  go_wp2_with (go_at_call 218; refine hI.out.mono ?_; rintro e w1 ⟨rfl, h1⟩; have H1 := Lib.hid h1; clear h1)
  go_end0
  exact ⟨rfl, H1.out⟩

set_option maxHeartbeats 2000000 in
theorem i_cloneRows (w : World) (v : Value) (xss : List (List Int)) (ha : Rows w v xss) (hn : xss.length ≤ 1000) (hl : ∀ zs ∈ xss, zs.length ≤ 1000) :
    Calls Try.prog 201 #[v] w fun e w' => ∃ x, e = .returned x ∧ LA w' w.heap.size x xss ∧ Below w.heap.size w w' := by
  obtain ⟨A, c, rfl, l1, l2, h3⟩ := ha.open_
  have H3 := Lib.hid h3
  have HL := Lib.hid hl
  have OL := Lib.hid (show Own (w.alloc (.cells #[] tL)) w.heap.size tL (.slice (some ⟨w.heap.size, 0, none⟩) 0 0) [] from own_lit w tL [] (by simp [maxLen]))
  clear h3 hl ha
  go_enter Try.func201, Try.ntmps201
  go_wp2_with fail
  go_loopw [3, 9] (fun o i wr => ∃ (j : Nat) (vs : List Value), j ≤ xss.length ∧ i = .int .i64 j ∧ Own wr w.heap.size tL o vs ∧ RR wr w.heap.size vs (xss.take j) ∧ vs.Pairwise Apart ∧ Below w.heap.size w wr) (fun _ i _ => xss.length - (intOf i).toNat)
  case atStart =>
    exact ⟨0, [], Nat.zero_le _, rfl, OL.out, RR.nil _ _, List.Pairwise.nil, below1 _ _⟩
  case round =>
    obtain ⟨j, vs, hj, rfl, hown, hrr, hap, hbw⟩ := hrel
    clear OL
    have HO := Lib.hid hown
    have HRR := Lib.hid hrr
    have HBW := Lib.hid hbw
    have HAP := Lib.hid hap
    clear hap
    by_cases hlt : j < xss.length
    · obtain ⟨ad, u, zs, rfl, hz, hu, hc0⟩ := H3.out j hlt
      have hc : wr.cell? (ad.add j) = some u := by
        rw [hbw.cell (by rw [block_add]; have := World.block_lt_of_cell? w _ hc0; rwa [block_add] at this)]; exact hc0
      have HU := Lib.hid (hu.below hbw)
      have HZL := Lib.hid (HL.out zs (List.mem_of_getElem? hz))
      have HTK := Lib.hid (show xss.take (j + 1) = xss.take j ++ [zs] by rw [List.take_add_one, hz]; rfl)
      have hvl : vs.length ≤ 1000 := by have h1 := hrr.1; rw [List.length_take] at h1; omega
      have hji : (j : Int) < (xss.length : Int) := by omega
      clear hown hrr hbw hz hu hc0
      go_wp2_with (first
        | (go_at_call 151; refine (lib_Clone _ _ zs HU.out (by have := HZL.out; omega)).mono ?_; rintro e w2 ⟨r2, rfl, ho2, hb2⟩; obtain ⟨A5, c5, he5, -, -, -⟩ := ho2.ints.open_; subst he5; have HAF := Lib.hid (HRR.out.fresh (Nat.le_refl _) ho2.1.ge); have HO2 := Lib.hid (ho2.mono HBW.out.size); have HBI := Lib.hid hb2; have HB2 := Lib.hid (HBW.out.trans (hb2.mono HBW.out.size)); have HOW := Lib.hid (HO.out.below hb2); clear ho2 hb2)
        | (at_builtin; refine wpList_app1 T_row HOW.out (by omega) HB2.out.size (by rfl) rfl (by rfl) (by rfl) (by rfl) ?_; intro v1 w5 hown1 hgr1; have HN1 := Lib.hid hown1; have HGR := Lib.hid hgr1.1; have HB5 := Lib.hid (hgr1.below HB2.out HB2.out.size HOW.out.ge); clear hown1 hgr1))
      go_roundw
      case rel =>
        refine ⟨j + 1, _, by omega, by go_num, HN1.out, ?_, pairApart_snoc HAP.out HAF.out, HB5.out⟩
        rw [HTK.out]
        exact LL.snoc HOW.out (HRR.out.below HBI.out) HO2.out HN1.out HGR.out
      case measure => simp [intOf]; omega
    · have : j = xss.length := by omega
      subst this
      rw [List.take_length] at HRR
      go_wp2_with fail
      go_ret
      exact ⟨_, rfl, ⟨vs, HO.out, HRR.out, HAP.out⟩, HBW.out⟩

theorem i_forestOf (w : World) (v : Value) (bs : List (List Nat)) (ha : Rows w v (bs.map up)) (hn : bs.length ≤ 19) (hl : ∀ b ∈ bs, b.length ≤ 1000) :
    Calls Try.prog 157 #[v] w fun e w' => ∃ x, e = .returned x ∧ LA w' w.heap.size x ((srtB bs).map up) ∧ Below w.heap.size w w' := by
  have HA := Lib.hid ha
  have HL := Lib.hid (show ∀ zs ∈ bs.map up, zs.length ≤ 1000 from fun zs hz => by obtain ⟨b, hb, rfl⟩ := List.mem_map.1 hz; rw [up_len]; exact hl b hb)
  obtain ⟨A, c, rfl, l1, l2, -⟩ := ha.open_
  clear ha hl
  rw [List.length_map] at l1 HA ⊢
  go_enter Try.func157, Try.ntmps157
  go_wp2_with (first
    | (go_at_call 201; refine (i_cloneRows _ _ (bs.map up) HA.out (by rw [List.length_map]; omega) HL.out).mono ?_; rintro e w1 ⟨x, rfl, ⟨vs, ho, hr, hpa⟩, hb⟩; have HPA := Lib.hid hpa; clear hpa; have hvl := hr.1; rw [List.length_map] at hvl; obtain ⟨A1, c1, rfl, -, -⟩ := ho.cells.open_; have HVL := Lib.hid hvl; have HO := Lib.hid ho; have HR := Lib.hid hr; have HB := Lib.hid hb; clear ho hr hb hvl)
    | (go_at_call 202; refine (lib_SortStable _ _ _ _ vs bs HO.out HR.out (by rw [HVL.out]; exact hn)).mono ?_; rintro e w2 ⟨rfl, vs', hl', hpm, ho', hr', hg'⟩; have HPM := Lib.hid hpm; clear hpm; have HO' := Lib.hid ho'; have HR' := Lib.hid hr'; have HG' := Lib.hid hg'; clear ho' hr' hg' hl'))
  go_ret
  exact ⟨_, rfl, ⟨vs', HO'.out, HR'.out, pairApart_perm HPA.out HPM.out⟩, HB.out.grown HG'.out HB.out.size HO.out.ge⟩
end Go.Proofs.Ytbjeibcombjfgaa

set_option maxRecDepth 100000
set_option linter.unusedVariables false
set_option linter.unusedSimpArgs false
namespace Go.Proofs.Ytbjeibcombjfgaa
open Go.ChangeShapes Go.WideShapes Go.ChangeAt Go.RowKit

theorem in64_of_wf {z : Int} (h : (Lit.int .i64 z).wf = true) : In64 z := by
  simp [Lit.wf, IntKind.min, IntKind.max, IntKind.signed, IntKind.bits] at h
  unfold In64
  omega

theorem open_Ints {H : Type} {enc : TypeId × Value → H} {W : World} {base : Nat} {v : Value} {d : DataW H} {p : List MemPlace}
    (hv : Value.okWide Try.prog W .any base 25 v) (h : DataW.Trod enc Try.prog W 0 (fun _ => true) true 25 v d p) : ∃ zs, Ints W v zs := by
  obtain ⟨a, len, cap, rfl⟩ := okWide_slice Try.underlying25 hv
  obtain ⟨fuel, hf⟩ := h
  rcases open_ints Try.underlying25 Try.underlying2 (by kernel_rfl) hf with ⟨hcs, _⟩ | ⟨x, l, c, zs, hcs, _, hl, hm, hz, _, hcell, hwz⟩
  · simp [Value.cells] at hcs
    obtain ⟨rfl, rfl, rfl⟩ := hcs
    exact ⟨[], ⟨none, 0, rfl, by simp [ints], by simp [maxLen], fun k u hk => by simp [ints] at hk⟩, fun z hz => by simp at hz⟩
  · simp [Value.cells] at hcs
    obtain ⟨rfl, rfl, rfl⟩ := hcs
    have hz' : zs.length = cap := by simpa using hz
    have hlen : (ints (zs.take len)).length = len := by simp [ints]; omega
    refine ⟨zs.take len, ⟨some x, cap, by rw [hlen], by rw [hlen]; exact hl, hm, fun k u hk => ⟨x, rfl, ?_⟩⟩, fun z hz => in64_of_wf (hwz z (List.mem_of_mem_take hz))⟩
    have hk2 : k < (ints (zs.take len)).length := (List.getElem?_eq_some_iff.1 hk).1
    rw [hlen] at hk2
    rw [hcell k (by omega)]
    have e : (ints (zs.take len))[k]? = some (.int .i64 (zs.getD k 0)) := by
      simp [ints, List.getElem?_take, hk2, List.getD, show k < zs.length by omega]
    rw [e] at hk
    exact hk
end Go.Proofs.Ytbjeibcombjfgaa

