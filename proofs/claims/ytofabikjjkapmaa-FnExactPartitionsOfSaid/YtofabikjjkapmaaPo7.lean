/- Walks: compareTrees, forestOf of the program: lists of trees in their order. | Walks: isLevelList, IsLevels of the program; l03Is of the reference. | Walk: l03Is of the reference. | Plain: a list of levels with at most eight nodes, as natural numbers; it is one of finitely many, and each has a canonical list. | Walk: l16Parent of the reference. | Walk: parentsOf of the program. -/
import Derived.Test.YtofabikjjkapmaaPo6
import Derived.Test.YtofabikjjkapmaaPo3
import Derived.Test.YtofabikjjkapmaaPo5
set_option maxRecDepth 100000
set_option linter.unusedVariables false
set_option linter.unusedSimpArgs false
namespace Go.Proofs.Ytofabikjjkapmaa
open Go.RowKit Go.Sort Go.Shelf

/-- the program's comparison of trees -/
def cmpT (a b : List Int) : Int := if a.length = b.length then cmpL b a else (a.length : Int) - b.length
theorem cmpT_up (a b : List Nat) : decide (cmpT (up a) (up b) < 0) = befN a b := by
  unfold cmpT befN
  rw [up_len, up_len]
  by_cases h : a.length = b.length
  · rw [if_pos h, h, Nat.beq_refl]
    exact cmpL_up b a
  · rw [if_neg h]
    have : Nat.beq a.length b.length = false := by
      cases hb : Nat.beq a.length b.length with
      | true => exact absurd (Nat.eq_of_beq_eq_true hb) h
      | false => rfl
    rw [this]
    simp only [cond_false]
    cases hlt : Nat.blt a.length b.length with
    | true => have := (blt_iff _ _).1 hlt; simp; omega
    | false => have : ¬ a.length < b.length := fun h2 => by rw [(blt_iff _ _).2 h2] at hlt; cases hlt
               simp; omega

theorem i_compareTrees (w : World) (v v' : Value) (a b : List Int) (ha : Ints w v a) (hb : Ints w v' b) :
    Calls Try.prog 60 #[v, v'] w fun e w' => e = .returned (.int .i64 (cmpT a b)) ∧ w = w' := by
  have HA := Lib.hid ha
  have HB := Lib.hid hb
  obtain ⟨A, c, rfl, l1, l2, -⟩ := ha.open_
  obtain ⟨A', c', rfl, m1, m2, -⟩ := hb.open_
  clear ha hb
  by_cases h : a.length = b.length
  · have HE := Lib.hid (show cmpT a b = cmpL b a by rw [cmpT, if_pos h])
    rw [HE.out]
    have hd : ((a.length : Int) != (b.length : Int)) = false := by simp [h]
    have HL := Lib.hid h
    clear h
    go_enter Try.func60, Try.ntmps60
    go_wp2_with (go_at_call 66; refine (lib_Compare _ _ _ b a HB.out HA.out).mono ?_; rintro e w1 ⟨rfl, rfl⟩)
    go_ret
    exact ⟨rfl, rfl⟩
  · have HE := Lib.hid (show cmpT a b = (a.length : Int) - b.length by rw [cmpT, if_neg h])
    rw [HE.out]
    have hd : ((a.length : Int) != (b.length : Int)) = true := by simp; omega
    have hw : IntKind.i64.wrap ((a.length : Int) - (b.length : Int)) = (a.length : Int) - (b.length : Int) := IntWalk.i64_in _ (by omega)
    clear h
    go_enter Try.func60, Try.ntmps60
    go_wp2_with fail
    go_ret
    exact ⟨rfl, rfl⟩

theorem treeCmp {w : World} {B : Nat} (x y : Row1s w B) : ltOf (fun (x y : Row1s w B) => cmpT (up x.1.2) (up y.1.2)) x y = befN x.1.2 y.1.2 := cmpT_up _ _
theorem treeSwo (w : World) (B : Nat) : SWO (ltOf fun (x y : Row1s w B) => cmpT (up x.1.2) (up y.1.2)) where
  irrefl x := by rw [treeCmp]; exact befN_irrefl _
  trans x y z h1 h2 := by rw [treeCmp] at *; exact befN_trans h1 h2
  ntrans x y z h1 h2 := by rw [treeCmp] at *; exact befN_ntrans h1 h2

/-- the insertion sort of the library, at a list of trees of one's own -/
theorem lib_insTrees (w : World) (B cap : Nat) (A : Option Addr) (vs : List Value) (bs : List (List Nat)) (h : Own w B tL (.slice A vs.length cap) vs) (hr : RR w B vs (bs.map up)) (hn : vs.length ≤ 1000) :
    Calls Try.prog 105 #[.slice A vs.length cap, .int .i64 0, .int .i64 vs.length, .func (.func 60) #[] #[]] w fun e w' => e = .returned (.tuple #[]) ∧
      ∃ vs', vs'.length = vs.length ∧ vs'.Perm vs ∧ Own w' B tL (.slice A vs.length cap) vs' ∧ RR w' B vs' ((srtB bs).map up) ∧ w.grownBy w' (Value.ownBlock (.slice A vs.length cap)) := by
  rcases h.cases with ⟨he, rfl⟩ | ⟨g, cap', cur, he, hBg, hgs, -⟩
  · simp only [Value.slice.injEq] at he
    obtain ⟨rfl, -, rfl⟩ := he
    have hb : bs = [] := by have h0 := hr.1; rw [List.length_map] at h0; exact List.eq_nil_of_length_eq_zero h0.symm
    subst hb
    refine (AnyF.insertionSortCmpFunc_none { Try.lsort with } none 0 _ w).mono ?_
    rintro e w' ⟨rfl, rfl⟩
    exact ⟨rfl, [], rfl, .refl _, h, hr, World.grownBy.refl _ _⟩
  · simp only [Value.slice.injEq] at he
    obtain ⟨rfl, -, rfl⟩ := he
    obtain ⟨d, hd1, hd2⟩ := mkRows hr
    have hdl : d.length = vs.length := by rw [← hd1, List.length_map]
    have ho : Own w B tL (.slice (some ⟨g, 0, none⟩) d.length cap) (d.map fun x => x.1.1) := by rw [hd1, hdl]; exact h
    have hone : OneCell (fun x : Row1s w B => x.1.1) := fun x => (RR.one x.2).oneCell _ (by simp)
    have eg : ∀ args w, (callFunc 60 args).run Try.prog w = .ok (.enter 60 args) w := enters_of Try.func60 (by kernel_rfl) rfl
    have hkeep : ∀ (x : Row1s w B) (m : Nat) (dk : Array (Row1s w B)) (os : Array Obj), OwnInts (sortWorld (fun x : Row1s w B => x.1.1) w g 0 m dk os) B tI x.1.1 (up x.1.2) := fun x m dk os =>
      x.2.kept (v' := .slice (some ⟨g, 0, none⟩) vs.length cap) (grownBy_srt dk) (x.2.1.ne_of_type h (by decide))
    have hcmp : CmpReads Try.prog 60 #[] (fun x : Row1s w B => x.1.1) (fun x y => cmpT (up x.1.2) (up y.1.2)) g 0 d.toArray.size w := fun m os dk _ x y =>
      (i_compareTrees _ _ _ _ _ (hkeep x m dk os).ints (hkeep y m dk os).ints).mono fun e w' ⟨he, hw⟩ => ⟨he, 0, hw.symm⟩
    have hcon := Any.insertionSortCmpFunc_one { Try.lsort with } (fun x : Row1s w B => x.1.1) hone _ 60 #[] g 0 cap 0 d.toArray.size d.toArray w eg hcmp (holds_own ho) (Nat.zero_le _) (Nat.le_refl _) (by simp; omega)
    rw [List.size_toArray, hdl] at hcon
    refine hcon.mono ?_
    rintro e w' ⟨rfl, n, rfl⟩
    have hins := insertionSort_holds (treeSwo w B) d.toArray 0 vs.length (Nat.zero_le _) (by simp; omega)
    generalize Sort.insertionSort (ltOf fun (x y : Row1s w B) => cmpT (up x.1.2) (up y.1.2)) d.toArray 0 vs.length = d' at hins ⊢
    obtain ⟨hp, hs⟩ := hins
    have hsz : d'.size = vs.length := by have := hp.1; simp at this; omega
    have hperm : d'.toList.Perm d := by
      have h3 := hp.2.2
      rw [← hsz] at h3
      simp only [Array.extract_size] at h3
      have e : (d.toArray.extract 0 d'.size).toList = d := by
        rw [show d'.size = d.toArray.size by simp; omega, Array.extract_size]
      rw [e] at h3
      exact h3
    have hasc : Asc (d'.toList.map fun x => x.1.2) := by
      rw [Asc, List.pairwise_iff_getElem]
      intro i j hi hj hij
      simp at hi hj
      have h4 := hs i j (Nat.zero_le _) hij (by omega)
      rw [treeCmp, getElem!_pos d' i (by omega), getElem!_pos d' j (by omega)] at h4
      simpa using h4
    have hL : (d'.toList.map fun x => x.1.2) = srtB bs := srtB_unique (by rw [← hd2]; exact hperm.map _) hasc
    have hl : d'.toList.length = d.length := by simp; omega
    have hfin := own_srt (n := n) (os := #[]) ho hl
    simp only [Array.toArray_toList] at hfin
    rw [hdl] at hfin
    rw [← sortWorld_none]
    refine ⟨rfl, d'.toList.map (fun x => x.1.1), by simp; omega, by rw [← hd1]; exact hperm.map _, hfin, ⟨by rw [← hL]; simp, fun k u zs hu hz => ?_⟩, grownBy_srt d'⟩
    rw [← hL, List.map_map, List.getElem?_map] at hz
    rw [List.getElem?_map] at hu
    cases hx : d'.toList[k]? with
    | none => rw [hx] at hu; cases hu
    | some x =>
      rw [hx] at hu hz
      simp only [Option.map_some, Option.some.injEq, Function.comp] at hu hz
      subst hu; subst hz
      exact hkeep x _ _ _

set_option maxHeartbeats 2000000 in
theorem lib_stable (w : World) (B cap : Nat) (A : Option Addr) (vs : List Value) (bs : List (List Nat)) (h : Own w B tL (.slice A vs.length cap) vs) (hr : RR w B vs (bs.map up)) (hn : vs.length ≤ 19) :
    Calls Try.prog 122 #[.slice A vs.length cap, .int .i64 vs.length, .func (.func 60) #[] #[]] w fun e w' => e = .returned (.tuple #[]) ∧
      ∃ vs', vs'.length = vs.length ∧ vs'.Perm vs ∧ Own w' B tL (.slice A vs.length cap) vs' ∧ RR w' B vs' ((srtB bs).map up) ∧ w.grownBy w' (Value.ownBlock (.slice A vs.length cap)) := by
  have hI := Lib.hid (lib_insTrees w B cap A vs bs h hr (by omega))
  have hn1 : ¬ ((20 : Int) ≤ (vs.length : Int)) := by omega
  have hn2 : ¬ ((20 : Int) < (vs.length : Int)) := by omega
  have hd1 : decide ((20 : Int) ≤ (vs.length : Int)) = false := by simp; omega
  have hd2 : decide ((20 : Int) < (vs.length : Int)) = false := by simp; omega
  clear hn
  clear h hr
  go_enter Try.func122, Try.ntmps122
  go_wp2_with fail
  refine wp_loop_rounds 1 ?_
  rw [rounds_succ]
  go_wp2_with (go_at_call 105; refine hI.out.mono ?_; rintro e w1 ⟨rfl, h1⟩; have H1 := Lib.hid h1; clear h1)
  refine wp_loop_rounds 1 ?_
  rw [rounds_succ]
  go_wp2_with fail
  go_end0
  exact ⟨rfl, H1.out⟩

theorem lib_SortStable (w : World) (B cap : Nat) (A : Option Addr) (vs : List Value) (bs : List (List Nat)) (h : Own w B tL (.slice A vs.length cap) vs) (hr : RR w B vs (bs.map up)) (hn : vs.length ≤ 19) :
    Calls Try.prog 94 #[.slice A vs.length cap, .func (.func 60) #[] #[]] w fun e w' => e = .returned (.tuple #[]) ∧
      ∃ vs', vs'.length = vs.length ∧ vs'.Perm vs ∧ Own w' B tL (.slice A vs.length cap) vs' ∧ RR w' B vs' ((srtB bs).map up) ∧ w.grownBy w' (Value.ownBlock (.slice A vs.length cap)) := by
  have hI := Lib.hid (lib_stable w B cap A vs bs h hr hn)
  clear h hr hn
  go_enter Try.func94, Try.ntmps94
  go_wp2_with (go_at_call 122; refine hI.out.mono ?_; rintro e w1 ⟨rfl, h1⟩; have H1 := Lib.hid h1; clear h1)
  go_end0
  exact ⟨rfl, H1.out⟩

set_option maxHeartbeats 2000000 in
theorem i_cloneRows (w : World) (v : Value) (xss : List (List Int)) (ha : Rows w v xss) (hn : xss.length ≤ 1000) (hl : ∀ zs ∈ xss, zs.length ≤ 1000) :
    Calls Try.prog 93 #[v] w fun e w' => ∃ x, e = .returned x ∧ LA w' w.heap.size x xss ∧ Below w.heap.size w w' := by
  obtain ⟨A, c, rfl, l1, l2, h3⟩ := ha.open_
  have H3 := Lib.hid h3
  have HL := Lib.hid hl
  have OL := Lib.hid (show Own (w.alloc (.cells #[] tL)) w.heap.size tL (.slice (some ⟨w.heap.size, 0, none⟩) 0 0) [] from own_lit w tL [] (by simp [maxLen]))
  clear h3 hl ha
  go_enter Try.func93, Try.ntmps93
  go_wp2_with fail
  go_loopw [3, 9] (fun o i wr => ∃ (j : Nat) (vs : List Value), j ≤ xss.length ∧ i = .int .i64 j ∧ Own wr w.heap.size tL o vs ∧ RR wr w.heap.size vs (xss.take j) ∧ vs.Pairwise Apart ∧ Below w.heap.size w wr) (fun _ i _ => xss.length - (intOf i).toNat)
  case atStart =>
    exact ⟨0, [], Nat.zero_le _, rfl, OL.out, RR.nil _ _, List.Pairwise.nil, below1 _ _⟩
  case round =>
    obtain ⟨j, vs, hj, rfl, hown, hrr, hap, hbw⟩ := hrel
    clear OL
    have HO := Lib.hid hown
    have HRR := Lib.hid hrr
    have HBW := Lib.hid hbw
    have HAP := Lib.hid hap
    clear hap
    by_cases hlt : j < xss.length
    · obtain ⟨ad, u, zs, rfl, hz, hu, hc0⟩ := H3.out j hlt
      have hc : wr.cell? (ad.add j) = some u := by
        rw [hbw.cell (by rw [block_add]; have := World.block_lt_of_cell? w _ hc0; rwa [block_add] at this)]; exact hc0
      have HU := Lib.hid (hu.below hbw)
      have HZL := Lib.hid (HL.out zs (List.mem_of_getElem? hz))
      have HTK := Lib.hid (show xss.take (j + 1) = xss.take j ++ [zs] by rw [List.take_add_one, hz]; rfl)
      have hvl : vs.length ≤ 1000 := by have h1 := hrr.1; rw [List.length_take] at h1; omega
      have hji : (j : Int) < (xss.length : Int) := by omega
      clear hown hrr hbw hz hu hc0
      go_wp2_with (first
        | (go_at_call 75; refine (lib_Clone _ _ zs HU.out (by have := HZL.out; omega)).mono ?_; rintro e w2 ⟨r2, rfl, ho2, hb2⟩; obtain ⟨A5, c5, he5, -, -, -⟩ := ho2.ints.open_; subst he5; have HAF := Lib.hid (HRR.out.fresh (Nat.le_refl _) ho2.1.ge); have HO2 := Lib.hid (ho2.mono HBW.out.size); have HBI := Lib.hid hb2; have HB2 := Lib.hid (HBW.out.trans (hb2.mono HBW.out.size)); have HOW := Lib.hid (HO.out.below hb2); clear ho2 hb2)
        | (at_builtin; refine wpList_app1 T_row HOW.out (by omega) HB2.out.size (by rfl) rfl (by rfl) (by rfl) (by rfl) ?_; intro v1 w5 hown1 hgr1; have HN1 := Lib.hid hown1; have HGR := Lib.hid hgr1.1; have HB5 := Lib.hid (hgr1.below HB2.out HB2.out.size HOW.out.ge); clear hown1 hgr1))
      go_roundw
      case rel =>
        refine ⟨j + 1, _, by omega, by go_num, HN1.out, ?_, pairApart_snoc HAP.out HAF.out, HB5.out⟩
        rw [HTK.out]
        exact LL.snoc HOW.out (HRR.out.below HBI.out) HO2.out HN1.out HGR.out
      case measure => simp [intOf]; omega
    · have : j = xss.length := by omega
      subst this
      rw [List.take_length] at HRR
      go_wp2_with fail
      go_ret
      exact ⟨_, rfl, ⟨vs, HO.out, HRR.out, HAP.out⟩, HBW.out⟩

theorem i_forestOf (w : World) (v : Value) (bs : List (List Nat)) (ha : Rows w v (bs.map up)) (hn : bs.length ≤ 19) (hl : ∀ b ∈ bs, b.length ≤ 1000) :
    Calls Try.prog 85 #[v] w fun e w' => ∃ x, e = .returned x ∧ LA w' w.heap.size x ((srtB bs).map up) ∧ Below w.heap.size w w' := by
  have HA := Lib.hid ha
  have HL := Lib.hid (show ∀ zs ∈ bs.map up, zs.length ≤ 1000 from fun zs hz => by obtain ⟨b, hb, rfl⟩ := List.mem_map.1 hz; rw [up_len]; exact hl b hb)
  obtain ⟨A, c, rfl, l1, l2, -⟩ := ha.open_
  clear ha hl
  rw [List.length_map] at l1 HA ⊢
  go_enter Try.func85, Try.ntmps85
  go_wp2_with (first
    | (go_at_call 93; refine (i_cloneRows _ _ (bs.map up) HA.out (by rw [List.length_map]; omega) HL.out).mono ?_; rintro e w1 ⟨x, rfl, ⟨vs, ho, hr, hpa⟩, hb⟩; have HPA := Lib.hid hpa; clear hpa; have hvl := hr.1; rw [List.length_map] at hvl; obtain ⟨A1, c1, rfl, -, -⟩ := ho.cells.open_; have HVL := Lib.hid hvl; have HO := Lib.hid ho; have HR := Lib.hid hr; have HB := Lib.hid hb; clear ho hr hb hvl)
    | (go_at_call 94; refine (lib_SortStable _ _ _ _ vs bs HO.out HR.out (by rw [HVL.out]; exact hn)).mono ?_; rintro e w2 ⟨rfl, vs', hl', hpm, ho', hr', hg'⟩; have HPM := Lib.hid hpm; clear hpm; have HO' := Lib.hid ho'; have HR' := Lib.hid hr'; have HG' := Lib.hid hg'; clear ho' hr' hg' hl'))
  go_ret
  exact ⟨_, rfl, ⟨vs', HO'.out, HR'.out, pairApart_perm HPA.out HPM.out⟩, HB.out.grown HG'.out HB.out.size HO.out.ge⟩
end Go.Proofs.Ytofabikjjkapmaa

set_option maxRecDepth 100000
set_option linter.unusedVariables false
set_option linter.unusedSimpArgs false
namespace Go.Proofs.Ytofabikjjkapmaa
open Go.RowKit

def stepOk (p x : Int) : Bool := inR x 1 (wrap64 (p + 1))
def lvlAt (zs : List Int) (k : Nat) : Bool := decide (k = 0) || stepOk (zs.getD (k - 1) 0) (zs.getD k 0)
def chainZ (zs : List Int) : Bool := (List.range zs.length).all (lvlAt zs)
/-- a list of levels, of any length -/
def lvlB (zs : List Int) : Bool := decide (0 < zs.length) && (decide (zs.getD 0 0 = 0) && chainZ zs)
/-- a list of levels with at most eight nodes -/
def isT (zs : List Int) : Bool := decide (zs.length ≤ 8) && lvlB zs
theorem lvlAt_succ {zs : List Int} {k : Nat} {p x : Int} (hp : zs[k]? = some p) (hx : zs[k + 1]? = some x) : lvlAt zs (k + 1) = stepOk p x := by
  unfold lvlAt
  simp [List.getD, hp, hx]
theorem chainZ_no {zs : List Int} {k : Nat} (hk : k < zs.length) (h : lvlAt zs k = false) : chainZ zs = false := by
  unfold chainZ
  rw [List.all_eq_false]
  exact ⟨k, by simpa using hk, by simp [h]⟩
theorem chainZ_yes {zs : List Int} (h : ∀ k, k < zs.length → lvlAt zs k = true) : chainZ zs = true := by
  unfold chainZ
  rw [List.all_eq_true]
  intro k hk
  exact h k (by simpa using hk)

set_option maxHeartbeats 4000000 in
theorem i_isLevelList (w : World) (v : Value) (zs : List Int) (ha : Ints w v zs) :
    Calls Try.prog 57 #[v] w fun e w' => e = .returned (.bool (lvlB zs)) ∧ w = w' := by
  obtain ⟨A, c, rfl, l1, l2, h3⟩ := ha.open_
  have H3 := Lib.hid h3
  clear ha h3
  go_enter Try.func57, Try.ntmps57
  go_wp2_with fail
  go_loopw [7] (fun i wr => ∃ j : Nat, j ≤ zs.length ∧ i = .int .i64 j ∧ Hid (∀ k, k < j → lvlAt zs k = true) ∧ Hid (0 < j → zs.getD 0 0 = 0) ∧ w = wr) (fun i _ => zs.length - (intOf i).toNat)
  case atStart => exact ⟨0, Nat.zero_le _, rfl, fun k h => by omega, fun h => by omega, rfl⟩
  case round =>
    obtain ⟨j, hj, rfl, HK, HZ, rfl⟩ := hrel
    by_cases hlt : j < zs.length
    · obtain ⟨ad, z, rfl, hz, hz64, hc⟩ := H3.out j hlt
      have hji : (j : Int) < (zs.length : Int) := by omega
      cases j with
      | zero =>
        have hc0 : w.cell? ad = some (.int .i64 z) := hc
        have hcast : ((0 : Nat) : Int) = 0 := rfl
        rw [hcast]
        clear hc hcast
        by_cases h0 : z = 0
        · subst h0
          have HG := Lib.hid (show zs.getD 0 0 = 0 by simp [List.getD, hz])
          clear hz hz64
          go_wp2_with fail
          go_roundw
          case rel => exact ⟨1, by omega, by go_num, fun k h => (by have : k = 0 := (by omega)
                                                                    subst this
                                                                    rfl), (by intro _; exact HG.out), by first | rfl | trivial⟩
          case measure => simp [intOf]; omega
        · have HR := Lib.hid (show lvlB zs = false by unfold lvlB; simp [List.getD, hz, h0])
          have hb : (z != 0) = true := by simp [h0]
          clear hz hz64 h0
          go_wp2_with fail
          go_ret
          exact ⟨ret_bool HR.out.symm, rfl⟩
      | succ m =>
        obtain ⟨ad', z0, hae, hz0, hz064, hc0⟩ := H3.out m (by omega)
        injection hae with hae
        subst hae
        have HL := Lib.hid (lvlAt_succ hz0 hz)
        have hw2 : IntKind.i64.wrap ((m : Int) + 1 - 1) = (m : Int) := by rw [IntWalk.i64_in _ (by omega)]; omega
        have hmi : (m : Int) < (zs.length : Int) := by omega
        have hc' : w.cell? ⟨ad.block, ad.off + (m + 1), none⟩ = some (.int .i64 z) := by simpa [Addr.add] using hc
        have hcast : ((m + 1 : Nat) : Int) = (m : Int) + 1 := by omega
        have hji2 : (m : Int) + 1 < (zs.length : Int) := by omega
        have hj0 : 0 ≤ (m : Int) + 1 := by omega
        rw [hcast]
        clear hz hz0 hz64 hz064 hc hcast hji
        cases hs : stepOk z0 z with
        | true =>
          have HS := Lib.hid hs
          clear hs
          have hin : inR z 1 (wrap64 (z0 + 1)) = true := HS.out
          go_wp2_with (go_at_call 44; refine (i_inRange _ _ _ _).mono ?_; (rintro e w' ⟨rfl, rfl⟩; rw [hin]))
          go_roundw
          case rel => exact ⟨m + 1 + 1, by omega, by go_num, fun k h => (by
            by_cases hk : k < m + 1
            · exact HK.out k hk
            · have : k = m + 1 := (by omega)
              subst this
              rw [HL.out]
              exact HS.out), fun _ => HZ.out (by omega), by first | rfl | trivial⟩
          case measure => simp [intOf]; omega
        | false =>
          have HR := Lib.hid (show lvlB zs = false by unfold lvlB; rw [chainZ_no hlt (by rw [HL.out]; exact hs)]; simp)
          have hin : inR z 1 (wrap64 (z0 + 1)) = false := hs
          clear hs
          go_wp2_with (go_at_call 44; refine (i_inRange _ _ _ _).mono ?_; (rintro e w' ⟨rfl, rfl⟩; rw [hin]))
          go_ret
          exact ⟨ret_bool HR.out.symm, rfl⟩
    · have : j = zs.length := by omega
      subst this
      by_cases hp : 0 < zs.length
      · have HR := Lib.hid (show lvlB zs = true by have e := HZ.out hp; unfold lvlB; rw [chainZ_yes HK.out, e]; simp [hp])
        have hp' : (0 : Int) < (zs.length : Int) := by omega
        go_wp2_with fail
        go_ret
        exact ⟨ret_bool (by rw [HR.out] <;> simp <;> omega), rfl⟩
      · have h0 : zs = [] := List.eq_nil_of_length_eq_zero (by omega)
        subst h0
        go_wp2_with fail
        go_ret
        exact ⟨ret_bool (by simp [lvlB]), by first | rfl | trivial⟩

theorem i_IsLevels (w : World) (v : Value) (zs : List Int) (ha : Ints w v zs) :
    Calls Try.prog 35 #[v] w fun e w' => e = .returned (.bool (isT zs)) ∧ w = w' := by
  have HA := Lib.hid ha
  obtain ⟨A, c, rfl, l1, l2, -⟩ := ha.open_
  clear ha
  go_enter Try.func35, Try.ntmps35
  by_cases h8 : zs.length ≤ 8
  · have HR := Lib.hid (show isT zs = lvlB zs by unfold isT; simp [h8])
    have h8' : (zs.length : Int) ≤ 8 := by omega
    go_wp2_with (go_at_call 57; refine (i_isLevelList _ _ zs HA.out).mono ?_; rintro e w' ⟨rfl, rfl⟩)
    all_goals (go_ret; exact ⟨ret_bool (by first | (rw [HR.out]; done) | (rw [HR.out]; simp_all)), rfl⟩)
  · have HR := Lib.hid (show isT zs = false by unfold isT; simp [h8])
    have h8' : ¬ (zs.length : Int) ≤ 8 := by omega
    go_wp2_with fail
    go_ret
    exact ⟨ret_bool (by rw [HR.out]), rfl⟩

end Go.Proofs.Ytofabikjjkapmaa

set_option maxRecDepth 100000
set_option linter.unusedVariables false
set_option linter.unusedSimpArgs false
namespace Go.Proofs.Ytofabikjjkapmaa
open Go.RowKit

set_option maxHeartbeats 1500000 in
theorem s_l03Is (w : World) (v : Value) (zs : List Int) (ha : Ints w v zs) :
    Calls Try.prog 32 #[v] w fun e w' => e = .returned (.bool (isT zs)) ∧ ∃ n, w' = w.drewN n := by
  obtain ⟨A, c, rfl, l1, l2, h3⟩ := ha.open_
  have H3 := Lib.hid h3
  clear ha h3
  go_enter Try.func32, Try.ntmps32
  go_wp2_with fail
  go_loopw [3] (fun i wr => ∃ (m n : Nat), m ≤ zs.length ∧ i = .int .i64 ((m : Int) + 1) ∧ Hid (∀ k, k < m + 1 → lvlAt zs k = true) ∧ wr = w.drewN n) (fun i _ => zs.length + 1 - (intOf i).toNat)
  case atStart => exact ⟨0, 0, Nat.zero_le _, rfl, fun k h => (by have : k = 0 := (by omega)
                                                                  subst this
                                                                  rfl), rfl⟩
  case round =>
    obtain ⟨m, n, hm, rfl, HK, rfl⟩ := hrel
    by_cases hlt : m + 1 < zs.length
    · obtain ⟨ad, z, rfl, hz, hz64, hc⟩ := H3.out (m + 1) hlt
      obtain ⟨ad', z0, hae, hz0, hz064, hc0⟩ := H3.out m (by omega)
      injection hae with hae
      subst hae
      have HL := Lib.hid (lvlAt_succ hz0 hz)
      have hw2 : IntKind.i64.wrap ((m : Int) + 1 - 1) = (m : Int) := by rw [IntWalk.i64_in _ (by omega)]; omega
      have hmi : (m : Int) < (zs.length : Int) := by omega
      have hji : (m : Int) + 1 < (zs.length : Int) := by omega
      have hj0 : 0 ≤ (m : Int) + 1 := by omega
      have hc' : w.cell? ⟨ad.block, ad.off + (m + 1), none⟩ = some (.int .i64 z) := by simpa [Addr.add] using hc
      clear hz hz0 hz64 hz064 hc
      have HIN := fun W => s_l01In z 1 (wrap64 (z0 + 1)) W
      cases hs : stepOk z0 z with
      | true =>
        have HS := Lib.hid hs
        clear hs
        rw [show inR z 1 (wrap64 (z0 + 1)) = true from HS.out] at HIN
        go_wp2_with fail
        go_quiet ((go_at_call 51; first | exact quiet_same0 (HIN _) | exact quiet_same (HIN _)))
        go_wp2_with fail
        go_roundw
        case rel => exact ⟨m + 1, _, by omega, by go_num, fun k h => (by
          by_cases hk : k < m + 1
          · exact HK.out k hk
          · have : k = m + 1 := (by omega)
            subst this
            rw [HL.out]
            exact HS.out), rfl⟩
        case measure => simp [intOf]; omega
      | false =>
        have HR := Lib.hid (show isT zs = false by unfold isT lvlB; rw [chainZ_no hlt (by rw [HL.out]; exact hs)]; simp)
        rw [show inR z 1 (wrap64 (z0 + 1)) = false from hs] at HIN
        clear hs
        go_wp2_with fail
        go_quiet ((go_at_call 51; first | exact quiet_same0 (HIN _) | exact quiet_same (HIN _)))
        go_wp2_with fail
        go_ret
        exact ⟨ret_bool HR.out.symm, _, World.drewN_drewN _ _ _⟩
    · have HC := Lib.hid (chainZ_yes fun k hk => HK.out k (by omega))
      have hji : ¬ (m : Int) + 1 < (zs.length : Int) := by omega
      by_cases hp : 0 < zs.length
      · obtain ⟨ad, z, rfl, hz, hz64, hc⟩ := H3.out 0 hp
        have hc' : w.cell? ad = some (.int .i64 z) := hc
        have hp' : (0 : Int) < (zs.length : Int) := by omega
        have HE := Lib.hid (show isT zs = (decide (zs.length ≤ 8) && decide (z = 0)) by have e : zs.getD 0 0 = z := (by simp [List.getD, hz]); unfold isT lvlB; rw [HC.out, e]; simp [hp])
        clear hz hz64 hc
        by_cases h8 : zs.length ≤ 8
        · have h8' : (zs.length : Int) ≤ 8 := by omega
          go_wp2_with fail
          go_ret
          refine ⟨ret_bool ?_, _, rfl⟩
          rw [HE.out]
          by_cases h0 : z = 0 <;> simp [h8, h0]
        · have h8' : ¬ (zs.length : Int) ≤ 8 := by omega
          go_wp2_with fail
          go_ret
          exact ⟨ret_bool (by rw [HE.out]; simp [h8]), _, rfl⟩
      · have h0 : zs = [] := List.eq_nil_of_length_eq_zero (by omega)
        subst h0
        go_wp2_with fail
        go_ret
        exact ⟨ret_bool (by simp [isT, lvlB]), _, rfl⟩
end Go.Proofs.Ytofabikjjkapmaa

set_option linter.unusedVariables false
set_option linter.unusedSimpArgs false
set_option maxRecDepth 100000
namespace Go.Proofs.Ytofabikjjkapmaa

theorem isT_parts {zs : List Int} (h : isT zs = true) : zs.length ≤ 8 ∧ 0 < zs.length ∧ zs.getD 0 0 = 0 ∧ ∀ k, k < zs.length → lvlAt zs k = true := by
  unfold isT lvlB chainZ at h
  simp only [Bool.and_eq_true, decide_eq_true_eq, List.all_eq_true, List.mem_range] at h
  exact ⟨h.1, h.2.1, h.2.2.1, h.2.2.2⟩
theorem isT_tail {zs : List Int} (h8 : zs.length ≤ 8) (hk : ∀ k, k < zs.length → lvlAt zs k = true) : ∀ (d : List Int) (k pn : Nat), zs.drop (k + 1) = d → k < zs.length → zs.getD k 0 = (pn : Int) → pn ≤ k → ∃ n, d = up n ∧ lvlF pn n = true
  | [], k, pn, _, _, _, _ => ⟨[], rfl, rfl⟩
  | x :: d, k, pn, hd, hkl, hp, hpn => by
    have hlt : k + 1 < zs.length := by
      have := congrArg List.length hd
      simp at this
      omega
    have hx : zs[k + 1]? = some x := by
      have : (zs.drop (k + 1))[0]? = some x := by rw [hd]; rfl
      rwa [List.getElem?_drop] at this
    have hp' : zs[k]? = some ((pn : Int)) := by
      rw [List.getElem?_eq_getElem (by omega)]
      rw [← hp, List.getD, List.getElem?_eq_getElem (by omega)]
      rfl
    have hs := hk (k + 1) hlt
    rw [lvlAt_succ hp' hx] at hs
    unfold stepOk at hs
    have hw : Go.RowKit.wrap64 ((pn : Int) + 1) = (pn : Int) + 1 := by unfold Go.RowKit.wrap64; omega
    rw [hw, inR_iff] at hs
    have hd2 : zs.drop (k + 1 + 1) = d := by rw [← List.drop_drop, hd]; rfl
    obtain ⟨n, h1, h2⟩ := isT_tail h8 hk d (k + 1) x.toNat hd2 hlt (by rw [List.getD, hx]; simp; omega) (by omega)
    refine ⟨x.toNat :: n, by rw [h1, up_cons]; congr 1; omega, ?_⟩
    rw [lvlF, Nat.ble_eq_true_of_le (by omega), Nat.ble_eq_true_of_le (by omega)]
    exact h2
theorem isT_up {zs : List Int} (h : isT zs = true) : ∃ n : List Nat, zs = up n ∧ lvl n = true ∧ n.length ≤ 8 := by
  obtain ⟨h8, h0, hz, hk⟩ := isT_parts h
  cases zs with
  | nil => simp at h0
  | cons a d =>
    have ha : a = 0 := by simpa using hz
    subst ha
    obtain ⟨n, h1, h2⟩ := isT_tail h8 hk d 0 0 rfl (by simp) rfl (Nat.le_refl _)
    refine ⟨0 :: n, by rw [h1]; rfl, by rw [lvl]; exact h2, ?_⟩
    have := congrArg List.length h1
    rw [up_len] at this
    simp at h8 ⊢
    omega

theorem mem_grow1 {t : List Nat} {last l : Nat} : ∀ {b : Nat}, 1 ≤ l → l ≤ b → t ++ [l] ∈ grow1 t last b
  | 0, h1, h2 => by omega
  | b + 1, h1, h2 => by
    rw [grow1]
    by_cases h : l = b + 1
    · subst h; simp
    · exact List.mem_cons_of_mem _ (mem_grow1 h1 (by omega))
theorem lastN_cons (a b : Nat) (t : List Nat) : lastN (a :: b :: t) = lastN (b :: t) := rfl
theorem lvlF_snoc : ∀ (p : Nat) (t : List Nat) (l : Nat), lvlF p (t ++ [l]) = true → lvlF p t = true ∧ 1 ≤ l ∧ l ≤ lastN (p :: t) + 1
  | p, [], l, h => by
    rw [List.nil_append, lvlF] at h
    cases h1 : Nat.ble 1 l with
    | false => rw [h1] at h; cases h
    | true =>
      cases h2 : Nat.ble l (p + 1) with
      | false => rw [h1, h2] at h; cases h
      | true => exact ⟨rfl, Nat.le_of_ble_eq_true h1, Nat.le_of_ble_eq_true h2⟩
  | p, x :: t, l, h => by
    rw [List.cons_append, lvlF] at h
    rw [lvlF, lastN_cons]
    cases h1 : Nat.ble 1 x with
    | false => rw [h1] at h; cases h
    | true =>
      cases h2 : Nat.ble x (p + 1) with
      | false => rw [h1, h2] at h; cases h
      | true =>
        rw [h1, h2] at h
        exact lvlF_snoc x t l h
theorem lvl_snoc {t : List Nat} {l : Nat} (ht : t ≠ []) (h : lvl (t ++ [l]) = true) : lvl t = true ∧ 1 ≤ l ∧ l ≤ lastN t + 1 := by
  cases t with
  | nil => exact absurd rfl ht
  | cons a t =>
    rw [List.cons_append, lvl] at h
    rw [lvl]
    cases h1 : Nat.beq a 0 with
    | false => rw [h1] at h; cases h
    | true =>
      rw [h1] at h
      have := Nat.eq_of_beq_eq_true h1
      subst this
      exact lvlF_snoc 0 t l h
theorem mem_levs : ∀ (m : Nat) (t : List Nat), t.length = m + 1 → lvl t = true → t ∈ levs m
  | 0, t, hl, h => by
    cases t with
    | nil => simp at hl
    | cons a t =>
      have : t = [] := List.eq_nil_of_length_eq_zero (by simpa using hl)
      subst this
      rw [lvl] at h
      cases h1 : Nat.beq a 0 with
      | false => rw [h1] at h; cases h
      | true => have := Nat.eq_of_beq_eq_true h1; subst this; simp [levs]
  | m + 1, t, hl, h => by
    have hne : t ≠ [] := fun e => by rw [e] at hl; simp at hl
    obtain ⟨s, l, rfl⟩ : ∃ s l, t = s ++ [l] := ⟨t.dropLast, t.getLast hne, (List.dropLast_concat_getLast hne).symm⟩
    have hsl : s.length = m + 1 := by simpa using hl
    obtain ⟨h1, h2, h3⟩ := lvl_snoc (fun e => by rw [e] at hsl; simp at hsl) h
    rw [levs, List.mem_flatMap]
    exact ⟨s, mem_levs m s hsl h1, mem_grow1 h2 h3⟩

/-- what holds of all the lists of at most eight levels -/
theorem lev8 {p : List Nat → Bool} (h : (List.range 8).all (fun m => (levs m).all p) = true) {t : List Nat} (ht : lvl t = true) (hl : t.length ≤ 8) : p t = true := by
  have hpos : 0 < t.length := by cases t with
    | nil => cases ht
    | cons a t => simp
  rw [List.all_eq_true] at h
  have h1 := h (t.length - 1) (by simp; omega)
  rw [List.all_eq_true] at h1
  exact h1 t (mem_levs _ _ (by omega) ht)
theorem canO_8 {t : List Nat} (ht : lvl t = true) (hl : t.length ≤ 8) : ∃ r, canO 9 t = some r ∧ lvl r = true ∧ canO 9 r = some r := by
  have h := lev8 (p := fun t => match canO 9 t with | none => false | some r => lvl r && (match canO 9 r with | none => false | some r' => eqN r r')) (by decide +kernel) ht hl
  cases hr : canO 9 t with
  | none => rw [hr] at h; cases h
  | some r =>
    rw [hr] at h
    simp only [Bool.and_eq_true] at h
    refine ⟨r, rfl, h.1, ?_⟩
    have h2 := h.2
    cases hr2 : canO 9 r with
    | none => rw [hr2] at h2; cases h2
    | some r' =>
      rw [hr2] at h2
      rw [eqN_iff.1 h2]
end Go.Proofs.Ytofabikjjkapmaa

set_option maxRecDepth 100000
set_option linter.unusedVariables false
set_option linter.unusedSimpArgs false
namespace Go.Proofs.Ytofabikjjkapmaa
open Go.RowKit

set_option maxHeartbeats 2000000 in
theorem s_l16Parent (w : World) (v : Value) (t : List Nat) (i : Nat) (ha : Ints w v (up t)) (hi : i < t.length) (hl : ∀ l ∈ t, l ≤ 1000000) :
    Calls Try.prog 81 #[v, .int .i64 i] w fun e w' => e = .returned (.int .i64 ((parN t (t.getD i 0) i : Int) - 1)) ∧ ∃ n, w' = w.drewN n := by
  obtain ⟨A, c, rfl, l1, l2, h3⟩ := ha.open_
  rw [up_len] at l1 h3 ⊢
  obtain ⟨ad, zi, rfl, hzi, -, hci⟩ := h3 i hi
  obtain ⟨L, hL, hzL⟩ := up_getD hzi
  have hL6 := hl L (List.mem_of_getElem? hL)
  have HG := Lib.hid (show t.getD i 0 = L by simp [List.getD, hL])
  have H3 := Lib.hid h3
  have HLV := Lib.hid hl
  have hii : (i : Int) < (t.length : Int) := by omega
  have hi0 : (0 : Int) ≤ (i : Int) := by omega
  have hwz : IntKind.i64.wrap (zi - 1) = zi - 1 := IntWalk.i64_in _ (by omega)
  have hwi : IntKind.i64.wrap ((i : Int) - 1) = (i : Int) - 1 := IntWalk.i64_in _ (by omega)
  have HE := Lib.hid (show (parN t (t.getD i 0) i : Int) - 1 = (parN t L i : Int) - 1 by rw [HG.out])
  rw [HE.out]
  clear ha h3 hzi hL hl
  go_enter Try.func81, Try.ntmps81
  go_wp2_with fail
  go_loopw [5] (fun x wr => ∃ (m n : Nat), m ≤ i ∧ x = .int .i64 ((m : Int) - 1) ∧ Hid (parN t L m = parN t L i) ∧ wr = w.drewN n) (fun x _ => (intOf x + 1).toNat)
  case atStart => exact ⟨i, 0, Nat.le_refl _, rfl, rfl, rfl⟩
  case round =>
    obtain ⟨m, n, hm, rfl, HP, rfl⟩ := hrel
    cases m with
    | zero =>
      have h0 : ((0 : Nat) : Int) - 1 = -1 := rfl
      rw [h0]
      clear h0
      go_wp2_with fail
      go_ret
      refine ⟨?_, _, rfl⟩
      have hp := HP.out
      rw [← hp]
      rfl
    | succ p =>
      have h0 : ((p + 1 : Nat) : Int) - 1 = (p : Int) := by omega
      rw [h0]
      clear h0
      obtain ⟨ad', z, hae, hz, -, hc⟩ := H3.out p (by omega)
      injection hae with hae
      subst hae
      obtain ⟨P, hP, hzP⟩ := up_getD hz
      have HGP := Lib.hid (show t.getD p 0 = P by simp [List.getD, hP])
      have hP6 := HLV.out P (List.mem_of_getElem? hP)
      have hpi : (p : Int) < (t.length : Int) := by omega
      have hp0 : (0 : Int) ≤ (p : Int) := by omega
      have hwp : IntKind.i64.wrap ((p : Int) - 1) = (p : Int) - 1 := IntWalk.i64_in _ (by omega)
      clear hz hP
      by_cases hq : P + 1 = L
      · have hd : (z == zi - 1) = true := by rw [hzL, hzP]; simp; omega
        have HR := Lib.hid (show parN t L (p + 1) = p + 1 by rw [parN, HGP.out, hq, Nat.beq_refl]; rfl)
        clear hzP hq hzL
        go_wp2_with fail
        go_quiet (fail)
        go_wp2_with fail
        go_ret
        refine ⟨?_, _, World.drewN_drewN _ _ _⟩
        rw [← HP.out, HR.out]
        rw [show ((p + 1 : Nat) : Int) - 1 = (p : Int) by omega]
        rfl
      · have hd : (z == zi - 1) = false := by rw [hzL, hzP]; simp; omega
        have HR := Lib.hid (show parN t L (p + 1) = parN t L p by
          rw [parN, HGP.out]
          cases hb : Nat.beq (P + 1) L with
          | true => exact absurd (Nat.eq_of_beq_eq_true hb) hq
          | false => rfl)
        clear hzP hq hzL
        go_wp2_with fail
        go_quiet (fail)
        go_wp2_with fail
        go_roundw
        case rel => exact ⟨p, _, by omega, by first | rfl | go_num, by rw [← HR.out]; exact HP.out, by first | rfl | exact World.drewN_drewN _ _ _⟩
        case measure => first | (simp [intOf]; done) | (simp [intOf]; omega)
end Go.Proofs.Ytofabikjjkapmaa

set_option maxRecDepth 100000
set_option linter.unusedVariables false
set_option linter.unusedSimpArgs false
namespace Go.Proofs.Ytofabikjjkapmaa
open Go.RowKit

abbrev tN : TypeId := 3
theorem T_nat : ElemT Try.prog 89 3 (.int .i64 0) 8 := ⟨Try.underlying89, by kernel_rfl, rfl, by omega⟩

/-- the parents of the first j nodes, -1 for none -/
def pzTo (t : List Nat) (j : Nat) : List Int := (List.range j).map fun i => (parN t (t.getD i 0) i : Int) - 1
theorem pzTo_len (t : List Nat) (j : Nat) : (pzTo t j).length = j := by simp [pzTo]
theorem pzTo_succ (t : List Nat) (j : Nat) : pzTo t (j + 1) = pzTo t j ++ [(parN t (t.getD j 0) j : Int) - 1] := by simp [pzTo, List.range_succ]

set_option maxHeartbeats 2000000 in
theorem i_parentsOf (w : World) (v : Value) (t : List Nat) (ha : Ints w v (up t)) (hn : t.length ≤ 1000) (hl : ∀ l ∈ t, l ≤ 1000000) :
    Calls Try.prog 83 #[v] w fun e w' => ∃ x, e = .returned x ∧ OwnInts w' w.heap.size tN x (pzTo t t.length) ∧ Below w.heap.size w w' := by
  obtain ⟨A, c, rfl, l1, l2, h3⟩ := ha.open_
  rw [up_len] at l1 h3 ⊢
  have H3 := Lib.hid h3
  have HLV := Lib.hid hl
  have OL := Lib.hid (show OwnInts (w.alloc (.cells #[] tN)) w.heap.size tN (.slice (some ⟨w.heap.size, 0, none⟩) 0 0) [] from ⟨own_lit w tN [] (by simp [maxLen]), fun z hz => by simp at hz⟩)
  clear ha h3 hl
  go_enter Try.func83, Try.ntmps83
  go_wp2_with fail
  go_loopw [3, 10] (fun o x wr => ∃ j : Nat, j ≤ t.length ∧ x = .int .i64 j ∧ OwnInts wr w.heap.size tN o (pzTo t j) ∧ Below w.heap.size w wr) (fun _ x _ => t.length - (intOf x).toNat)
  case atStart => exact ⟨0, Nat.zero_le _, rfl, by simpa [pzTo] using OL.out, below1 _ _⟩
  case round =>
    obtain ⟨j, hj, rfl, ho, hb⟩ := hrel
    clear OL
    have HO := Lib.hid ho
    have HB := Lib.hid hb
    clear ho hb
    by_cases hlt : j < t.length
    · obtain ⟨ad, zi, rfl, hzi, -, hci0⟩ := H3.out j hlt
      have hci : wr.cell? (ad.add j) = some (.int .i64 zi) := by
        rw [HB.out.cell (by rw [block_add]; have := World.block_lt_of_cell? w _ hci0; rwa [block_add] at this)]; exact hci0
      obtain ⟨L, hL, hzL⟩ := up_getD hzi
      have hL6 := HLV.out L (List.mem_of_getElem? hL)
      have HG := Lib.hid (show t.getD j 0 = L by simp [List.getD, hL])
      have hji : (j : Int) < (t.length : Int) := by omega
      have hwz : IntKind.i64.wrap (zi - 1) = zi - 1 := IntWalk.i64_in _ (by omega)
      have hwi : IntKind.i64.wrap ((j : Int) - 1) = (j : Int) - 1 := IntWalk.i64_in _ (by omega)
      have HZL := Lib.hid hzL
      have HZB := Lib.hid (show (0 : Int) ≤ zi ∧ zi ≤ 1000000 by omega)
      clear hzi hL hci0 hzL hL6
      go_wp2_with fail
      obtain ⟨wo, rfl⟩ : ∃ wo : World, wo = wr := ⟨_, rfl⟩
      go_loopw [6] (fun x wi => ∃ m : Nat, m ≤ j ∧ x = .int .i64 ((m : Int) - 1) ∧ Hid (parN t L m = parN t L j) ∧ wo = wi) (fun x _ => (intOf x + 1).toNat)
      case atStart => exact ⟨j, Nat.le_refl _, rfl, rfl, rfl⟩
      case round =>
        obtain ⟨m, hm, rfl, HP, rfl⟩ := hrel
        cases m with
        | zero =>
          have h0 : ((0 : Nat) : Int) - 1 = -1 := rfl
          rw [h0]
          clear h0
          have HV := Lib.hid (show (parN t (t.getD j 0) j : Int) - 1 = -1 by rw [HG.out, ← HP.out]; rfl)
          have hv64 : In64 (-1) := by unfold In64; omega
          clear hm
          go_wp2_with (at_builtin; refine wpList_app1 T_nat HO.out.1 (by rw [ints_len, pzTo_len]; omega) HB.out.size (by rfl) rfl (by rfl) (by rfl) (by rfl) ?_; intro v1 w5 hown1 hgr1; have HN := Lib.hid hown1; have HB5 := Lib.hid (hgr1.below HB.out HB.out.size HO.out.1.ge); clear hown1 hgr1)
          go_roundw
          case rel =>
            refine ⟨j + 1, by omega, by go_num, ?_, HB5.out⟩
            rw [pzTo_succ, HV.out]
            exact ⟨by simpa [ints] using HN.out, fun y hy => by rcases List.mem_append.1 hy with hy | hy; exact HO.out.2 y hy; simp at hy; subst hy; exact hv64⟩
          case measure => simp [intOf]; omega
        | succ p =>
          have h0 : ((p + 1 : Nat) : Int) - 1 = (p : Int) := by omega
          rw [h0]
          clear h0
          obtain ⟨ad', z, hae, hz, -, hc0⟩ := H3.out p (by omega)
          injection hae with hae
          subst hae
          have hc : wo.cell? (ad.add p) = some (.int .i64 z) := by
            rw [HB.out.cell (by rw [block_add]; have := World.block_lt_of_cell? w _ hc0; rwa [block_add] at this)]; exact hc0
          obtain ⟨P, hP, hzP⟩ := up_getD hz
          have HGP := Lib.hid (show t.getD p 0 = P by simp [List.getD, hP])
          have hpi : (p : Int) < (t.length : Int) := by omega
          have hp0 : (0 : Int) ≤ (p : Int) := by omega
          have hwp : IntKind.i64.wrap ((p : Int) - 1) = (p : Int) - 1 := IntWalk.i64_in _ (by omega)
          by_cases hq : P + 1 = L
          · have hd : (z != zi - 1) = false := by rw [HZL.out, hzP]; simp; omega
            have HV := Lib.hid (show (parN t (t.getD j 0) j : Int) - 1 = (p : Int) by rw [HG.out, ← HP.out, parN, HGP.out, hq, Nat.beq_refl]; simp)
            have hv64 : In64 (p : Int) := by unfold In64; omega
            clear hzP hq hz hP hc0
            go_wp2_with (at_builtin; refine wpList_app1 T_nat HO.out.1 (by rw [ints_len, pzTo_len]; omega) HB.out.size (by rfl) rfl (by rfl) (by rfl) (by rfl) ?_; intro v1 w5 hown1 hgr1; have HN := Lib.hid hown1; have HB5 := Lib.hid (hgr1.below HB.out HB.out.size HO.out.1.ge); clear hown1 hgr1)
            go_roundw
            case rel =>
              refine ⟨j + 1, by omega, by go_num, ?_, HB5.out⟩
              rw [pzTo_succ, HV.out]
              exact ⟨by simpa [ints] using HN.out, fun y hy => by rcases List.mem_append.1 hy with hy | hy; exact HO.out.2 y hy; simp at hy; subst hy; exact hv64⟩
            case measure => simp [intOf]; omega
          · have hd : (z != zi - 1) = true := by rw [HZL.out, hzP]; simp; omega
            have HR := Lib.hid (show parN t L (p + 1) = parN t L p by
              rw [parN, HGP.out]
              cases hb : Nat.beq (P + 1) L with
              | true => exact absurd (Nat.eq_of_beq_eq_true hb) hq
              | false => rfl)
            clear hzP hq hz hP hc0
            go_wp2_with fail
            go_roundw
            case rel => exact ⟨p, by omega, by first | rfl | go_num, by rw [← HR.out]; exact HP.out, by first | rfl | trivial⟩
            case measure => first | (simp [intOf]; done) | (simp [intOf]; omega)
    · have : j = t.length := by omega
      subst this
      go_wp2_with fail
      go_ret
      exact ⟨_, rfl, HO.out, HB.out⟩
end Go.Proofs.Ytofabikjjkapmaa

