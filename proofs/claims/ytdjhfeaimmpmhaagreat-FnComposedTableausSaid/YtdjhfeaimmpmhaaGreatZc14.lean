/- Walk: cutsOf of the program. | Walk: place of the program's forms. | Walks: slices.IndexFunc, slices.DeleteFunc at lists of trees of one's own, with a predicate that may make memory. | Walk: treesOf of the program. | Walks: freeTreesOf, freeConditions, FreeConditions of the program. -/
import Derived.Test.YtdjhfeaimmpmhaaGreatZc13
import Derived.Test.YtdjhfeaimmpmhaaGreatZc8
import Derived.Test.YtdjhfeaimmpmhaaGreatZc7
import Derived.Lib.SliceRun
import Derived.Laws.IdiomCopy
import Derived.Test.YtdjhfeaimmpmhaaGreatZc10
import Derived.BigQuiet
import Derived.Deep.QuietTactic
set_option maxRecDepth 100000
set_option linter.unusedVariables false
set_option linter.unusedSimpArgs false
namespace Go.Proofs.YtdjhfeaimmpmhaaGreat
open Go.RowKit

abbrev tCu : TypeId := 118
theorem T_cut : ElemK Tryz.prog 115 118 (.agg #[.slice none 0 0, .slice none 0 0, .int .i64 0]) 3 56 := ⟨Tryz.underlying115, by kernel_rfl, rfl, by omega, by omega⟩
abbrev CU := (List (List Nat) × List Nat) × Nat
abbrev eCu : Elt CU := elt3 fldF fldI
def cutU (x : SP × Nat) : CU := ((x.1.1, x.1.2.headD []), x.2)
/-- the cuts of a tree -/
def cutsU (r : List SP) : List CU := (grpL cmpS (srtS ltS (r.map normS))).map cutU

set_option maxHeartbeats 16000000 in
theorem i_cutsOf (w : World) (v : Value) (t : List Nat) (r : List SP) (ha : Ints w v (up t)) (hr : splV 9 t = some r) (hok : okLs r = true) :
    Calls Tryz.prog 127 #[v] w fun e w' => ∃ x, e = .returned x ∧ SLs eCu tCu w' w.heap.size x (cutsU r) ∧ Below w.heap.size w w' := by
  have HA := Lib.hid ha
  have HR := Lib.hid hr
  have HOK := Lib.hid (okLs_of hok)
  obtain ⟨A, c, rfl, -, -, -⟩ := ha.open_
  rw [up_len] at HA ⊢
  have OL := Lib.hid (show OwnK (w.alloc (.cells #[] tCu)) w.heap.size tCu 3 (.slice (some ⟨w.heap.size, 0, none⟩) 0 0) [] from OwnK.lit w tCu 3 [] (fun c hc => by simp at hc) (by simp [maxLen]) #[] rfl)
  clear ha hr hok
  go_enter Tryz.func127, Tryz.ntmps127
  go_wp2_with (first
    | (go_at_call 177; go_loud (refine (i_splitTree 9 _ _ t r (HA.out.below (below1 w _)) HR.out).mono ?_; rintro e w1 ⟨x1, rfl, hx1, hb1⟩; have HX1 := Lib.hid hx1; have HB1 := Lib.hid hb1; clear hx1 hb1))
    | (go_at_call 176; go_loud (obtain ⟨css1, ho1, he1⟩ := HX1.out; refine (i_gathered _ (w.alloc (.cells #[] tCu)).heap.size _ css1 (r.map cz) ho1 he1 HB1.out.size (by rw [List.length_map]; have := HOK.out.1; omega) (fun x hx => by obtain ⟨s, hs, rfl⟩ := List.mem_map.1 hx; exact (HOK.out.2 s hs).1)).mono ?_; rintro e w2 ⟨x2, rfl, hx2, hb2⟩; clear ho1 he1; obtain ⟨css2, ho2, he2⟩ := hx2; obtain ⟨A2, c2, rfl, -, -⟩ := ho2.open_; have HO2 := Lib.hid ho2; have HE2 := Lib.hid he2; have HB2 := Lib.hid (HB1.out.trans hb2); clear ho2 he2 hb2)))
  obtain ⟨L, hL⟩ : ∃ L, L = grpL cmpS (srtS ltS (r.map normS)) := ⟨_, rfl⟩
  have hLL : L.length ≤ 500 ∧ ∀ x ∈ L, x.2 ≤ 500 := by
    have h1 := (srtSF_perm (lt := ltS) [] (r.map normS)).length_eq
    have h2 := grpL_len cmpS (srtS ltS (r.map normS)) _ (Nat.le_refl _)
    rw [List.take_length, ← hL] at h2
    have h3 : (srtS ltS (r.map normS)).length = r.length := by simpa [srtS] using h1
    rw [h3] at h2
    have := HOK.out.1
    exact ⟨by omega, fun x hx => by have := h2.2 x hx; omega⟩
  have he2 : Elts eSc w2 (w.alloc (.cells #[] tCu)).heap.size css2 L := by
    have h := HE2.out
    rw [List.map_map] at h
    rw [hL]; exact h
  have hcl := he2.1
  have HCL := Lib.hid hcl
  have HLL := Lib.hid hLL
  have HLE := Lib.hid hL
  have HE2 := Lib.hid (he2.mono (show w.heap.size ≤ _ from by simp))
  have HBW := Lib.hid (show Below w.heap.size w w2 from (below1 w _).trans (HB2.out.mono (by simp)))
  have OL2 := Lib.hid (show OwnK w2 w.heap.size tCu 3 (.slice (some ⟨w.heap.size, 0, none⟩) 0 0) [] from OL.out.below HB2.out)
  have hc5 : css2.length ≤ 500 := by rw [hcl]; exact hLL.1
  clear hL hLL he2 hcl
  go_wp2_with fail
  go_loopw [3, 12] (fun o x wr => ∃ (i : Nat) (css3 : List (List Value)), i ≤ css2.length ∧ x = .int .i64 i ∧ OwnK wr w.heap.size tCu 3 o css3 ∧ Elts eCu wr w.heap.size css3 ((L.take i).map cutU) ∧ Grow w2 wr (.slice (some ⟨w.heap.size, 0, none⟩) 0 0) o) (fun _ x _ => css2.length - (intOf x).toNat)
  case atStart => exact ⟨0, [], Nat.zero_le _, rfl, OL2.out, Elts.nil _ _ _, Grow.refl _ _⟩
  case round =>
    obtain ⟨i, css3, hi, rfl, ho3, hce3, hg3⟩ := hrel
    have HO3 := Lib.hid ho3
    have HCE3 := Lib.hid hce3
    have HG3 := Lib.hid hg3
    have HB3 := Lib.hid (hg3.below HBW.out HBW.out.size (OL2.out.ge))
    have hcl3 : css3.length ≤ 500 := by rw [hce3.1, List.length_map, List.length_take]; omega
    by_cases hlt : i < css2.length
    · obtain ⟨⟨⟨cr, tr⟩, n⟩, hy⟩ : ∃ y, L[i]? = some y := ⟨_, List.getElem?_eq_getElem (by rw [← HCL.out]; exact hlt)⟩
      have hn := HLL.out.2 _ (List.mem_of_getElem? hy)
      have ho2 := HO2.out.kept hg3.1 (HO2.out.bt.ne OL2.out.bt (by decide))
      have he2 := HE2.out.kept hg3.1 OL2.out.bt (by decide) (by decide)
      obtain ⟨cy, hcy, hD⟩ := he2.at_ hy
      obtain ⟨u, s, rfl, hu0, hs0⟩ := hD
      have hu1 : LL wr w.heap.size u (cr.map up) ∧ cr.length ≤ 1000000 ∧ ndN cr ≤ 1000000 := hu0
      have hs1 : LL wr w.heap.size s (tr.map up) ∧ tr.length ≤ 1000000 ∧ ndN tr ≤ 1000000 := hs0
      obtain ⟨Au, cu, rfl, -, -, -⟩ := hu1.1.rows.open_
      obtain ⟨vst, hvt, hrt⟩ := hs1.1
      have hlt' : vst.length = tr.length := by rw [hrt.1, List.length_map]
      obtain ⟨As, cs, rfl, -, -⟩ := hvt.cells.open_
      simp only [List.length_map] at hcy hu0
      obtain ⟨go, cg, heo, hg0⟩ := ho2.cell (j := 0) hcy rfl
      simp only [Value.slice.injEq] at heo
      obtain ⟨rfl, -, rfl⟩ := heo
      have hq0 : wr.cell? ⟨go, i * 3, none⟩ = some (.slice Au cr.length cu) := hg0
      have hq1 : wr.cell? ⟨go, i * 3 + 1, none⟩ = some (.slice As vst.length cs) := by obtain ⟨g', c', he', h'⟩ := ho2.cell (j := 1) hcy rfl; simp only [Value.slice.injEq, Option.some.injEq, Addr.mk.injEq, and_true, true_and] at he'; rw [he'.1]; exact h'
      have hq2 : wr.cell? ⟨go, i * 3 + 2, none⟩ = some (.int .i64 (n : Nat)) := by obtain ⟨g', c', he', h'⟩ := ho2.cell (j := 2) hcy rfl; simp only [Value.slice.injEq, Option.some.injEq, Addr.mk.injEq, and_true, true_and] at he'; rw [he'.1]; exact h'
      have HTS := Lib.hid (show (L.take (i + 1)).map cutU = (L.take i).map cutU ++ [((cr, tr.headD []), n)] from by rw [List.take_add_one, hy, List.map_append]; rfl)
      have HUF := Lib.hid (show fldF.P wr w.heap.size (.slice Au cr.length cu) cr from hu0)
      have hii : (i : Int) < (css2.length : Int) := by omega
      clear hu0 hs0 hu1 hs1 hg0 hcy hy ho2 he2 ho3 hce3 hg3 hn
      cases vst with
      | nil =>
        have htr : tr = [] := List.eq_nil_of_length_eq_zero (by simpa using hlt'.symm)
        subst htr
        clear hvt hrt hlt'
        go_upto_region 8 with fail
        have HBW0 := Lib.hid (show Below wr.heap.size wr (((wr.alloc (.cells #[.slice Au cr.length cu, .slice As 0 cs, .int .i64 n] tSp)).alloc (.cells #[.slice Au cr.length cu, .slice none 0 0, .int .i64 n] tCu)).alloc (.cells #[.slice Au cr.length cu, .slice none 0 0, .int .i64 n] tCu)) from ((below1 wr _).trans ((below1 _ _).mono (by simp))).trans ((below1 _ _).mono (by simp; omega)))
        go_wp2_with (at_builtin; go_loud (refine wpList_app1K T_cut (ad := ⟨wr.heap.size + 2, 0, none⟩) (W := (((wr.alloc (.cells #[.slice Au cr.length cu, .slice As 0 cs, .int .i64 n] tSp)).alloc (.cells #[.slice Au cr.length cu, .slice none 0 0, .int .i64 n] tCu)).alloc (.cells #[.slice Au cr.length cu, .slice none 0 0, .int .i64 n] tCu))) (c := [.slice Au cr.length cu, .slice none 0 0, .int .i64 (n : Nat)]) (HO3.out.below HBW0.out) (by omega) (Nat.le_trans HB3.out.size HBW0.out.size) rfl (by intro u hu; simp at hu; rcases hu with rfl | rfl | rfl <;> rfl) (fun j u hu => by have h := lit_cells ((wr.alloc (.cells #[.slice Au cr.length cu, .slice As 0 cs, .int .i64 n] tSp)).alloc (.cells #[.slice Au cr.length cu, .slice none 0 0, .int .i64 n] tCu)) tCu [.slice Au cr.length cu, .slice none 0 0, .int .i64 (n : Nat)] #[.slice Au cr.length cu, .slice none 0 0, .int .i64 n] rfl j u hu; rw [size_alloc', size_alloc'] at h; exact h) (by rfl) rfl (by rfl) (by rfl) ?_; intro v5 w5 hown5 hgr5; have HN5 := Lib.hid hown5; have HG5 := Lib.hid hgr5; clear hown5 hgr5))
        go_roundw
        case rel =>
          refine ⟨i + 1, _, by omega, by go_num, HN5.out, ?_, HG3.out.trans (Grow.pre HBW0.out HG5.out)⟩
          rw [HTS.out]
          exact ((HCE3.out.below HBW0.out).snoc (x := ((cr, []), n)) ⟨_, _, rfl, fldF.below HUF.out HBW0.out, OwnInts.nil _ _ _⟩).kept HG5.out.1 (HO3.out.below HBW0.out).bt (by decide) (by decide)
        case measure => simp [intOf]; omega
      | cons u1 vst =>
        obtain ⟨t1, tr, rfl⟩ : ∃ t1 l, tr = t1 :: l := by
          cases tr with
          | nil => simp at hlt'
          | cons a l => exact ⟨a, l, rfl⟩
        obtain ⟨gs, hgs⟩ : ∃ gs, As = some ⟨gs, 0, none⟩ := by
          rcases hvt.cases with ⟨-, h⟩ | ⟨g, cap, cur, he, -⟩
          · simp at h
          · injection he with h1; exact ⟨g, h1⟩
        subst hgs
        have ht1 : OwnInts wr w.heap.size tI u1 (up t1) := hrt.2 0 u1 (up t1) rfl rfl
        obtain ⟨A7, c7, he7, -, -, -⟩ := ht1.ints.open_
        rw [up_len] at he7
        subst he7
        have HT1 := Lib.hid ht1
        have HVT := Lib.hid hvt
        have hv0 : ∀ o o', ((wr.alloc o).alloc o').cell? ⟨gs, 0, none⟩ = some (.slice A7 t1.length c7) := fun o o' => by
          have hb : Below wr.heap.size wr ((wr.alloc o).alloc o') := (below1 wr o).trans ((below1 _ _).mono (by simp))
          obtain ⟨ad, n', c', he, h⟩ := (HVT.out.below hb).cells.at_ (k := 0) rfl
          simp only [Value.slice.injEq, Option.some.injEq] at he
          rw [← he.1] at h
          exact h
        clear hvt hrt hlt' ht1
        go_upto_region 8 with fail
        have HBW0 := Lib.hid (show Below wr.heap.size wr (((wr.alloc (.cells #[.slice Au cr.length cu, .slice (some ⟨gs, 0, none⟩) (vst.length + 1) cs, .int .i64 n] tSp)).alloc (.cells #[.slice Au cr.length cu, .slice A7 t1.length c7, .int .i64 n] tCu)).alloc (.cells #[.slice Au cr.length cu, .slice A7 t1.length c7, .int .i64 n] tCu)) from ((below1 wr _).trans ((below1 _ _).mono (by simp))).trans ((below1 _ _).mono (by simp; omega)))
        go_wp2_with (at_builtin; go_loud (refine wpList_app1K T_cut (ad := ⟨wr.heap.size + 2, 0, none⟩) (W := (((wr.alloc (.cells #[.slice Au cr.length cu, .slice (some ⟨gs, 0, none⟩) (vst.length + 1) cs, .int .i64 n] tSp)).alloc (.cells #[.slice Au cr.length cu, .slice A7 t1.length c7, .int .i64 n] tCu)).alloc (.cells #[.slice Au cr.length cu, .slice A7 t1.length c7, .int .i64 n] tCu))) (c := [.slice Au cr.length cu, .slice A7 t1.length c7, .int .i64 (n : Nat)]) (HO3.out.below HBW0.out) (by omega) (Nat.le_trans HB3.out.size HBW0.out.size) rfl (by intro u hu; simp at hu; rcases hu with rfl | rfl | rfl <;> rfl) (fun j u hu => by have h := lit_cells ((wr.alloc (.cells #[.slice Au cr.length cu, .slice (some ⟨gs, 0, none⟩) (vst.length + 1) cs, .int .i64 n] tSp)).alloc (.cells #[.slice Au cr.length cu, .slice A7 t1.length c7, .int .i64 n] tCu)) tCu [.slice Au cr.length cu, .slice A7 t1.length c7, .int .i64 (n : Nat)] #[.slice Au cr.length cu, .slice A7 t1.length c7, .int .i64 n] rfl j u hu; rw [size_alloc', size_alloc'] at h; exact h) (by rfl) rfl (by rfl) (by rfl) ?_; intro v5 w5 hown5 hgr5; have HN5 := Lib.hid hown5; have HG5 := Lib.hid hgr5; clear hown5 hgr5))
        go_roundw
        case rel =>
          refine ⟨i + 1, _, by omega, by go_num, HN5.out, ?_, HG3.out.trans (Grow.pre HBW0.out HG5.out)⟩
          rw [HTS.out]
          exact ((HCE3.out.below HBW0.out).snoc (x := ((cr, t1), n)) ⟨_, _, rfl, fldF.below HUF.out HBW0.out, HT1.out.below HBW0.out⟩).kept HG5.out.1 (HO3.out.below HBW0.out).bt (by decide) (by decide)
        case measure => simp [intOf]; omega
    · have hil : i = css2.length := by omega
      have HTK := Lib.hid (show L.take i = L from List.take_of_length_le (by rw [hil, HCL.out]; exact Nat.le_refl _))
      clear hil
      go_wp2_with fail
      go_ret
      refine ⟨_, rfl, ⟨css3, HO3.out, ?_⟩, HB3.out⟩
      have h := HCE3.out
      rw [HTK.out, HLE.out] at h
      exact h
end Go.Proofs.YtdjhfeaimmpmhaaGreat

set_option maxRecDepth 100000
set_option linter.unusedVariables false
set_option linter.unusedSimpArgs false
namespace Go.Proofs.YtdjhfeaimmpmhaaGreat
open Go.RowKit

theorem idxN_le (xs : List (List Nat)) (t : List Nat) : idxN xs t ≤ xs.length := by
  unfold idxN
  cases h : Nat.blt (bsF xs t xs.length 0 xs.length) xs.length with
  | false => simp
  | true =>
    have := (blt_iff _ _).1 h
    cases eqN (xs.getD (bsF xs t xs.length 0 xs.length) []) t with
    | false => simp
    | true => simp; omega

set_option maxHeartbeats 2000000 in
theorem i_place (w : World) (v tv : Value) (B : Option Addr) (m d : Nat) (xs : List (List Nat)) (t : List Nat) (ha : Rows w v (xs.map up)) (ht : Ints w tv (up t)) (hn : xs.length ≤ 1000) :
    Calls Tryz.prog 66 #[.agg #[v, .slice B m d], tv] w fun e w' => e = .returned (.int .i64 (idxN xs t : Nat)) ∧ w' = w.alloc (.cells #[v, .slice B m d] 71) := by
  have HA := Lib.hid ha
  have HT := Lib.hid ht
  have hI := idxN_le xs t
  obtain ⟨A, c, rfl, -, -, -⟩ := ha.open_
  obtain ⟨At, ct, rfl, -, -, -⟩ := ht.open_
  rw [List.length_map] at HA ⊢
  rw [up_len] at HT ⊢
  have HB := Lib.hid (below1 w (.cells #[.slice A xs.length c, .slice B m d] 71))
  clear ha ht
  go_enter Tryz.func66, Tryz.ntmps66
  go_wp2_with (go_at_call 57; refine (i_indexIn _ _ _ xs t (HA.out.below HB.out) (HT.out.below HB.out) hn).mono ?_; rintro e w1 ⟨rfl, rfl⟩)
  go_ret
  exact ⟨rfl, rfl⟩
end Go.Proofs.YtdjhfeaimmpmhaaGreat

set_option maxRecDepth 100000
set_option linter.unusedVariables false
set_option linter.unusedSimpArgs false
namespace Go.Proofs.YtdjhfeaimmpmhaaGreat
open Go.RowKit

/- PLAIN -/
/-- what DeleteFunc has done: the first k are those that stay of the first j; from j on nothing has turned -/
structure DelS (q : List Nat → Bool) (bs xs : List (List Nat)) (vs us : List Value) (k j : Nat) : Prop where
  lenx : xs.length = bs.length
  lenu : us.length = bs.length
  kj : k < j
  jn : j ≤ bs.length
  pre : xs.take k = (bs.take j).filter q
  suf : xs.drop j = bs.drop j
  sub : (us.take k ++ us.drop j).Sublist vs
theorem DelS.at_ {q : List Nat → Bool} {bs xs : List (List Nat)} {vs us : List Value} {k j : Nat} (h : DelS q bs xs vs us k j) (hj : j < bs.length) : xs[j]? = bs[j]? := by
  have := congrArg (fun l => l[0]?) h.suf
  simpa [List.getElem?_drop] using this
theorem DelS.skip {q : List Nat → Bool} {bs xs : List (List Nat)} {vs us : List Value} {k j : Nat} {b : List Nat} (h : DelS q bs xs vs us k j) (hb : bs[j]? = some b) (hq : q b = false) : DelS q bs xs vs us k (j + 1) := by
  have hj := (List.getElem?_eq_some_iff.1 hb).1
  refine ⟨h.lenx, h.lenu, by have := h.kj; omega, hj, ?_, ?_, ?_⟩
  · rw [List.take_add_one, hb, List.filter_append, h.pre]; simp [hq]
  · rw [← List.drop_drop, h.suf, List.drop_drop]
  · refine List.Sublist.trans ?_ h.sub
    have : us.drop j = us[j]'(by rw [h.lenu]; exact hj) :: us.drop (j + 1) := List.drop_eq_getElem_cons _
    rw [this]
    exact List.Sublist.append_left (List.sublist_cons_self _ _) _
theorem DelS.take {q : List Nat → Bool} {bs xs : List (List Nat)} {vs us : List Value} {k j : Nat} {b : List Nat} {u : Value} (h : DelS q bs xs vs us k j) (hb : bs[j]? = some b) (hu : us[j]? = some u) (hq : q b = true) : DelS q bs (xs.set k b) vs (us.set k u) (k + 1) (j + 1) := by
  have hj := (List.getElem?_eq_some_iff.1 hb).1
  have hkj := h.kj
  have hk : k < bs.length := by omega
  refine ⟨by rw [List.length_set]; exact h.lenx, by rw [List.length_set]; exact h.lenu, by omega, hj, ?_, ?_, ?_⟩
  · rw [List.take_add_one, List.getElem?_set_self (by rw [h.lenx]; exact hk), List.take_set_of_le (Nat.le_refl _), h.pre, List.take_add_one, hb, List.filter_append]
    simp [hq]
  · rw [List.drop_set_of_lt (by omega), ← List.drop_drop, h.suf, List.drop_drop]
  · rw [List.take_add_one, List.getElem?_set_self (by rw [h.lenu]; exact hk), List.take_set_of_le (Nat.le_refl _), List.drop_set_of_lt (by omega)]
    have : us.drop j = u :: us.drop (j + 1) := by
      rw [List.drop_eq_getElem_cons (by rw [h.lenu]; exact hj)]
      rw [(List.getElem?_eq_some_iff.1 hu).2]
    have hs := h.sub
    rw [this] at hs
    simpa using hs

end Go.Proofs.YtdjhfeaimmpmhaaGreat

set_option maxRecDepth 100000
set_option linter.unusedVariables false
set_option linter.unusedSimpArgs false
namespace Go.Proofs.YtdjhfeaimmpmhaaGreat
open Go.RowKit

def lenV (v : Value) : Nat := match v with
  | .slice _ n _ => n
  | _ => 0

theorem RR.keptAp {w w' : World} {B : Nat} {vs : List Value} {xss : List (List Int)} {v : Value} (h : RR w B vs xss) (hg : w.grownBy w' v.ownBlock) (ha : ∀ u ∈ vs, Apart u v) : RR w' B vs xss :=
  ⟨h.1, fun k u zs hu hz => (h.2 k u zs hu hz).kept hg (ha u (List.mem_of_getElem? hu))⟩

set_option maxHeartbeats 8000000 in
theorem i_treesOf (w : World) (n : Nat) (h1 : 1 ≤ n) (h8 : n ≤ 8) :
    Calls Tryz.prog 116 #[.int .i64 n] w fun e w' => ∃ x, e = .returned x ∧ LA w' w.heap.size x ((treesN n).map up) ∧ Below w.heap.size w w' := by
  obtain ⟨hlen, hall⟩ := treesN_at h1 h8
  have HLEN := Lib.hid hlen
  have HALL := Lib.hid hall
  clear hlen hall
  have OT := Lib.hid (show OwnInts ((w.alloc (.cells #[] tI)).alloc (.cells #[] tL)) w.heap.size tI (.slice (some ⟨w.heap.size, 0, none⟩) 0 0) [] from ⟨(own_lit w tI [] (by simp [maxLen])).alloc _, fun z hz => by simp at hz⟩)
  have OO := Lib.hid (show Own ((w.alloc (.cells #[] tI)).alloc (.cells #[] tL)) w.heap.size tL (.slice (some ⟨w.heap.size + 1, 0, none⟩) 0 0) [] from by
    have h := own_lit (w.alloc (.cells #[] tI)) tL [] (by simp [maxLen])
    rw [size_alloc'] at h
    exact h.mono (Nat.le_succ _))
  have BB := Lib.hid ((below1 w (.cells #[] tI)).trans ((below1 (w.alloc (.cells #[] tI)) (.cells #[] tL)).mono (by simp)))
  go_enter Tryz.func116, Tryz.ntmps116
  go_wp2_with fail
  generalize ((w.alloc (.cells #[] tI)).alloc (.cells #[] tL)) = w1 at OT OO BB ⊢
  go_loopw [3, 12] (fun tv x wr => ∃ i : Nat, i ≤ n ∧ x = .int .i64 i ∧ OwnInts wr w.heap.size tI tv (up (List.range i)) ∧ Own wr w.heap.size tL (.slice (some ⟨w.heap.size + 1, 0, none⟩) 0 0) [] ∧ Below w.heap.size w wr) (fun _ x _ => n - (intOf x).toNat)
  case atStart => exact ⟨0, Nat.zero_le _, rfl, OT.out, OO.out, BB.out⟩
  case round =>
    obtain ⟨i, hi, rfl, ht, ho, hb⟩ := hrel
    clear OT OO BB
    have HT := Lib.hid ht
    have HO := Lib.hid ho
    have HB := Lib.hid hb
    clear ht ho hb
    by_cases hlt : i < n
    · have hii : (i : Int) < (n : Int) := by omega
      have hz64 : In64 (i : Int) := by unfold In64; omega
      go_wp2_with (at_builtin; refine wpList_app1 T_int HT.out.1 (by rw [ints_len, up_len, List.length_range]; omega) HB.out.size (by rfl) rfl (by rfl) (by rfl) (by rfl) ?_; intro v1 w5 hown1 hgr1; have HN := Lib.hid hown1; have HB5 := Lib.hid (hgr1.below HB.out HB.out.size HT.out.1.ge); have HO5 := Lib.hid (HO.out.kept hgr1.1 (HO.out.bt.ne HT.out.1.bt (by decide))); clear hown1 hgr1)
      go_roundw
      case rel =>
        refine ⟨i + 1, by omega, by go_num, ?_, HO5.out, HB5.out⟩
        rw [List.range_succ, up_append]
        exact ⟨by simpa [ints, up] using HN.out, fun y hy => by rcases List.mem_append.1 hy with hy | hy; exact HT.out.2 y hy; simp [up] at hy; subst hy; exact hz64⟩
      case measure => simp [intOf]; omega
    · have hin : i = n := by omega
      subst hin
      obtain ⟨gt, ct, rfl⟩ : ∃ gt ct, u3 = .slice (some ⟨gt, 0, none⟩) i ct := by
        rcases HT.out.1.cases with ⟨_, hv⟩ | ⟨g, cap, cur, he, _⟩
        · have h2 := congrArg List.length hv
          rw [ints_len, up_len, List.length_range] at h2
          simp at h2; omega
        · rw [ints_len, up_len, List.length_range] at he; exact ⟨g, cap, he⟩
      go_wp2_with fail
      obtain ⟨wA, rfl⟩ : ∃ wA : World, wA = wr := ⟨_, rfl⟩
      go_loopw [4] (fun ov wr => ∃ (dn : List (List Nat)) (f : Nat) (t : List Nat) (vs : List Value), f + dn.length = 200 ∧ Hid (dn ++ treesF f t = treesN i) ∧ t.length = i ∧ OwnInts wr w.heap.size tI (.slice (some ⟨gt, 0, none⟩) i ct) (up t) ∧ Own wr w.heap.size tL ov vs ∧ RR wr w.heap.size vs (dn.map up) ∧ vs.Pairwise Apart ∧ (∀ u ∈ vs, Apart u (.slice (some ⟨gt, 0, none⟩) i ct)) ∧ Below w.heap.size w wr) (fun ov _ => 200 - lenV ov)
      case atStart => exact ⟨[], 200, List.range i, [], rfl, rfl, by simp, HT.out, HO.out, RR.nil _ _, List.Pairwise.nil, fun u hu => by simp at hu, HB.out⟩
      case round =>
        obtain ⟨dn, f, t, vs, hf, HTF, htl, ht, ho, hr, hap, hat, hb⟩ := hrel
        clear HT HO HB
        have hdl : dn.length ≤ 115 := by have h := congrArg List.length HTF.out; have h2 := HLEN.out; simp at h; omega
        obtain ⟨f', rfl⟩ : ∃ f', f = f' + 1 := ⟨f - 1, by omega⟩
        have htf := HTF.out
        rw [treesF] at htf
        have hmem : t ∈ treesN i := by rw [← htf]; simp
        obtain ⟨-, hlv, hcan, hpar⟩ := HALL.out t hmem
        have hvl : vs.length = dn.length := by rw [hr.1, List.length_map]
        have hvl2 : vs.length ≤ 115 := by omega
        have HVL := Lib.hid hvl
        have HT := Lib.hid ht
        have HO := Lib.hid ho
        have HR := Lib.hid hr
        have HAP := Lib.hid hap
        have HAT := Lib.hid hat
        have HB := Lib.hid hb
        have HTL := Lib.hid htl
        have HFF := Lib.hid hf
        have HTF2 := Lib.hid htf
        have HPAR := Lib.hid hpar
        have HLT := Lib.hid (show ∀ k, t.getD k 0 ≤ 8 from fun k => by
          cases hk : t[k]? with
          | none => simp [List.getD, hk]
          | some l => have := canO_lt hcan l (List.mem_of_getElem? hk); simp [List.getD, hk]; omega)
        obtain ⟨Ao, co, rfl, -, -⟩ := ho.cells.open_
        have HSC := Lib.hid (rfl : succT t = succT t)
        clear hf htl ht ho hr hap hat hb htf hmem hlv hcan hpar HTF hvl
        go_upto_region 8 with (first
          | (go_at_call 167; refine (lib_Clone _ _ (up t) HT.out.ints (by rw [up_len, HTL.out]; omega)).mono ?_; rintro e w2 ⟨r2, rfl, ho2, hb2⟩; obtain ⟨A5, c5, he5, -, -, -⟩ := ho2.ints.open_; rw [up_len] at he5; subst he5; have HAF := Lib.hid (HR.out.fresh (Nat.le_refl _) ho2.1.ge); have HTA := Lib.hid (show Apart (.slice A5 t.length c5) (.slice (some ⟨gt, 0, none⟩) i ct) from (apart_of_lt HT.out.1.lt ho2.1.ge).symm); have HO2 := Lib.hid (ho2.mono HB.out.size); have HBI := Lib.hid hb2; have HB2 := Lib.hid (HB.out.trans (hb2.mono HB.out.size)); have HOW := Lib.hid (HO.out.below hb2); have HT2 := Lib.hid (HT.out.below hb2); clear ho2 hb2)
          | (at_builtin; refine wpList_app1 T_row HOW.out (by omega) HB2.out.size (by rfl) rfl (by rfl) (by rfl) (by rfl) ?_; intro v1 w5 hown1 hgr1; have HN1 := Lib.hid hown1; have HR1 := Lib.hid (LL.snoc HOW.out (HR.out.below HBI.out) HO2.out hown1 hgr1.1); have HB5 := Lib.hid (hgr1.below HB2.out HB2.out.size HOW.out.ge); have HT5 := Lib.hid (HT2.out.kept hgr1.1 (HT2.out.1.bt.ne HOW.out.bt (by decide))); clear hown1 hgr1))
        have HAP5 := Lib.hid (pairApart_snoc HAP.out HAF.out)
        have HAT5 := Lib.hid (show ∀ u ∈ vs ++ [.slice A5 t.length c5], Apart u (.slice (some ⟨gt, 0, none⟩) i ct) from fun u hu => by
          rcases List.mem_append.1 hu with hu | hu
          · exact HAT.out u hu
          · simp at hu; subst hu; exact HTA.out)
        have HDN := Lib.hid (show RR w5 w.heap.size (vs ++ [.slice A5 t.length c5]) ((dn ++ [t]).map up) from by rw [List.map_append]; exact HR1.out)
        clear HAP HAF HAT HTA HO2 HBI HOW HT2 HR1 HT HO HR HB HB2
        generalize hvs : vs ++ [.slice A5 t.length c5] = vs5 at HN1 HAP5 HAT5 HDN
        obtain ⟨ad, zz, hae, h3t⟩ : ∃ ad : Addr, ∃ zz : Unit, (some (⟨gt, 0, none⟩ : Addr)) = some ad ∧ ∀ k, k < i → w5.cell? ⟨gt, k, none⟩ = some (.int .i64 (t.getD k 0 : Nat)) := by
          refine ⟨_, (), rfl, fun k hk => ?_⟩
          obtain ⟨A, c, e, -, -, h3⟩ := HT5.out.ints.open_
          obtain ⟨ad, z, hA, hz', -, hc⟩ := h3 k (by rw [up_len, HTL.out]; exact hk)
          simp only [Value.slice.injEq] at e
          obtain ⟨rfl, -, -⟩ := e
          injection hA with hA
          subst hA
          obtain ⟨l, hl, hzl⟩ := up_getD hz'
          rw [addr_add] at hc
          rw [hc, hzl]
          simp [List.getD, hl]
        have H3 := Lib.hid h3t
        clear h3t hae
        have hwi : IntKind.i64.wrap ((i : Int) - 1) = (i : Int) - 1 := IntWalk.i64_in _ (by omega)
        go_wp2_with fail
        go_loopw [6] (fun x wi => ∃ m : Nat, m ≤ i ∧ x = .int .i64 ((m : Int) - 1) ∧ Hid (pN t m = pN t i) ∧ w5 = wi) (fun x _ => (intOf x + 1).toNat)
        case atStart => exact ⟨i, Nat.le_refl _, rfl, rfl, rfl⟩
        case round =>
          obtain ⟨m, hm, rfl, HPN, rfl⟩ := hrel
          cases m with
          | zero =>
            have h0 : ((0 : Nat) : Int) - 1 = -1 := rfl
            rw [h0]
            clear h0 hm
            have HFIN := Lib.hid (show dn ++ [t] = treesN i from by
              have h := HTF2.out
              have hs : succT t = none := by unfold succT; rw [HTL.out, ← HPN.out]; rfl
              rw [hs] at h
              exact h)
            go_wp2_with fail
            go_ret
            refine ⟨_, rfl, ⟨vs5, HN1.out, ?_, HAP5.out⟩, HB5.out⟩
            rw [← HFIN.out]; exact HDN.out
          | succ k =>
            have h0 : ((k + 1 : Nat) : Int) - 1 = (k : Int) := by omega
            rw [h0]
            clear h0
            have hck := H3.out k (by omega)
            have hki : (k : Int) < (i : Int) := by omega
            have hk0 : (0 : Int) ≤ (k : Int) := by omega
            have hkd : decide ((0 : Int) ≤ (k : Int)) = true := by simp
            have hwk : IntKind.i64.wrap ((k : Int) - 1) = (k : Int) - 1 := IntWalk.i64_in _ (by omega)
            have hpk : pN t (k + 1) = bif Nat.ble (t.getD k 0) 1 then pN t k else k + 1 := rfl
            have HGK := Lib.hid (rfl : t.getD k 0 = t.getD k 0)
            generalize hL : t.getD k 0 = L at hck hpk
            have HL := Lib.hid hL
            clear hL
            by_cases hq : L ≤ 1
            · have hd : decide ((L : Int) ≤ 1) = true := by simp; omega
              have hq1 : (L : Int) ≤ 1 := by omega
              rw [Nat.ble_eq_true_of_le hq] at hpk
              have HPK := Lib.hid hpk
              clear hpk hq
              go_wp2_with fail
              go_roundw
              case rel => exact ⟨k, by omega, rfl, by rw [← HPN.out]; exact HPK.out.symm, by first | rfl | trivial⟩
              case measure => first | (simp [intOf]; done) | (simp [intOf]; omega)
            · have hd : decide ((L : Int) ≤ 1) = false := by simp; omega
              have hq1 : ¬ ((L : Int) ≤ 1) := by omega
              have hble : Nat.ble L 1 = false := by
                cases h : Nat.ble L 1 with
                | true => exact absurd (Nat.le_of_ble_eq_true h) hq
                | false => rfl
              rw [hble] at hpk
              have HPI := Lib.hid (show pN t i = k + 1 from by rw [← HPN.out]; exact hpk)
              have HPP := Lib.hid (show 0 < parN t L k from by rw [← HL.out]; exact HPAR.out k (by rw [HTL.out]; exact HPI.out))
              clear hpk hq hble
              go_wp2_with fail
              go_loopw [7] (fun x wi => ∃ m nd : Nat, m ≤ k ∧ x = .int .i64 ((m : Int) - 1) ∧ Hid (parN t L m = parN t L k) ∧ wi = w5.drewN nd) (fun x _ => (intOf x + 1).toNat)
              case atStart => exact ⟨k, 0, Nat.le_refl _, rfl, rfl, rfl⟩
              case round =>
                obtain ⟨m, nd, hm2, rfl, HQN, rfl⟩ := hrel
                cases m with
                | zero => exact absurd HPP.out (by rw [← HQN.out]; exact Nat.lt_irrefl 0)
                | succ s =>
                  have h0 : ((s + 1 : Nat) : Int) - 1 = (s : Int) := by omega
                  rw [h0]
                  clear h0
                  have hcs := H3.out s (by omega)
                  have hsi : (s : Int) < (i : Int) := by omega
                  have hs0 : (0 : Int) ≤ (s : Int) := by omega
                  have hws : IntKind.i64.wrap ((s : Int) - 1) = (s : Int) - 1 := IntWalk.i64_in _ (by omega)
                  have hLb : L ≤ 8 := by have := HLT.out k; rw [HL.out] at this; exact this
                  have hwL : IntKind.i64.wrap ((L : Int) - 1) = (L : Int) - 1 := IntWalk.i64_in _ (by omega)
                  have hps : parN t L (s + 1) = bif Nat.beq (t.getD s 0 + 1) L then s + 1 else parN t L s := rfl
                  generalize hS : t.getD s 0 = S at hcs hps
                  have HS := Lib.hid hS
                  clear hS
                  by_cases hq2 : S + 1 = L
                  · have hd2 : ((S : Int) != (L : Int) - 1) = false := by simp; omega
                    have HPQ := Lib.hid (show parN t L k = s + 1 from by rw [← HQN.out, hps, hq2, Nat.beq_refl]; rfl)
                    have HSU := Lib.hid (show succT t = some (fillF t (k - s) (i - k) k) from by
                      unfold succT
                      rw [HTL.out, HPI.out]
                      simp only
                      rw [HL.out, HPQ.out, Nat.add_sub_cancel])
                    clear hps hq2
                    go_wp2_with fail
                    go_quiet (fail)
                    go_wp2_with fail
                    rw [World.drewN_drewN]
                    have HT6 := Lib.hid (show OwnInts (w5.drewN (nd + nq)) w.heap.size tI (.slice (some ⟨gt, 0, none⟩) i ct) (up t) from HT5.out)
                    have HN6 := Lib.hid (HN1.out.drewN (nd + nq))
                    have HD6 := Lib.hid (HDN.out.below (below_drewN (Below.refl _ _) (nd + nq)))
                    have HB6 := Lib.hid (below_drewN HB5.out (nd + nq))
                    generalize (w5.drewN (nd + nq)) = w6 at HT6 HN6 HD6 HB6 ⊢
                    have hsk : s < k := by omega
                    have hwd : IntKind.i64.wrap ((k : Int) - (s : Int)) = (k : Int) - (s : Int) := IntWalk.i64_in _ (by omega)
                    clear hcs hck hd hd2 HT5 HN1 HDN HB5
                    go_loopw [8] (fun x wi => ∃ (c : Nat) (tt : List Nat), k ≤ c ∧ c ≤ i ∧ x = .int .i64 c ∧ tt.length = i ∧ Hid (∀ l ∈ tt, l ≤ 8) ∧ Hid (fillF tt (k - s) (i - c) c = fillF t (k - s) (i - k) k) ∧ OwnInts wi w.heap.size tI (.slice (some ⟨gt, 0, none⟩) i ct) (up tt) ∧ Own wi w.heap.size tL v1 vs5 ∧ RR wi w.heap.size vs5 ((dn ++ [t]).map up) ∧ Below w.heap.size w wi) (fun x _ => i - (intOf x).toNat)
                    case atStart => exact ⟨k, t, Nat.le_refl _, by omega, rfl, HTL.out, fun l hl => by obtain ⟨j, hj, rfl⟩ := List.getElem_of_mem hl; have := HLT.out j; simpa [List.getD, hj] using this, rfl, HT6.out, HN6.out, HD6.out, HB6.out⟩
                    case round =>
                      obtain ⟨c, tt, hkc, hci, rfl, htl, HTB, HFL, ht, ho, hr, hb⟩ := hrel
                      clear HT6 HN6 HD6 HB6
                      have HT := Lib.hid ht
                      have HO := Lib.hid ho
                      have HR := Lib.hid hr
                      have HB := Lib.hid hb
                      have HTL2 := Lib.hid htl
                      clear ht ho hr hb htl
                      by_cases hlt3 : c < i
                      · have hcc : (c : Int) < (i : Int) := by omega
                        have hc0 : (0 : Int) ≤ (c : Int) := by omega
                        obtain ⟨e, he⟩ : ∃ e, e = c - (k - s) := ⟨_, rfl⟩
                        have hwe : IntKind.i64.wrap ((c : Int) - ((k : Int) - (s : Int))) = (e : Int) := by rw [IntWalk.i64_in _ (by omega)]; omega
                        have hei : (e : Int) < (i : Int) := by omega
                        have he0 : (0 : Int) ≤ (e : Int) := by omega
                        have hce : wr.cell? ⟨gt, e, none⟩ = some (.int .i64 (tt.getD e 0 : Nat)) := by
                          obtain ⟨A, c', e', -, -, h3⟩ := HT.out.ints.open_
                          obtain ⟨ad, z, hA, hz', -, hc⟩ := h3 e (by rw [up_len, HTL2.out]; omega)
                          simp only [Value.slice.injEq] at e'
                          obtain ⟨rfl, -, -⟩ := e'
                          injection hA with hA
                          subst hA
                          obtain ⟨l, hl, hzl⟩ := up_getD hz'
                          rw [addr_add] at hc
                          rw [hc, hzl]
                          simp [List.getD, hl]
                        have hE8 : tt.getD e 0 ≤ 8 := by
                          cases hk : tt[e]? with
                          | none => simp [List.getD, hk]
                          | some l => have := HTB.out l (List.mem_of_getElem? hk); simpa [List.getD, hk] using this
                        have hfl := HFL.out
                        rw [show i - c = (i - (c + 1)) + 1 by omega, fillF, ← he] at hfl
                        generalize tt.getD e 0 = E at hce hE8 hfl
                        have HFL2 := Lib.hid hfl
                        obtain ⟨u0, -, q0, q1, -, -, hst, hgb⟩ := HT.out.1.storeAt (k := c) (by rw [ints_len, up_len, HTL2.out]; exact hlt3) (.int .i64 (E : Int))
                        have HST := Lib.hid (show OwnInts (wr.setCell ⟨gt, c, none⟩ (.int .i64 (E : Int))) w.heap.size tI (.slice (some ⟨gt, 0, none⟩) i ct) (up (tt.set c E)) from ⟨by simpa [ints, up, List.map_set] using hst, fun z hz => by
                          simp only [up, List.map_set] at hz
                          rcases List.mem_or_eq_of_mem_set hz with hz | hz
                          · exact HT.out.2 z hz
                          · rw [hz]; unfold In64; omega⟩)
                        have HO2 := Lib.hid (HO.out.kept hgb (HO.out.bt.ne (v' := .slice (some ⟨gt, 0, none⟩) i ct) HT.out.1.bt (by decide)))
                        have HR2 := Lib.hid (HR.out.keptAp (v := .slice (some ⟨gt, 0, none⟩) i ct) hgb HAT5.out)
                        have HB2 := Lib.hid (HB.out.setCell (p := ⟨gt, c, none⟩) (HT.out.1.ge gt rfl) (.int .i64 (E : Int)))
                        have HTB2 := Lib.hid (show ∀ l ∈ tt.set c E, l ≤ 8 from fun l hl => by
                          rcases List.mem_or_eq_of_mem_set hl with hl | hl
                          · exact HTB.out l hl
                          · omega)
                        clear hst hgb hfl he
                        go_wp2_with fail
                        go_roundw
                        case rel => exact ⟨c + 1, tt.set c E, by omega, by omega, by go_num, by rw [List.length_set]; exact HTL2.out, HTB2.out, HFL2.out, HST.out, HO2.out, HR2.out, HB2.out⟩
                        case measure => simp [intOf]; omega
                      · have hce : c = i := by omega
                        have hfl := HFL.out
                        rw [hce, Nat.sub_self, fillF] at hfl
                        have HNX := Lib.hid (show dn ++ [t] ++ treesF f' tt = treesN i from by
                          have h := HTF2.out
                          rw [HSU.out, ← hfl] at h
                          simpa using h)
                        have hcc : ¬ ((c : Int) < (i : Int)) := by omega
                        have HLN := Lib.hid (show (dn ++ [t]).length = dn.length + 1 from by simp)
                        clear hfl hce
                        go_wp2_with fail
                        go_roundw
                        case rel => exact ⟨dn ++ [t], f', tt, vs5, by rw [HLN.out]; have := HFF.out; omega, HNX.out, HTL2.out, HT.out, HO.out, HR.out, HAP5.out, HAT5.out, HB.out⟩
                        case measure =>
                          obtain ⟨A9, c9, h9, -, -⟩ := HO.out.cells.open_
                          have h10 : vs5.length = vs.length + 1 := by rw [← hvs]; simp
                          rw [h9]
                          show 200 - vs5.length < 200 - vs.length
                          omega
                  · have hd2 : ((S : Int) != (L : Int) - 1) = true := by simp; omega
                    have HPS := Lib.hid (show parN t L (s + 1) = parN t L s from by
                      rw [hps]
                      cases h : Nat.beq (S + 1) L with
                      | true => exact absurd (Nat.eq_of_beq_eq_true h) hq2
                      | false => rfl)
                    clear hps hq2
                    go_wp2_with fail
                    go_quiet (fail)
                    go_wp2_with fail
                    go_roundw
                    case rel => exact ⟨s, _, by omega, rfl, by rw [← HQN.out]; exact HPS.out.symm, by first | rfl | exact World.drewN_drewN ..⟩
                    case measure => first | (simp [intOf]; done) | (simp [intOf]; omega)
end Go.Proofs.YtdjhfeaimmpmhaaGreat

set_option maxRecDepth 100000
set_option linter.unusedVariables false
set_option linter.unusedSimpArgs false
namespace Go.Proofs.YtdjhfeaimmpmhaaGreat
open Go.RowKit

def Small (bs : List (List Nat)) : Prop := ∀ q ∈ bs, lvl q = true ∧ q.length ≤ 8
theorem Small.filter {bs : List (List Nat)} (h : Small bs) (p : List Nat → Bool) : Small (bs.filter p) := fun q hq => h q (List.mem_filter.1 hq).1
end Go.Proofs.YtdjhfeaimmpmhaaGreat

