/- Walk: cutsOf of the program. | Walk: place of the program's forms. | Walks: slices.IndexFunc, slices.DeleteFunc at lists of trees of one's own, with a predicate that may make memory. -/
import Derived.Test.YtngdpoeondnchaaGreatQ19
import Derived.Test.YtngdpoeondnchaaGreatQ12
import Derived.Test.YtngdpoeondnchaaGreatQ9
import Derived.Test.YtngdpoeondnchaaGreatQ10
import Derived.Lib.SliceRun
import Derived.Laws.IdiomCopy
set_option maxRecDepth 100000
set_option linter.unusedVariables false
set_option linter.unusedSimpArgs false
namespace Go.Proofs.YtngdpoeondnchaaGreat
open Go.RowKit

abbrev tCu : TypeId := 99
theorem T_cut : ElemK Tryz.prog 96 99 (.agg #[.slice none 0 0, .slice none 0 0, .int .i64 0]) 3 56 := ⟨Tryz.underlying96, by kernel_rfl, rfl, by omega, by omega⟩
abbrev CU := (List (List Nat) × List Nat) × Nat
abbrev eCu : Elt CU := elt3 fldF fldI
def cutU (x : SP × Nat) : CU := ((x.1.1, x.1.2.headD []), x.2)
/-- the cuts of a tree -/
def cutsU (r : List SP) : List CU := (grpL cmpS (srtS ltS (r.map normS))).map cutU

set_option maxHeartbeats 16000000 in
theorem i_cutsOf (w : World) (v : Value) (t : List Nat) (r : List SP) (ha : Ints w v (up t)) (hr : splV 9 t = some r) (hok : okLs r = true) :
    Calls Tryz.prog 114 #[v] w fun e w' => ∃ x, e = .returned x ∧ SLs eCu tCu w' w.heap.size x (cutsU r) ∧ Below w.heap.size w w' := by
  have HA := Lib.hid ha
  have HR := Lib.hid hr
  have HOK := Lib.hid (okLs_of hok)
  obtain ⟨A, c, rfl, -, -, -⟩ := ha.open_
  rw [up_len] at HA ⊢
  have OL := Lib.hid (show OwnK (w.alloc (.cells #[] tCu)) w.heap.size tCu 3 (.slice (some ⟨w.heap.size, 0, none⟩) 0 0) [] from OwnK.lit w tCu 3 [] (fun c hc => by simp at hc) (by simp [maxLen]) #[] rfl)
  clear ha hr hok
  go_enter Tryz.func114, Tryz.ntmps114
  go_wp2_with (first
    | (go_at_call 147; go_loud (refine (i_splitTree 9 _ _ t r (HA.out.below (below1 w _)) HR.out).mono ?_; rintro e w1 ⟨x1, rfl, hx1, hb1⟩; have HX1 := Lib.hid hx1; have HB1 := Lib.hid hb1; clear hx1 hb1))
    | (go_at_call 146; go_loud (obtain ⟨css1, ho1, he1⟩ := HX1.out; refine (i_gathered _ (w.alloc (.cells #[] tCu)).heap.size _ css1 (r.map cz) ho1 he1 HB1.out.size (by rw [List.length_map]; have := HOK.out.1; omega) (fun x hx => by obtain ⟨s, hs, rfl⟩ := List.mem_map.1 hx; exact (HOK.out.2 s hs).1)).mono ?_; rintro e w2 ⟨x2, rfl, hx2, hb2⟩; clear ho1 he1; obtain ⟨css2, ho2, he2⟩ := hx2; obtain ⟨A2, c2, rfl, -, -⟩ := ho2.open_; have HO2 := Lib.hid ho2; have HE2 := Lib.hid he2; have HB2 := Lib.hid (HB1.out.trans hb2); clear ho2 he2 hb2)))
  obtain ⟨L, hL⟩ : ∃ L, L = grpL cmpS (srtS ltS (r.map normS)) := ⟨_, rfl⟩
  have hLL : L.length ≤ 500 ∧ ∀ x ∈ L, x.2 ≤ 500 := by
    have h1 := (srtSF_perm (lt := ltS) [] (r.map normS)).length_eq
    have h2 := grpL_len cmpS (srtS ltS (r.map normS)) _ (Nat.le_refl _)
    rw [List.take_length, ← hL] at h2
    have h3 : (srtS ltS (r.map normS)).length = r.length := by simpa [srtS] using h1
    rw [h3] at h2
    have := HOK.out.1
    exact ⟨by omega, fun x hx => by have := h2.2 x hx; omega⟩
  have he2 : Elts eSc w2 (w.alloc (.cells #[] tCu)).heap.size css2 L := by
    have h := HE2.out
    rw [List.map_map] at h
    rw [hL]; exact h
  have hcl := he2.1
  have HCL := Lib.hid hcl
  have HLL := Lib.hid hLL
  have HLE := Lib.hid hL
  have HE2 := Lib.hid (he2.mono (show w.heap.size ≤ _ from by simp))
  have HBW := Lib.hid (show Below w.heap.size w w2 from (below1 w _).trans (HB2.out.mono (by simp)))
  have OL2 := Lib.hid (show OwnK w2 w.heap.size tCu 3 (.slice (some ⟨w.heap.size, 0, none⟩) 0 0) [] from OL.out.below HB2.out)
  have hc5 : css2.length ≤ 500 := by rw [hcl]; exact hLL.1
  clear hL hLL he2 hcl
  go_wp2_with fail
  go_loopw [3, 12] (fun o x wr => ∃ (i : Nat) (css3 : List (List Value)), i ≤ css2.length ∧ x = .int .i64 i ∧ OwnK wr w.heap.size tCu 3 o css3 ∧ Elts eCu wr w.heap.size css3 ((L.take i).map cutU) ∧ Grow w2 wr (.slice (some ⟨w.heap.size, 0, none⟩) 0 0) o) (fun _ x _ => css2.length - (intOf x).toNat)
  case atStart => exact ⟨0, [], Nat.zero_le _, rfl, OL2.out, Elts.nil _ _ _, Grow.refl _ _⟩
  case round =>
    obtain ⟨i, css3, hi, rfl, ho3, hce3, hg3⟩ := hrel
    have HO3 := Lib.hid ho3
    have HCE3 := Lib.hid hce3
    have HG3 := Lib.hid hg3
    have HB3 := Lib.hid (hg3.below HBW.out HBW.out.size (OL2.out.ge))
    have hcl3 : css3.length ≤ 500 := by rw [hce3.1, List.length_map, List.length_take]; omega
    by_cases hlt : i < css2.length
    · obtain ⟨⟨⟨cr, tr⟩, n⟩, hy⟩ : ∃ y, L[i]? = some y := ⟨_, List.getElem?_eq_getElem (by rw [← HCL.out]; exact hlt)⟩
      have hn := HLL.out.2 _ (List.mem_of_getElem? hy)
      have ho2 := HO2.out.kept hg3.1 (HO2.out.bt.ne OL2.out.bt (by decide))
      have he2 := HE2.out.kept hg3.1 OL2.out.bt (by decide) (by decide)
      obtain ⟨cy, hcy, hD⟩ := he2.at_ hy
      obtain ⟨u, s, rfl, hu0, hs0⟩ := hD
      have hu1 : LL wr w.heap.size u (cr.map up) ∧ cr.length ≤ 1000000 ∧ ndN cr ≤ 1000000 := hu0
      have hs1 : LL wr w.heap.size s (tr.map up) ∧ tr.length ≤ 1000000 ∧ ndN tr ≤ 1000000 := hs0
      obtain ⟨Au, cu, rfl, -, -, -⟩ := hu1.1.rows.open_
      obtain ⟨vst, hvt, hrt⟩ := hs1.1
      have hlt' : vst.length = tr.length := by rw [hrt.1, List.length_map]
      obtain ⟨As, cs, rfl, -, -⟩ := hvt.cells.open_
      simp only [List.length_map] at hcy hu0
      obtain ⟨go, cg, heo, hg0⟩ := ho2.cell (j := 0) hcy rfl
      simp only [Value.slice.injEq] at heo
      obtain ⟨rfl, -, rfl⟩ := heo
      have hq0 : wr.cell? ⟨go, i * 3, none⟩ = some (.slice Au cr.length cu) := hg0
      have hq1 : wr.cell? ⟨go, i * 3 + 1, none⟩ = some (.slice As vst.length cs) := by obtain ⟨g', c', he', h'⟩ := ho2.cell (j := 1) hcy rfl; simp only [Value.slice.injEq, Option.some.injEq, Addr.mk.injEq, and_true, true_and] at he'; rw [he'.1]; exact h'
      have hq2 : wr.cell? ⟨go, i * 3 + 2, none⟩ = some (.int .i64 (n : Nat)) := by obtain ⟨g', c', he', h'⟩ := ho2.cell (j := 2) hcy rfl; simp only [Value.slice.injEq, Option.some.injEq, Addr.mk.injEq, and_true, true_and] at he'; rw [he'.1]; exact h'
      have HTS := Lib.hid (show (L.take (i + 1)).map cutU = (L.take i).map cutU ++ [((cr, tr.headD []), n)] from by rw [List.take_add_one, hy, List.map_append]; rfl)
      have HUF := Lib.hid (show fldF.P wr w.heap.size (.slice Au cr.length cu) cr from hu0)
      have hii : (i : Int) < (css2.length : Int) := by omega
      clear hu0 hs0 hu1 hs1 hg0 hcy hy ho2 he2 ho3 hce3 hg3 hn
      cases vst with
      | nil =>
        have htr : tr = [] := List.eq_nil_of_length_eq_zero (by simpa using hlt'.symm)
        subst htr
        clear hvt hrt hlt'
        go_upto_region 8 with fail
        have HBW0 := Lib.hid (show Below wr.heap.size wr (((wr.alloc (.cells #[.slice Au cr.length cu, .slice As 0 cs, .int .i64 n] tSp)).alloc (.cells #[.slice Au cr.length cu, .slice none 0 0, .int .i64 n] tCu)).alloc (.cells #[.slice Au cr.length cu, .slice none 0 0, .int .i64 n] tCu)) from ((below1 wr _).trans ((below1 _ _).mono (by simp))).trans ((below1 _ _).mono (by simp; omega)))
        go_wp2_with (at_builtin; go_loud (refine wpList_app1K T_cut (ad := ⟨wr.heap.size + 2, 0, none⟩) (W := (((wr.alloc (.cells #[.slice Au cr.length cu, .slice As 0 cs, .int .i64 n] tSp)).alloc (.cells #[.slice Au cr.length cu, .slice none 0 0, .int .i64 n] tCu)).alloc (.cells #[.slice Au cr.length cu, .slice none 0 0, .int .i64 n] tCu))) (c := [.slice Au cr.length cu, .slice none 0 0, .int .i64 (n : Nat)]) (HO3.out.below HBW0.out) (by omega) (Nat.le_trans HB3.out.size HBW0.out.size) rfl (by intro u hu; simp at hu; rcases hu with rfl | rfl | rfl <;> rfl) (fun j u hu => by have h := lit_cells ((wr.alloc (.cells #[.slice Au cr.length cu, .slice As 0 cs, .int .i64 n] tSp)).alloc (.cells #[.slice Au cr.length cu, .slice none 0 0, .int .i64 n] tCu)) tCu [.slice Au cr.length cu, .slice none 0 0, .int .i64 (n : Nat)] #[.slice Au cr.length cu, .slice none 0 0, .int .i64 n] rfl j u hu; rw [size_alloc', size_alloc'] at h; exact h) (by rfl) rfl (by rfl) (by rfl) ?_; intro v5 w5 hown5 hgr5; have HN5 := Lib.hid hown5; have HG5 := Lib.hid hgr5; clear hown5 hgr5))
        go_roundw
        case rel =>
          refine ⟨i + 1, _, by omega, by go_num, HN5.out, ?_, HG3.out.trans (Grow.pre HBW0.out HG5.out)⟩
          rw [HTS.out]
          exact ((HCE3.out.below HBW0.out).snoc (x := ((cr, []), n)) ⟨_, _, rfl, fldF.below HUF.out HBW0.out, OwnInts.nil _ _ _⟩).kept HG5.out.1 (HO3.out.below HBW0.out).bt (by decide) (by decide)
        case measure => simp [intOf]; omega
      | cons u1 vst =>
        obtain ⟨t1, tr, rfl⟩ : ∃ t1 l, tr = t1 :: l := by
          cases tr with
          | nil => simp at hlt'
          | cons a l => exact ⟨a, l, rfl⟩
        obtain ⟨gs, hgs⟩ : ∃ gs, As = some ⟨gs, 0, none⟩ := by
          rcases hvt.cases with ⟨-, h⟩ | ⟨g, cap, cur, he, -⟩
          · simp at h
          · injection he with h1; exact ⟨g, h1⟩
        subst hgs
        have ht1 : OwnInts wr w.heap.size tI u1 (up t1) := hrt.2 0 u1 (up t1) rfl rfl
        obtain ⟨A7, c7, he7, -, -, -⟩ := ht1.ints.open_
        rw [up_len] at he7
        subst he7
        have HT1 := Lib.hid ht1
        have HVT := Lib.hid hvt
        have hv0 : ∀ o o', ((wr.alloc o).alloc o').cell? ⟨gs, 0, none⟩ = some (.slice A7 t1.length c7) := fun o o' => by
          have hb : Below wr.heap.size wr ((wr.alloc o).alloc o') := (below1 wr o).trans ((below1 _ _).mono (by simp))
          obtain ⟨ad, n', c', he, h⟩ := (HVT.out.below hb).cells.at_ (k := 0) rfl
          simp only [Value.slice.injEq, Option.some.injEq] at he
          rw [← he.1] at h
          exact h
        clear hvt hrt hlt' ht1
        go_upto_region 8 with fail
        have HBW0 := Lib.hid (show Below wr.heap.size wr (((wr.alloc (.cells #[.slice Au cr.length cu, .slice (some ⟨gs, 0, none⟩) (vst.length + 1) cs, .int .i64 n] tSp)).alloc (.cells #[.slice Au cr.length cu, .slice A7 t1.length c7, .int .i64 n] tCu)).alloc (.cells #[.slice Au cr.length cu, .slice A7 t1.length c7, .int .i64 n] tCu)) from ((below1 wr _).trans ((below1 _ _).mono (by simp))).trans ((below1 _ _).mono (by simp; omega)))
        go_wp2_with (at_builtin; go_loud (refine wpList_app1K T_cut (ad := ⟨wr.heap.size + 2, 0, none⟩) (W := (((wr.alloc (.cells #[.slice Au cr.length cu, .slice (some ⟨gs, 0, none⟩) (vst.length + 1) cs, .int .i64 n] tSp)).alloc (.cells #[.slice Au cr.length cu, .slice A7 t1.length c7, .int .i64 n] tCu)).alloc (.cells #[.slice Au cr.length cu, .slice A7 t1.length c7, .int .i64 n] tCu))) (c := [.slice Au cr.length cu, .slice A7 t1.length c7, .int .i64 (n : Nat)]) (HO3.out.below HBW0.out) (by omega) (Nat.le_trans HB3.out.size HBW0.out.size) rfl (by intro u hu; simp at hu; rcases hu with rfl | rfl | rfl <;> rfl) (fun j u hu => by have h := lit_cells ((wr.alloc (.cells #[.slice Au cr.length cu, .slice (some ⟨gs, 0, none⟩) (vst.length + 1) cs, .int .i64 n] tSp)).alloc (.cells #[.slice Au cr.length cu, .slice A7 t1.length c7, .int .i64 n] tCu)) tCu [.slice Au cr.length cu, .slice A7 t1.length c7, .int .i64 (n : Nat)] #[.slice Au cr.length cu, .slice A7 t1.length c7, .int .i64 n] rfl j u hu; rw [size_alloc', size_alloc'] at h; exact h) (by rfl) rfl (by rfl) (by rfl) ?_; intro v5 w5 hown5 hgr5; have HN5 := Lib.hid hown5; have HG5 := Lib.hid hgr5; clear hown5 hgr5))
        go_roundw
        case rel =>
          refine ⟨i + 1, _, by omega, by go_num, HN5.out, ?_, HG3.out.trans (Grow.pre HBW0.out HG5.out)⟩
          rw [HTS.out]
          exact ((HCE3.out.below HBW0.out).snoc (x := ((cr, t1), n)) ⟨_, _, rfl, fldF.below HUF.out HBW0.out, HT1.out.below HBW0.out⟩).kept HG5.out.1 (HO3.out.below HBW0.out).bt (by decide) (by decide)
        case measure => simp [intOf]; omega
    · have hil : i = css2.length := by omega
      have HTK := Lib.hid (show L.take i = L from List.take_of_length_le (by rw [hil, HCL.out]; exact Nat.le_refl _))
      clear hil
      go_wp2_with fail
      go_ret
      refine ⟨_, rfl, ⟨css3, HO3.out, ?_⟩, HB3.out⟩
      have h := HCE3.out
      rw [HTK.out, HLE.out] at h
      exact h
end Go.Proofs.YtngdpoeondnchaaGreat

set_option maxRecDepth 100000
set_option linter.unusedVariables false
set_option linter.unusedSimpArgs false
namespace Go.Proofs.YtngdpoeondnchaaGreat
open Go.RowKit

theorem idxN_le (xs : List (List Nat)) (t : List Nat) : idxN xs t ≤ xs.length := by
  unfold idxN
  cases h : Nat.blt (bsF xs t xs.length 0 xs.length) xs.length with
  | false => simp
  | true =>
    have := (blt_iff _ _).1 h
    cases eqN (xs.getD (bsF xs t xs.length 0 xs.length) []) t with
    | false => simp
    | true => simp; omega

set_option maxHeartbeats 2000000 in
theorem i_place (w : World) (v tv : Value) (B : Option Addr) (m d : Nat) (xs : List (List Nat)) (t : List Nat) (ha : Rows w v (xs.map up)) (ht : Ints w tv (up t)) (hn : xs.length ≤ 1000) :
    Calls Tryz.prog 112 #[.agg #[v, .slice B m d], tv] w fun e w' => e = .returned (.int .i64 (idxN xs t : Nat)) ∧ w' = w.alloc (.cells #[v, .slice B m d] 57) := by
  have HA := Lib.hid ha
  have HT := Lib.hid ht
  have hI := idxN_le xs t
  obtain ⟨A, c, rfl, -, -, -⟩ := ha.open_
  obtain ⟨At, ct, rfl, -, -, -⟩ := ht.open_
  rw [List.length_map] at HA ⊢
  rw [up_len] at HT ⊢
  have HB := Lib.hid (below1 w (.cells #[.slice A xs.length c, .slice B m d] 57))
  clear ha ht
  go_enter Tryz.func112, Tryz.ntmps112
  go_wp2_with (go_at_call 144; refine (i_indexIn _ _ _ xs t (HA.out.below HB.out) (HT.out.below HB.out) hn).mono ?_; rintro e w1 ⟨rfl, rfl⟩)
  go_ret
  exact ⟨rfl, rfl⟩
end Go.Proofs.YtngdpoeondnchaaGreat

set_option maxRecDepth 100000
set_option linter.unusedVariables false
set_option linter.unusedSimpArgs false
namespace Go.Proofs.YtngdpoeondnchaaGreat
open Go.RowKit

/-- what DeleteFunc has done: the first k are those that stay of the first j; from j on nothing has turned -/
structure DelS (q : List Nat → Bool) (bs xs : List (List Nat)) (vs us : List Value) (k j : Nat) : Prop where
  lenx : xs.length = bs.length
  lenu : us.length = bs.length
  kj : k < j
  jn : j ≤ bs.length
  pre : xs.take k = (bs.take j).filter q
  suf : xs.drop j = bs.drop j
  sub : (us.take k ++ us.drop j).Sublist vs
theorem DelS.at_ {q : List Nat → Bool} {bs xs : List (List Nat)} {vs us : List Value} {k j : Nat} (h : DelS q bs xs vs us k j) (hj : j < bs.length) : xs[j]? = bs[j]? := by
  have := congrArg (fun l => l[0]?) h.suf
  simpa [List.getElem?_drop] using this
theorem DelS.skip {q : List Nat → Bool} {bs xs : List (List Nat)} {vs us : List Value} {k j : Nat} {b : List Nat} (h : DelS q bs xs vs us k j) (hb : bs[j]? = some b) (hq : q b = false) : DelS q bs xs vs us k (j + 1) := by
  have hj := (List.getElem?_eq_some_iff.1 hb).1
  refine ⟨h.lenx, h.lenu, by have := h.kj; omega, hj, ?_, ?_, ?_⟩
  · rw [List.take_add_one, hb, List.filter_append, h.pre]; simp [hq]
  · rw [← List.drop_drop, h.suf, List.drop_drop]
  · refine List.Sublist.trans ?_ h.sub
    have : us.drop j = us[j]'(by rw [h.lenu]; exact hj) :: us.drop (j + 1) := List.drop_eq_getElem_cons _
    rw [this]
    exact List.Sublist.append_left (List.sublist_cons_self _ _) _
theorem DelS.take {q : List Nat → Bool} {bs xs : List (List Nat)} {vs us : List Value} {k j : Nat} {b : List Nat} {u : Value} (h : DelS q bs xs vs us k j) (hb : bs[j]? = some b) (hu : us[j]? = some u) (hq : q b = true) : DelS q bs (xs.set k b) vs (us.set k u) (k + 1) (j + 1) := by
  have hj := (List.getElem?_eq_some_iff.1 hb).1
  have hkj := h.kj
  have hk : k < bs.length := by omega
  refine ⟨by rw [List.length_set]; exact h.lenx, by rw [List.length_set]; exact h.lenu, by omega, hj, ?_, ?_, ?_⟩
  · rw [List.take_add_one, List.getElem?_set_self (by rw [h.lenx]; exact hk), List.take_set_of_le (Nat.le_refl _), h.pre, List.take_add_one, hb, List.filter_append]
    simp [hq]
  · rw [List.drop_set_of_lt (by omega), ← List.drop_drop, h.suf, List.drop_drop]
  · rw [List.take_add_one, List.getElem?_set_self (by rw [h.lenu]; exact hk), List.take_set_of_le (Nat.le_refl _), List.drop_set_of_lt (by omega)]
    have : us.drop j = u :: us.drop (j + 1) := by
      rw [List.drop_eq_getElem_cons (by rw [h.lenu]; exact hj)]
      rw [(List.getElem?_eq_some_iff.1 hu).2]
    have hs := h.sub
    rw [this] at hs
    simpa using hs

end Go.Proofs.YtngdpoeondnchaaGreat

