/- Walk: cutsOf of the program. | Walk: place of the program's forms. | Walks: slices.IndexFunc, slices.DeleteFunc at lists of trees of one's own, with a predicate that may make memory. -/
import Derived.Test.YtdjhfeaimmpmhaaGreatZh17
import Derived.Test.YtdjhfeaimmpmhaaGreatZh11
import Derived.Test.YtdjhfeaimmpmhaaGreatZh7
import Derived.Test.YtdjhfeaimmpmhaaGreatZh8
import Derived.Lib.SliceRun
import Derived.Laws.IdiomCopy
set_option maxRecDepth 100000
set_option linter.unusedVariables false
set_option linter.unusedSimpArgs false
namespace Go.Proofs.YtdjhfeaimmpmhaaGreat
open Go.RowKit

abbrev tCu : TypeId := 118
theorem T_cut : ElemK Tryz.prog 115 118 (.agg #[.slice none 0 0, .slice none 0 0, .int .i64 0]) 3 56 := ⟨Tryz.underlying115, by kernel_rfl, rfl, by omega, by omega⟩
abbrev CU := (List (List Nat) × List Nat) × Nat
abbrev eCu : Elt CU := elt3 fldF fldI
def cutU (x : SP × Nat) : CU := ((x.1.1, x.1.2.headD []), x.2)
/-- the cuts of a tree -/
def cutsU (r : List SP) : List CU := (grpL cmpS (srtS ltS (r.map normS))).map cutU

set_option maxHeartbeats 16000000 in
theorem i_cutsOf (w : World) (v : Value) (t : List Nat) (r : List SP) (ha : Ints w v (up t)) (hr : splV 9 t = some r) (hok : okLs r = true) :
    Calls Tryz.prog 127 #[v] w fun e w' => ∃ x, e = .returned x ∧ SLs eCu tCu w' w.heap.size x (cutsU r) ∧ Below w.heap.size w w' := by
  have HA := Lib.hid ha
  have HR := Lib.hid hr
  have HOK := Lib.hid (okLs_of hok)
  obtain ⟨A, c, rfl, -, -, -⟩ := ha.open_
  rw [up_len] at HA ⊢
  have OL := Lib.hid (show OwnK (w.alloc (.cells #[] tCu)) w.heap.size tCu 3 (.slice (some ⟨w.heap.size, 0, none⟩) 0 0) [] from OwnK.lit w tCu 3 [] (fun c hc => by simp at hc) (by simp [maxLen]) #[] rfl)
  clear ha hr hok
  go_enter Tryz.func127, Tryz.ntmps127
  go_wp2_with (first
    | (go_at_call 177; go_loud (refine (i_splitTree 9 _ _ t r (HA.out.below (below1 w _)) HR.out).mono ?_; rintro e w1 ⟨x1, rfl, hx1, hb1⟩; have HX1 := Lib.hid hx1; have HB1 := Lib.hid hb1; clear hx1 hb1))
    | (go_at_call 176; go_loud (obtain ⟨css1, ho1, he1⟩ := HX1.out; refine (i_gathered _ (w.alloc (.cells #[] tCu)).heap.size _ css1 (r.map cz) ho1 he1 HB1.out.size (by rw [List.length_map]; have := HOK.out.1; omega) (fun x hx => by obtain ⟨s, hs, rfl⟩ := List.mem_map.1 hx; exact (HOK.out.2 s hs).1)).mono ?_; rintro e w2 ⟨x2, rfl, hx2, hb2⟩; clear ho1 he1; obtain ⟨css2, ho2, he2⟩ := hx2; obtain ⟨A2, c2, rfl, -, -⟩ := ho2.open_; have HO2 := Lib.hid ho2; have HE2 := Lib.hid he2; have HB2 := Lib.hid (HB1.out.trans hb2); clear ho2 he2 hb2)))
  obtain ⟨L, hL⟩ : ∃ L, L = grpL cmpS (srtS ltS (r.map normS)) := ⟨_, rfl⟩
  have hLL : L.length ≤ 500 ∧ ∀ x ∈ L, x.2 ≤ 500 := by
    have h1 := (srtSF_perm (lt := ltS) [] (r.map normS)).length_eq
    have h2 := grpL_len cmpS (srtS ltS (r.map normS)) _ (Nat.le_refl _)
    rw [List.take_length, ← hL] at h2
    have h3 : (srtS ltS (r.map normS)).length = r.length := by simpa [srtS] using h1
    rw [h3] at h2
    have := HOK.out.1
    exact ⟨by omega, fun x hx => by have := h2.2 x hx; omega⟩
  have he2 : Elts eSc w2 (w.alloc (.cells #[] tCu)).heap.size css2 L := by
    have h := HE2.out
    rw [List.map_map] at h
    rw [hL]; exact h
  have hcl := he2.1
  have HCL := Lib.hid hcl
  have HLL := Lib.hid hLL
  have HLE := Lib.hid hL
  have HE2 := Lib.hid (he2.mono (show w.heap.size ≤ _ from by simp))
  have HBW := Lib.hid (show Below w.heap.size w w2 from (below1 w _).trans (HB2.out.mono (by simp)))
  have OL2 := Lib.hid (show OwnK w2 w.heap.size tCu 3 (.slice (some ⟨w.heap.size, 0, none⟩) 0 0) [] from OL.out.below HB2.out)
  have hc5 : css2.length ≤ 500 := by rw [hcl]; exact hLL.1
  clear hL hLL he2 hcl
  go_wp2_with fail
  go_loopw [3, 12] (fun o x wr => ∃ (i : Nat) (css3 : List (List Value)), i ≤ css2.length ∧ x = .int .i64 i ∧ OwnK wr w.heap.size tCu 3 o css3 ∧ Elts eCu wr w.heap.size css3 ((L.take i).map cutU) ∧ Grow w2 wr (.slice (some ⟨w.heap.size, 0, none⟩) 0 0) o) (fun _ x _ => css2.length - (intOf x).toNat)
  case atStart => exact ⟨0, [], Nat.zero_le _, rfl, OL2.out, Elts.nil _ _ _, Grow.refl _ _⟩
  case round =>
    obtain ⟨i, css3, hi, rfl, ho3, hce3, hg3⟩ := hrel
    have HO3 := Lib.hid ho3
    have HCE3 := Lib.hid hce3
    have HG3 := Lib.hid hg3
    have HB3 := Lib.hid (hg3.below HBW.out HBW.out.size (OL2.out.ge))
    have hcl3 : css3.length ≤ 500 := by rw [hce3.1, List.length_map, List.length_take]; omega
    by_cases hlt : i < css2.length
    · obtain ⟨⟨⟨cr, tr⟩, n⟩, hy⟩ : ∃ y, L[i]? = some y := ⟨_, List.getElem?_eq_getElem (by rw [← HCL.out]; exact hlt)⟩
      have hn := HLL.out.2 _ (List.mem_of_getElem? hy)
      have ho2 := HO2.out.kept hg3.1 (HO2.out.bt.ne OL2.out.bt (by decide))
      have he2 := HE2.out.kept hg3.1 OL2.out.bt (by decide) (by decide)
      obtain ⟨cy, hcy, hD⟩ := he2.at_ hy
      obtain ⟨u, s, rfl, hu0, hs0⟩ := hD
      have hu1 : LL wr w.heap.size u (cr.map up) ∧ cr.length ≤ 1000000 ∧ ndN cr ≤ 1000000 := hu0
      have hs1 : LL wr w.heap.size s (tr.map up) ∧ tr.length ≤ 1000000 ∧ ndN tr ≤ 1000000 := hs0
      obtain ⟨Au, cu, rfl, -, -, -⟩ := hu1.1.rows.open_
      obtain ⟨vst, hvt, hrt⟩ := hs1.1
      have hlt' : vst.length = tr.length := by rw [hrt.1, List.length_map]
      obtain ⟨As, cs, rfl, -, -⟩ := hvt.cells.open_
      simp only [List.length_map] at hcy hu0
      obtain ⟨go, cg, heo, hg0⟩ := ho2.cell (j := 0) hcy rfl
      simp only [Value.slice.injEq] at heo
      obtain ⟨rfl, -, rfl⟩ := heo
      have hq0 : wr.cell? ⟨go, i * 3, none⟩ = some (.slice Au cr.length cu) := hg0
      have hq1 : wr.cell? ⟨go, i * 3 + 1, none⟩ = some (.slice As vst.length cs) := by obtain ⟨g', c', he', h'⟩ := ho2.cell (j := 1) hcy rfl; simp only [Value.slice.injEq, Option.some.injEq, Addr.mk.injEq, and_true, true_and] at he'; rw [he'.1]; exact h'
      have hq2 : wr.cell? ⟨go, i * 3 + 2, none⟩ = some (.int .i64 (n : Nat)) := by obtain ⟨g', c', he', h'⟩ := ho2.cell (j := 2) hcy rfl; simp only [Value.slice.injEq, Option.some.injEq, Addr.mk.injEq, and_true, true_and] at he'; rw [he'.1]; exact h'
      have HTS := Lib.hid (show (L.take (i + 1)).map cutU = (L.take i).map cutU ++ [((cr, tr.headD []), n)] from by rw [List.take_add_one, hy, List.map_append]; rfl)
      have HUF := Lib.hid (show fldF.P wr w.heap.size (.slice Au cr.length cu) cr from hu0)
      have hii : (i : Int) < (css2.length : Int) := by omega
      clear hu0 hs0 hu1 hs1 hg0 hcy hy ho2 he2 ho3 hce3 hg3 hn
      cases vst with
      | nil =>
        have htr : tr = [] := List.eq_nil_of_length_eq_zero (by simpa using hlt'.symm)
        subst htr
        clear hvt hrt hlt'
        go_upto_region 8 with fail
        have HBW0 := Lib.hid (show Below wr.heap.size wr (((wr.alloc (.cells #[.slice Au cr.length cu, .slice As 0 cs, .int .i64 n] tSp)).alloc (.cells #[.slice Au cr.length cu, .slice none 0 0, .int .i64 n] tCu)).alloc (.cells #[.slice Au cr.length cu, .slice none 0 0, .int .i64 n] tCu)) from ((below1 wr _).trans ((below1 _ _).mono (by simp))).trans ((below1 _ _).mono (by simp; omega)))
        go_wp2_with (at_builtin; go_loud (refine wpList_app1K T_cut (ad := ⟨wr.heap.size + 2, 0, none⟩) (W := (((wr.alloc (.cells #[.slice Au cr.length cu, .slice As 0 cs, .int .i64 n] tSp)).alloc (.cells #[.slice Au cr.length cu, .slice none 0 0, .int .i64 n] tCu)).alloc (.cells #[.slice Au cr.length cu, .slice none 0 0, .int .i64 n] tCu))) (c := [.slice Au cr.length cu, .slice none 0 0, .int .i64 (n : Nat)]) (HO3.out.below HBW0.out) (by omega) (Nat.le_trans HB3.out.size HBW0.out.size) rfl (by intro u hu; simp at hu; rcases hu with rfl | rfl | rfl <;> rfl) (fun j u hu => by have h := lit_cells ((wr.alloc (.cells #[.slice Au cr.length cu, .slice As 0 cs, .int .i64 n] tSp)).alloc (.cells #[.slice Au cr.length cu, .slice none 0 0, .int .i64 n] tCu)) tCu [.slice Au cr.length cu, .slice none 0 0, .int .i64 (n : Nat)] #[.slice Au cr.length cu, .slice none 0 0, .int .i64 n] rfl j u hu; rw [size_alloc', size_alloc'] at h; exact h) (by rfl) rfl (by rfl) (by rfl) ?_; intro v5 w5 hown5 hgr5; have HN5 := Lib.hid hown5; have HG5 := Lib.hid hgr5; clear hown5 hgr5))
        go_roundw
        case rel =>
          refine ⟨i + 1, _, by omega, by go_num, HN5.out, ?_, HG3.out.trans (Grow.pre HBW0.out HG5.out)⟩
          rw [HTS.out]
          exact ((HCE3.out.below HBW0.out).snoc (x := ((cr, []), n)) ⟨_, _, rfl, fldF.below HUF.out HBW0.out, OwnInts.nil _ _ _⟩).kept HG5.out.1 (HO3.out.below HBW0.out).bt (by decide) (by decide)
        case measure => simp [intOf]; omega
      | cons u1 vst =>
        obtain ⟨t1, tr, rfl⟩ : ∃ t1 l, tr = t1 :: l := by
          cases tr with
          | nil => simp at hlt'
          | cons a l => exact ⟨a, l, rfl⟩
        obtain ⟨gs, hgs⟩ : ∃ gs, As = some ⟨gs, 0, none⟩ := by
          rcases hvt.cases with ⟨-, h⟩ | ⟨g, cap, cur, he, -⟩
          · simp at h
          · injection he with h1; exact ⟨g, h1⟩
        subst hgs
        have ht1 : OwnInts wr w.heap.size tI u1 (up t1) := hrt.2 0 u1 (up t1) rfl rfl
        obtain ⟨A7, c7, he7, -, -, -⟩ := ht1.ints.open_
        rw [up_len] at he7
        subst he7
        have HT1 := Lib.hid ht1
        have HVT := Lib.hid hvt
        have hv0 : ∀ o o', ((wr.alloc o).alloc o').cell? ⟨gs, 0, none⟩ = some (.slice A7 t1.length c7) := fun o o' => by
          have hb : Below wr.heap.size wr ((wr.alloc o).alloc o') := (below1 wr o).trans ((below1 _ _).mono (by simp))
          obtain ⟨ad, n', c', he, h⟩ := (HVT.out.below hb).cells.at_ (k := 0) rfl
          simp only [Value.slice.injEq, Option.some.injEq] at he
          rw [← he.1] at h
          exact h
        clear hvt hrt hlt' ht1
        go_upto_region 8 with fail
        have HBW0 := Lib.hid (show Below wr.heap.size wr (((wr.alloc (.cells #[.slice Au cr.length cu, .slice (some ⟨gs, 0, none⟩) (vst.length + 1) cs, .int .i64 n] tSp)).alloc (.cells #[.slice Au cr.length cu, .slice A7 t1.length c7, .int .i64 n] tCu)).alloc (.cells #[.slice Au cr.length cu, .slice A7 t1.length c7, .int .i64 n] tCu)) from ((below1 wr _).trans ((below1 _ _).mono (by simp))).trans ((below1 _ _).mono (by simp; omega)))
        go_wp2_with (at_builtin; go_loud (refine wpList_app1K T_cut (ad := ⟨wr.heap.size + 2, 0, none⟩) (W := (((wr.alloc (.cells #[.slice Au cr.length cu, .slice (some ⟨gs, 0, none⟩) (vst.length + 1) cs, .int .i64 n] tSp)).alloc (.cells #[.slice Au cr.length cu, .slice A7 t1.length c7, .int .i64 n] tCu)).alloc (.cells #[.slice Au cr.length cu, .slice A7 t1.length c7, .int .i64 n] tCu))) (c := [.slice Au cr.length cu, .slice A7 t1.length c7, .int .i64 (n : Nat)]) (HO3.out.below HBW0.out) (by omega) (Nat.le_trans HB3.out.size HBW0.out.size) rfl (by intro u hu; simp at hu; rcases hu with rfl | rfl | rfl <;> rfl) (fun j u hu => by have h := lit_cells ((wr.alloc (.cells #[.slice Au cr.length cu, .slice (some ⟨gs, 0, none⟩) (vst.length + 1) cs, .int .i64 n] tSp)).alloc (.cells #[.slice Au cr.length cu, .slice A7 t1.length c7, .int .i64 n] tCu)) tCu [.slice Au cr.length cu, .slice A7 t1.length c7, .int .i64 (n : Nat)] #[.slice Au cr.length cu, .slice A7 t1.length c7, .int .i64 n] rfl j u hu; rw [size_alloc', size_alloc'] at h; exact h) (by rfl) rfl (by rfl) (by rfl) ?_; intro v5 w5 hown5 hgr5; have HN5 := Lib.hid hown5; have HG5 := Lib.hid hgr5; clear hown5 hgr5))
        go_roundw
        case rel =>
          refine ⟨i + 1, _, by omega, by go_num, HN5.out, ?_, HG3.out.trans (Grow.pre HBW0.out HG5.out)⟩
          rw [HTS.out]
          exact ((HCE3.out.below HBW0.out).snoc (x := ((cr, t1), n)) ⟨_, _, rfl, fldF.below HUF.out HBW0.out, HT1.out.below HBW0.out⟩).kept HG5.out.1 (HO3.out.below HBW0.out).bt (by decide) (by decide)
        case measure => simp [intOf]; omega
    · have hil : i = css2.length := by omega
      have HTK := Lib.hid (show L.take i = L from List.take_of_length_le (by rw [hil, HCL.out]; exact Nat.le_refl _))
      clear hil
      go_wp2_with fail
      go_ret
      refine ⟨_, rfl, ⟨css3, HO3.out, ?_⟩, HB3.out⟩
      have h := HCE3.out
      rw [HTK.out, HLE.out] at h
      exact h
end Go.Proofs.YtdjhfeaimmpmhaaGreat

set_option maxRecDepth 100000
set_option linter.unusedVariables false
set_option linter.unusedSimpArgs false
namespace Go.Proofs.YtdjhfeaimmpmhaaGreat
open Go.RowKit

theorem idxN_le (xs : List (List Nat)) (t : List Nat) : idxN xs t ≤ xs.length := by
  unfold idxN
  cases h : Nat.blt (bsF xs t xs.length 0 xs.length) xs.length with
  | false => simp
  | true =>
    have := (blt_iff _ _).1 h
    cases eqN (xs.getD (bsF xs t xs.length 0 xs.length) []) t with
    | false => simp
    | true => simp; omega

set_option maxHeartbeats 2000000 in
theorem i_place (w : World) (v tv : Value) (B : Option Addr) (m d : Nat) (xs : List (List Nat)) (t : List Nat) (ha : Rows w v (xs.map up)) (ht : Ints w tv (up t)) (hn : xs.length ≤ 1000) :
    Calls Tryz.prog 66 #[.agg #[v, .slice B m d], tv] w fun e w' => e = .returned (.int .i64 (idxN xs t : Nat)) ∧ w' = w.alloc (.cells #[v, .slice B m d] 71) := by
  have HA := Lib.hid ha
  have HT := Lib.hid ht
  have hI := idxN_le xs t
  obtain ⟨A, c, rfl, -, -, -⟩ := ha.open_
  obtain ⟨At, ct, rfl, -, -, -⟩ := ht.open_
  rw [List.length_map] at HA ⊢
  rw [up_len] at HT ⊢
  have HB := Lib.hid (below1 w (.cells #[.slice A xs.length c, .slice B m d] 71))
  clear ha ht
  go_enter Tryz.func66, Tryz.ntmps66
  go_wp2_with (go_at_call 57; refine (i_indexIn _ _ _ xs t (HA.out.below HB.out) (HT.out.below HB.out) hn).mono ?_; rintro e w1 ⟨rfl, rfl⟩)
  go_ret
  exact ⟨rfl, rfl⟩
end Go.Proofs.YtdjhfeaimmpmhaaGreat

set_option maxRecDepth 100000
set_option linter.unusedVariables false
set_option linter.unusedSimpArgs false
namespace Go.Proofs.YtdjhfeaimmpmhaaGreat
open Go.RowKit

/-- a predicate on trees -/
def PredT (F : Nat) (p : List Nat → Bool) (bs : List (List Nat)) : Prop :=
  ∀ (W : World) (u : Value) (q : List Nat), q ∈ bs → Ints W u (up q) → Calls Tryz.prog F #[u] W fun e w' => e = .returned (.bool (p q)) ∧ Below W.heap.size W w'

theorem lib_IndexTrees (w : World) (v : Value) (bs : List (List Nat)) (g : Nat) (p : List Nat → Bool) (ha : Rows w v (bs.map up))
    (hcf : ∀ (args : Array Value) (w : World), Sem.run Tryz.prog (callFunc g args) w = .ok (.enter g args) w) (hp : PredT g p bs) :
    Calls Tryz.prog 196 #[v, .func (.func g) #[] #[]] w fun e w' => e = .returned (.int .i64 (idxF p bs)) ∧ Below w.heap.size w w' := by
  obtain ⟨A, c, rfl, h1, h2, h3⟩ := ha.open_
  rw [List.length_map] at h1 h3 ⊢
  clear ha
  have H3 := Lib.hid h3
  have HP := Lib.hid hp
  clear h3 hp
  go_enter Tryz.func196, Tryz.ntmps196
  go_wp2_with fail
  go_loopw [8] (fun i wr => ∃ k : Nat, k ≤ bs.length ∧ i = .int .i64 k ∧ Hid (∀ i y, i < k → bs[i]? = some y → p y = false) ∧ Below w.heap.size w wr) (fun i _ => bs.length - (intOf i).toNat)
  case atStart => exact ⟨0, Nat.zero_le _, rfl, fun i y h => by omega, Below.refl _ _⟩
  case round =>
    obtain ⟨k, hk, rfl, hI, hb⟩ := hrel
    have HB := Lib.hid hb
    clear hb
    by_cases hlt : k < bs.length
    · obtain ⟨ad, u, zs, rfl, hz, hu, hc0⟩ := H3.out k hlt
      have hc : wr.cell? (ad.add k) = some u := by
        rw [HB.out.cell (by rw [block_add]; have := World.block_lt_of_cell? w _ hc0; rwa [block_add] at this)]; exact hc0
      have hbk : bs[k]? = some (bs[k]'hlt) := List.getElem?_eq_getElem _
      have hzb : zs = up (bs[k]'hlt) := by rw [List.getElem?_map, hbk] at hz; injection hz with hz; exact hz.symm
      subst hzb
      have HZ := Lib.hid hbk
      have HQ := Lib.hid (HP.out wr u _ (List.mem_of_getElem? hbk) (hu.below HB.out))
      generalize bs[k]'hlt = q at HZ HQ
      clear hz hu hc0 hbk
      go_wp2_with fail
      refine HQ.out.mono ?_
      rintro e w' ⟨rfl, hb2⟩
      have HB2 := Lib.hid (HB.out.trans (hb2.mono HB.out.size))
      clear hb2 hc
      go_wp2_with fail
      · have hpz : p q = true := by assumption
        go_ret
        exact ⟨ret_int (idxF_hit hI.out HZ.out hpz).symm, HB2.out⟩
      · have hpz : p q = false := by assumption
        go_roundw
        case rel =>
          refine ⟨k + 1, by omega, by go_num, fun i y hi hy => ?_, HB2.out⟩
          by_cases e : i = k
          · subst e
            rw [HZ.out] at hy
            cases hy
            exact hpz
          · exact hI.out i y (by omega) hy
        case measure => simp [intOf]; omega
    · have : k = bs.length := by omega
      subst this
      go_wp2_with fail
      go_ret
      exact ⟨ret_int (idxF_miss fun i y hi hy => hI.out i y hi hy).symm, HB.out⟩

/- PLAIN -/
theorem idxF_cases {α : Type} (p : α → Bool) (l : List α) : (idxF p l = -1 ∧ ∀ x ∈ l, p x = false) ∨ ∃ (i : Nat) (x : α), idxF p l = (i : Int) ∧ l[i]? = some x ∧ p x = true ∧ ∀ (j : Nat) (y : α), j < i → l[j]? = some y → p y = false := by
  unfold idxF
  cases h : l.findIdx? p with
  | none =>
    left
    refine ⟨rfl, fun x hx => ?_⟩
    have := List.findIdx?_eq_none_iff.1 h x hx
    simpa using this
  | some i =>
    right
    obtain ⟨hi, h1, h2⟩ := List.findIdx?_eq_some_iff_getElem.1 h
    refine ⟨i, l[i], rfl, List.getElem?_eq_getElem _, h1, fun j y hj hy => ?_⟩
    have := h2 j hj
    obtain ⟨hjl, rfl⟩ := List.getElem?_eq_some_iff.1 hy
    simpa using this

/-- what DeleteFunc has done: the first k are those that stay of the first j; from j on nothing has turned -/
structure DelS (q : List Nat → Bool) (bs xs : List (List Nat)) (vs us : List Value) (k j : Nat) : Prop where
  lenx : xs.length = bs.length
  lenu : us.length = bs.length
  kj : k < j
  jn : j ≤ bs.length
  pre : xs.take k = (bs.take j).filter q
  suf : xs.drop j = bs.drop j
  sub : (us.take k ++ us.drop j).Sublist vs
theorem DelS.at_ {q : List Nat → Bool} {bs xs : List (List Nat)} {vs us : List Value} {k j : Nat} (h : DelS q bs xs vs us k j) (hj : j < bs.length) : xs[j]? = bs[j]? := by
  have := congrArg (fun l => l[0]?) h.suf
  simpa [List.getElem?_drop] using this
theorem DelS.skip {q : List Nat → Bool} {bs xs : List (List Nat)} {vs us : List Value} {k j : Nat} {b : List Nat} (h : DelS q bs xs vs us k j) (hb : bs[j]? = some b) (hq : q b = false) : DelS q bs xs vs us k (j + 1) := by
  have hj := (List.getElem?_eq_some_iff.1 hb).1
  refine ⟨h.lenx, h.lenu, by have := h.kj; omega, hj, ?_, ?_, ?_⟩
  · rw [List.take_add_one, hb, List.filter_append, h.pre]; simp [hq]
  · rw [← List.drop_drop, h.suf, List.drop_drop]
  · refine List.Sublist.trans ?_ h.sub
    have : us.drop j = us[j]'(by rw [h.lenu]; exact hj) :: us.drop (j + 1) := List.drop_eq_getElem_cons _
    rw [this]
    exact List.Sublist.append_left (List.sublist_cons_self _ _) _
theorem DelS.take {q : List Nat → Bool} {bs xs : List (List Nat)} {vs us : List Value} {k j : Nat} {b : List Nat} {u : Value} (h : DelS q bs xs vs us k j) (hb : bs[j]? = some b) (hu : us[j]? = some u) (hq : q b = true) : DelS q bs (xs.set k b) vs (us.set k u) (k + 1) (j + 1) := by
  have hj := (List.getElem?_eq_some_iff.1 hb).1
  have hkj := h.kj
  have hk : k < bs.length := by omega
  refine ⟨by rw [List.length_set]; exact h.lenx, by rw [List.length_set]; exact h.lenu, by omega, hj, ?_, ?_, ?_⟩
  · rw [List.take_add_one, List.getElem?_set_self (by rw [h.lenx]; exact hk), List.take_set_of_le (Nat.le_refl _), h.pre, List.take_add_one, hb, List.filter_append]
    simp [hq]
  · rw [List.drop_set_of_lt (by omega), ← List.drop_drop, h.suf, List.drop_drop]
  · rw [List.take_add_one, List.getElem?_set_self (by rw [h.lenu]; exact hk), List.take_set_of_le (Nat.le_refl _), List.drop_set_of_lt (by omega)]
    have : us.drop j = u :: us.drop (j + 1) := by
      rw [List.drop_eq_getElem_cons (by rw [h.lenu]; exact hj)]
      rw [(List.getElem?_eq_some_iff.1 hu).2]
    have hs := h.sub
    rw [this] at hs
    simpa using hs

theorem own_prefix {w : World} {B : Nat} {e : TypeId} {g cap k : Nat} {vs : List Value} (h : Own w B e (.slice (some ⟨g, 0, none⟩) vs.length cap) vs) (hk : k ≤ vs.length) : Own w B e (.slice (some ⟨g, 0, none⟩) k cap) (vs.take k) := by
  rcases h.cases with ⟨he, _⟩ | ⟨g', cap', cur, he, h1, h2, h3, h4, h5, h6, h7⟩
  · cases he
  simp only [Value.slice.injEq, Option.some.injEq, Addr.mk.injEq, and_true, true_and] at he
  obtain ⟨rfl, rfl⟩ := he
  have hl : (vs.take k).length = k := by rw [List.length_take]; omega
  unfold Own
  rw [hl]
  refine ⟨by rw [hl]; omega, .inr ⟨g, cap, cur, rfl, h1, h3, by omega, h5, by simpa using h6, ?_⟩⟩
  rw [Nat.mul_one, ← h7, List.take_take, Nat.min_eq_left hk]
/-- the cells behind k are cleared -/
theorem own_cleared {B : Nat} {e : TypeId} {g cap : Nat} : ∀ (zs : List Value) (o : Nat) (w : World) (vs : List Value), Own w B e (.slice (some ⟨g, 0, none⟩) vs.length cap) vs → o + zs.length ≤ vs.length →
    ∃ vs', vs'.length = vs.length ∧ vs'.take o = vs.take o ∧ Own (w.setCells g o zs) B e (.slice (some ⟨g, 0, none⟩) vs.length cap) vs' ∧ w.grownBy (w.setCells g o zs) (some g)
  | [], o, w, vs, h, _ => ⟨vs, rfl, rfl, h, World.grownBy.refl _ _⟩
  | z :: zs, o, w, vs, h, hl => by
    simp at hl
    obtain ⟨u0, -, -, -, -, -, h1, hg⟩ := h.storeAt (k := o) (by omega) z
    have e1 : (vs.set o z).length = vs.length := List.length_set
    rw [← e1] at h1
    obtain ⟨vs', h2, h3, h4, h5⟩ := own_cleared zs (o + 1) _ _ h1 (by rw [e1]; omega)
    refine ⟨vs', by rw [h2, e1], ?_, by rw [← e1]; exact h4, hg.trans h5⟩
    have := congrArg (List.take o) h3
    rw [List.take_take, List.take_take, Nat.min_eq_left (by omega)] at this
    rw [this, List.take_set_of_le (Nat.le_refl _)]

theorem sliced_from {g k n cap : Nat} (hk : k < cap) : sliced (some ⟨g, 0, none⟩) k n cap 1 = .slice (some ⟨g, k, none⟩) (n - k) (cap - k) := by
  have hne : ¬ cap = k := by omega
  simp [sliced, hne, addr_add]
theorem sliced_to {g k n cap : Nat} (hk : 0 < cap) : sliced (some ⟨g, 0, none⟩) 0 k cap 1 = .slice (some ⟨g, 0, none⟩) k cap := by
  have hne : ¬ cap = 0 := by omega
  simp [sliced, hne, addr_add]

set_option maxHeartbeats 4000000 in
theorem lib_DeleteTrees (w : World) (B : Nat) (v : Value) (bs : List (List Nat)) (F : Nat) (p : List Nat → Bool) (ha : LA w B v (bs.map up)) (hn : bs.length ≤ 1000) (hB : B ≤ w.heap.size)
    (hcf : ∀ (args : Array Value) (w : World), Sem.run Tryz.prog (callFunc F args) w = .ok (.enter F args) w) (hp : PredT F p bs) :
    Calls Tryz.prog 164 #[v, .func (.func F) #[] #[]] w fun e w' => ∃ x, e = .returned x ∧ LA w' B x ((bs.filter fun q => !p q).map up) ∧ Below B w w' := by
  have HP := Lib.hid hp
  obtain ⟨vs, hown, hrr, hap⟩ := ha
  have hvl : vs.length = bs.length := by rw [hrr.1, List.length_map]
  obtain ⟨A, c, rfl, -, -⟩ := hown.cells.open_
  rw [hvl] at hown ⊢
  have HA := Lib.hid (show LA w B (.slice A bs.length c) (bs.map up) from ⟨vs, hown, hrr, hap⟩)
  have hix := lib_IndexTrees w _ bs F p HA.out.rows hcf hp
  rcases idxF_cases p bs with ⟨hi, hall⟩ | ⟨i, b, hi, hb, hpb, hbefore⟩
  · rw [hi] at hix
    have HIX := Lib.hid hix
    have HF := Lib.hid (show (bs.filter fun q => !p q) = bs from List.filter_eq_self.2 fun x hx => by simp [hall x hx])
    rw [HF.out]
    clear hix hi hall hown hrr hap hp hvl
    go_enter Tryz.func164, Tryz.ntmps164
    go_wp2_with (go_at_call 196; refine HIX.out.mono ?_; rintro e w1 ⟨rfl, hb1⟩; have HB1 := Lib.hid hb1; clear hb1)
    go_ret
    exact ⟨_, rfl, HA.out.below HB1.out, HB1.out.mono hB⟩
  · rw [hi] at hix
    have HIX := Lib.hid hix
    have hil := (List.getElem?_eq_some_iff.1 hb).1
    obtain ⟨g, rfl, hcap, hcapm⟩ : ∃ g, A = some ⟨g, 0, none⟩ ∧ bs.length ≤ c ∧ c ≤ 9223372036854775807 := by
      rcases hown.cases with ⟨_, hv⟩ | ⟨g, cap, cur, he, _, _, _, h4, h5, _⟩
      · rw [hv] at hvl; simp at hvl; omega
      · rw [hvl] at he h4
        simp only [Value.slice.injEq] at he
        obtain ⟨rfl, -, rfl⟩ := he
        exact ⟨g, rfl, h4, by simpa [maxLen] using h5⟩
    have HD0 := Lib.hid (show DelS (fun q => !p q) bs bs vs vs i (i + 1) from ⟨rfl, hvl, by omega, hil, by
        rw [List.take_add_one, hb, List.filter_append]
        have : (bs.take i).filter (fun q => !p q) = bs.take i := List.filter_eq_self.2 fun x hx => by
          obtain ⟨j, hj, rfl⟩ := List.getElem_of_mem hx
          have hji : j < i := by rw [List.length_take] at hj; omega
          rw [List.getElem_take]
          simp [hbefore j _ hji (List.getElem?_eq_getElem _)]
        rw [this]; simp [hpb], rfl, by
        have h1 : vs.take i ++ vs.drop (i + 1) = vs.eraseIdx i := by rw [List.eraseIdx_eq_take_drop_succ]
        rw [h1]
        exact List.eraseIdx_sublist _ _⟩)
    have HO := Lib.hid hown
    have HRR := Lib.hid hrr
    have HAP := Lib.hid hap
    have hsl1 : ∀ (k : Nat) (W : World), k < bs.length → (Instr.slice 43 (.slice (some ⟨g, 0, none⟩) bs.length c) (some (.int .i64 (k : Int))) none none).run Tryz.prog W = .ok (.slice (some ⟨g, k, none⟩) (bs.length - k) (c - k)) W := fun k W hk => by
      rw [sl_from Tryz.underlying43 sizeL W _ _ _ k _ rfl (by omega), sliced_from (by omega)]
    have hsl2 : ∀ (k : Nat) (W : World), k < bs.length → (Instr.slice 43 (.slice (some ⟨g, 0, none⟩) bs.length c) none (some (.int .i64 (k : Int))) none).run Tryz.prog W = .ok (.slice (some ⟨g, 0, none⟩) k c) W := fun k W hk => by
      rw [sl_to Tryz.underlying43 sizeL W _ _ _ k _ rfl (by omega), sliced_to (n := bs.length) (by omega)]
    have HS1 := Lib.hid hsl1
    have HS2 := Lib.hid hsl2
    have hw1 : IntKind.i64.wrap ((i : Int) + 1) = (i : Int) + 1 := IntWalk.i64_in _ (by omega)
    have hine : ((i : Int) == -1) = false := by first | (simp; done) | (simp; omega)
    clear hix hi hb hpb hbefore hown hrr hap hsl1 hsl2 hvl hp
    go_enter Tryz.func164, Tryz.ntmps164
    go_wp2_with (go_at_call 196; refine HIX.out.mono ?_; rintro e w1 ⟨rfl, hb1⟩; have HB1 := Lib.hid hb1; clear hb1)
    go_loopw [5, 6] (fun iv jv wr => ∃ (k j : Nat) (xs : List (List Nat)) (us : List Value), iv = .int .i64 k ∧ jv = .int .i64 j ∧ DelS (fun q => !p q) bs xs vs us k j ∧ Own wr B tL (.slice (some ⟨g, 0, none⟩) bs.length c) us ∧ RR wr B us (xs.map up) ∧ Below B w wr) (fun _ jv _ => bs.length - (intOf jv).toNat)
    case atStart => exact ⟨i, i + 1, bs, vs, rfl, by go_num, HD0.out, HO.out.below HB1.out, HRR.out.below HB1.out, HB1.out.mono hB⟩
    case round =>
      obtain ⟨k, j, xs, us, rfl, rfl, hd, ho, hr, hbw⟩ := hrel
      clear HO HRR HD0 hw1 hine
      have HD := Lib.hid hd
      have HO := Lib.hid ho
      have HRR := Lib.hid hr
      have HBW := Lib.hid hbw
      have hkj := hd.kj
      have hjn := hd.jn
      clear hd ho hr hbw
      by_cases hlt : j < bs.length
      · have hbj : bs[j]? = some (bs[j]'hlt) := List.getElem?_eq_getElem _
        have huj : us[j]? = some (us[j]'(by rw [HD.out.lenu]; exact hlt)) := List.getElem?_eq_getElem _
        have hrow := HRR.out.2 j _ (up (bs[j]'hlt)) huj (by rw [List.getElem?_map, HD.out.at_ hlt, hbj]; rfl)
        obtain ⟨u0, hu0, hc, -, -, -, -, -⟩ := HO.out.storeAt (k := j) (by rw [HD.out.lenu]; exact hlt) (.bool true)
        rw [huj] at hu0
        injection hu0 with hu0
        subst hu0
        have HUJ := Lib.hid huj
        have HBJ := Lib.hid hbj
        have HPC := Lib.hid (HP.out wr _ _ (List.mem_of_getElem? hbj) hrow.ints)
        obtain ⟨A5, c5, he5, -, -, -⟩ := hrow.ints.open_
        rw [up_len] at he5
        have HROW := Lib.hid hrow
        generalize us[j]'(by rw [HD.out.lenu]; exact hlt) = u at HUJ hc HPC HROW he5
        generalize bs[j]'hlt = b at HBJ HPC HROW he5
        subst he5
        have hBr : B ≤ wr.heap.size := by have h1 := HO.out.ge g rfl; have h2 := HO.out.lt g rfl; omega
        have hji : (j : Int) < (bs.length : Int) := by omega
        have hki : (k : Int) < (bs.length : Int) := by omega
        have hk0 : (0 : Int) ≤ (k : Int) := by omega
        have hj0 : (0 : Int) ≤ (j : Int) := by omega
        clear hrow huj hbj
        cases hpb : p b with
        | true =>
          rw [hpb] at HPC
          have HNX := Lib.hid (HD.out.skip HBJ.out (by simp [hpb]))
          clear hpb
          go_wp2_with fail
          refine HPC.out.mono ?_
          rintro e w2 ⟨rfl, hb2⟩
          have HB2 := Lib.hid hb2
          clear hb2
          go_wp2_with fail
          go_roundw
          case rel => exact ⟨k, j + 1, xs, us, rfl, by go_num, HNX.out, HO.out.below HB2.out, HRR.out.below HB2.out, HBW.out.trans (HB2.out.mono hBr)⟩
          case measure => simp [intOf]; omega
        | false =>
          rw [hpb] at HPC
          have HNX := Lib.hid (HD.out.take HBJ.out HUJ.out (by simp [hpb]))
          clear hpb
          go_wp2_with fail
          refine HPC.out.mono ?_
          rintro e w2 ⟨rfl, hb2⟩
          obtain ⟨⟨z0, q0⟩, q1, hst, hrs⟩ := RR.store (k := k) (HO.out.below hb2) (HRR.out.below hb2) (by rw [HD.out.lenu]; omega) (HROW.out.below hb2)
          have HST := Lib.hid hst
          have HRS := Lib.hid hrs
          have HB2 := Lib.hid ((HBW.out.trans (hb2.mono hBr)).setCell (p := ⟨g, k, none⟩) (HO.out.ge g rfl) (.slice A5 b.length c5))
          clear hb2 hst hrs
          go_wp2_with fail
          go_roundw
          case rel => exact ⟨k + 1, j + 1, _, _, by go_num, by go_num, HNX.out, HST.out, by rw [List.map_set]; exact HRS.out, HB2.out⟩
          case measure => simp [intOf]; omega
      · have hje : j = bs.length := by omega
        have hkn : k < bs.length := by omega
        have hk0 : (0 : Int) ≤ (k : Int) := by omega
        have hs1 := HS1.out k wr hkn
        have hcells : ∀ t, t < bs.length - k → (wr.cell? ⟨g, k + t, none⟩).isSome = true ∧ wr.frozen? ⟨g, k + t, none⟩ = false := fun t ht => by
          obtain ⟨u0, -, hc, hf, -⟩ := HO.out.storeAt (k := k + t) (by rw [HD.out.lenu]; omega) (.bool true)
          exact ⟨by rw [hc]; rfl, hf⟩
        have hcl : ∀ ty, (Builtin.clear_ #[43] ty #[.slice (some ⟨g, k, none⟩) (bs.length - k) (c - k)]).run Tryz.prog wr = .ok (.tuple #[]) (wr.setCells g k (List.replicate (bs.length - k) (.slice none 0 0))) := fun ty =>
          Lib.run_clear_slice wr _ _ ty _ Tryz.underlying43 (fun W => by kernel_rfl) rfl rfl g k _ _ (by omega) (fun t ht => (hcells t ht).1) (fun t ht => (hcells t ht).2)
        have hol := HO.out
        rw [← HD.out.lenu] at hol
        obtain ⟨us', hu1, hu2, hu3, hu4⟩ := own_cleared (List.replicate (bs.length - k) (.slice none 0 0)) k wr us hol (by rw [List.length_replicate, HD.out.lenu]; omega)
        have HU3 := Lib.hid (own_prefix (by rw [hu1]; exact hu3) (k := k) (by rw [hu1, HD.out.lenu]; omega))
        rw [hu2] at HU3
        have HU4 := Lib.hid hu4
        have hs2 := HS2.out k (wr.setCells g k (List.replicate (bs.length - k) (.slice none 0 0))) hkn
        have HJE := Lib.hid hje
        have hlt' : ¬ ((j : Int) < (bs.length : Int)) := by omega
        have HB4 := Lib.hid (HBW.out.grown hu4 (by have h1 := HO.out.ge g rfl; have h2 := HO.out.lt g rfl; omega) (fun b hb => HO.out.ge b hb))
        have HR4 := Lib.hid (HRR.out.other (v := .slice (some ⟨g, 0, none⟩) bs.length c) hu4 HO.out (by decide))
        clear hcells hol hu1 hu2 hu3 hu4 hje
        generalize (wr.setCells g k (List.replicate (bs.length - k) (Value.slice none 0 0))) = w9 at HU3 HU4 hs2 hcl HB4 HR4
        go_wp2_with fail
        go_ret
        refine ⟨_, rfl, ⟨us.take k, HU3.out, ?_, ?_⟩, HB4.out⟩
        · have h1 := HR4.out.take k
          rw [← List.map_take, HD.out.pre, HJE.out, List.take_length] at h1
          exact h1
        · exact (List.Pairwise.sublist ((List.sublist_append_left _ _).trans HD.out.sub) HAP.out)
end Go.Proofs.YtdjhfeaimmpmhaaGreat

