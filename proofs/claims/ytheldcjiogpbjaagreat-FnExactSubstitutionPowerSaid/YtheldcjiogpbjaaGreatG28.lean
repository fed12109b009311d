/- Walk: substituted of the program. | Walks: l16Piece, l16Pieces of the reference. | Walk: l16Pieces of the reference. | DROP Walk: the reference's substitution. -/
import Derived.Test.YtheldcjiogpbjaaGreatG27
import Derived.Test.YtheldcjiogpbjaaGreatG16
import Derived.Test.YtheldcjiogpbjaaGreatG8
import Derived.Test.YtheldcjiogpbjaaGreatG9
import Derived.Test.YtheldcjiogpbjaaGreatG20
set_option maxRecDepth 100000
set_option linter.unusedVariables false
set_option linter.unusedSimpArgs false
namespace Go.Proofs.YtheldcjiogpbjaaGreat
open Go.RowKit

theorem prtI_at {t : List Nat} {x : MC} (h : x ∈ prtI t) : (∀ p ∈ x.1.1, p < 38) ∧ x.1.2 < 38 := by
  unfold prtI at h
  obtain ⟨y, -, rfl⟩ := List.mem_map.1 h
  refine ⟨fun p hp => ?_, ?_⟩
  · obtain ⟨q, -, rfl⟩ := List.mem_map.1 hp
    have := idxN_le T6n q
    rw [T6n_len] at this
    omega
  · have := idxN_le T6n y.1.2
    rw [T6n_len] at this
    show idxN T6n y.1.2 < 38
    omega
theorem prtI_len {t : List Nat} (h : t ∈ T6n) : (prtI t).length ≤ 500 ∧ ∀ x ∈ prtI t, x.2 ≤ 500 := by
  have h1 := prtG_len t (T6n_at h).2.2.1
  unfold prtI
  refine ⟨by rw [List.length_map]; exact h1.1, fun x hx => ?_⟩
  obtain ⟨y, hy, rfl⟩ := List.mem_map.1 hx
  exact h1.2 y hy
/-- the list at index i of the partitions -/
theorem Prs.at_ {w : World} {B : Nat} {v : Value} (h : Prs w B v) : ∃ A c, v = .slice A 37 c ∧ ∀ i, i < 37 → ∃ ad css A2 c2, A = some ad ∧ OwnK w B tMp 3 (.slice A2 css.length c2) css ∧ Mcs w B css (prtI (tr i)) ∧ w.cell? (ad.add i) = some (.slice A2 css.length c2) := by
  obtain ⟨us, h1, h2⟩ := h
  have hl := h2.1
  rw [List.length_map, T6n_len] at hl
  obtain ⟨A, c, rfl, -, -⟩ := h1.cells.open_
  rw [hl]
  refine ⟨A, c, rfl, fun i hi => ?_⟩
  obtain ⟨u, hu⟩ : ∃ u, us[i]? = some u := ⟨_, List.getElem?_eq_getElem (by rw [hl]; exact hi)⟩
  obtain ⟨css, h3, h4⟩ := h2.2 i u (prtI (tr i)) hu (by rw [List.getElem?_map, tr_get hi]; rfl)
  obtain ⟨A2, c2, rfl, -, -⟩ := h3.open_
  obtain ⟨ad, n', c', he, hc⟩ := h1.cells.at_ hu
  simp only [Value.slice.injEq] at he
  exact ⟨ad, css, A2, c2, he.1, h3, h4, hc⟩
theorem Mcs.at_ {w : World} {B : Nat} {css : List (List Value)} {xs : List MC} {i : Nat} {x : MC} (h : Mcs w B css xs) (hx : xs[i]? = some x) : ∃ c, css[i]? = some c ∧ McD w B c x := by
  have hi := (List.getElem?_eq_some_iff.1 hx).1
  have hc : css[i]? = some (css[i]'(by rw [h.1]; exact hi)) := List.getElem?_eq_getElem _
  exact ⟨_, hc, h.2 i _ x hc hx⟩
/-- the parts of a partition or a cut in memory -/
theorem part_at {w : World} {B : Nat} {e : TypeId} {A2 : Option Addr} {c2 : Nat} {css : List (List Value)} {xs : List MC} {j : Nat} {x : MC} (h : OwnK w B e 3 (.slice A2 css.length c2) css) (hm : Mcs w B css xs) (hx : xs[j]? = some x) :
    ∃ go As cs, A2 = some ⟨go, 0, none⟩ ∧ OwnInts w B tN (.slice As x.1.1.length cs) (up x.1.1) ∧ w.cell? ⟨go, j * 3, none⟩ = some (.int .i64 (x.2 : Nat)) ∧ w.cell? ⟨go, j * 3 + 1, none⟩ = some (.slice As x.1.1.length cs) ∧ w.cell? ⟨go, j * 3 + 2, none⟩ = some (.int .i64 (x.1.2 : Nat)) := by
  obtain ⟨c, hc, s, rfl, hs⟩ := hm.at_ hx
  obtain ⟨As, cs, rfl, -, -, -⟩ := hs.ints.open_
  rw [up_len] at hs hc
  obtain ⟨go, cg, heo, hg0⟩ := h.cell (j := 0) hc rfl
  simp only [Value.slice.injEq] at heo
  obtain ⟨rfl, -, rfl⟩ := heo
  refine ⟨go, As, cs, rfl, hs, hg0, ?_, ?_⟩
  · obtain ⟨g', c', he', h'⟩ := h.cell (j := 1) hc rfl; simp only [Value.slice.injEq, Option.some.injEq, Addr.mk.injEq, and_true, true_and] at he'; rw [he'.1]; exact h'
  · obtain ⟨g', c', he', h'⟩ := h.cell (j := 2) hc rfl; simp only [Value.slice.injEq, Option.some.injEq, Addr.mk.injEq, and_true, true_and] at he'; rw [he'.1]; exact h'
theorem tmC_pos (c : Nat → Bool) (a b : List Int) (x : MC) (h : c x.1.2 = true) : tmC c a b x = (x.2 : Int) * (a.getD x.1.2 0 * valZ b x.1.1 % 10007) % 10007 := by
  unfold tmC
  rw [h]
  rfl
theorem Prs.keptI {w w' : World} {B : Nat} {v u : Value} (h : Prs w B v) (hg : w.grownBy w' u.ownBlock) (hb : BT w tI u) : Prs w' B v := by
  obtain ⟨us, h1, h2⟩ := h
  exact ⟨us, h1.kept hg (h1.bt.ne hb (by decide)), h2.kept hg hb (by decide) (by decide)⟩
theorem unitL_nums (z : Int) (h : z ∈ unitL) : 0 ≤ z ∧ z ≤ 10006 := by
  simp [unitL] at h
  omega
theorem valZ_mul (a b : List Int) (x : MC) : (x.2 : Int) * (a.getD x.1.2 0 * valZ b x.1.1 % 10007) % 10007 = tmI a b x := rfl

set_option maxHeartbeats 16000000 in
theorem i_substituted (w : World) (vp vb va : Value) (Bp : Nat) (b a : List Int) (hP : Prs w Bp vp) (h1 : Ints w vb b) (l1 : b.length = 38) (hN1 : Nums b) (h2 : Ints w va a) (l2 : a.length = 38) (hN2 : Nums a) :
    Calls Tryz.prog 46 #[vp, vb, va] w fun e w' => ∃ x, e = .returned x ∧ OwnInts w' w.heap.size tI x (subZ b a) ∧ Below w.heap.size w w' := by
  obtain ⟨AP, cP, rfl, -⟩ := hP.at_
  obtain ⟨Ab, cb, rfl, -, -, -⟩ := h1.open_
  obtain ⟨Aa, ca, rfl, -, -, -⟩ := h2.open_
  rw [l1] at h1 ⊢
  rw [l2] at h2 ⊢
  obtain ⟨ada, rfl, hc0, ha0, ha1⟩ := map_cell h2 hN2 (k := 0) (by omega)
  have HP := Lib.hid hP
  have HB1 := Lib.hid h1
  have HA1 := Lib.hid h2
  have HNB := Lib.hid hN1
  have HNA := Lib.hid hN2
  have HLB := Lib.hid l1
  have HSZ := Lib.hid (subZ_len b a)
  obtain ⟨y0, hy0⟩ : ∃ y0, y0 = a.getD 0 0 := ⟨_, rfl⟩
  rw [← hy0] at hc0
  have HS0 := Lib.hid (show ints ((subZ b a).take 1) = [.int .i64 y0] from by rw [hy0]; rfl)
  have OL := Lib.hid (show Own (w.alloc (.cells #[.int .i64 y0] tI)) w.heap.size tI (.slice (some ⟨w.heap.size, 0, none⟩) 1 1) (ints ((subZ b a).take 1)) from by rw [HS0.out]; exact own_lit w tI [.int .i64 y0] (by simp [maxLen]))
  have hc0' : w.cell? ada = some (.int .i64 y0) := by simpa [Addr.add] using hc0
  clear hy0 ha0 ha1
  clear hP h1 h2 l1 l2 hN1 hN2 hc0
  go_enter Tryz.func46, Tryz.ntmps46
  go_wp2_with fail
  go_loopw [7, 19] (fun o x wr => ∃ i : Nat, i ≤ 37 ∧ x = .int .i64 i ∧ Own wr w.heap.size tI o (ints ((subZ b a).take (i + 1))) ∧ Below w.heap.size w wr) (fun _ x _ => 37 - (intOf x).toNat)
  case atStart => exact ⟨0, Nat.zero_le _, rfl, OL.out, below1 w _⟩
  case round =>
    obtain ⟨i, hi, rfl, ho, hb⟩ := hrel
    rename World => wq
    clear OL
    have hel : ((subZ b a).take (i + 1)).length = i + 1 := by rw [List.length_take, HSZ.out]; omega
    have hol := ho.cells.open_
    rw [ints_len, hel] at hol
    obtain ⟨Ao, co, rfl, -, -⟩ := hol
    have HEL := Lib.hid hel
    have HO := Lib.hid ho
    have HBQ := Lib.hid hb
    obtain ⟨AP', cP', he, hat⟩ := (HP.out.below hb).at_
    simp only [Value.slice.injEq, true_and] at he
    obtain ⟨rfl, rfl⟩ := he
    clear ho hel
    by_cases hlt : i < 37
    · obtain ⟨adp, css, A2, c2, rfl, ho2, hm2, hcp⟩ := hat i hlt
      have htm := tr_mem hlt
      have hpl := prtI_len htm
      obtain ⟨L, hL⟩ : ∃ L, L = prtI (tr i) := ⟨_, rfl⟩
      rw [← hL] at hm2 hpl
      have HLE := Lib.hid hL
      have HPL := Lib.hid hpl
      have hcl := hm2.1
      have HCL := Lib.hid hcl
      have hc5 : css.length ≤ 500 := by rw [hcl]; exact hpl.1
      have HO2 := Lib.hid ho2
      have HM2 := Lib.hid hm2
      have HTS := Lib.hid (show ints ((subZ b a).take (i + 1 + 1)) = ints ((subZ b a).take (i + 1)) ++ [.int .i64 (sumF (tmC (fun _ => true) a b) L % 10007)] from by
        have h1 : (subZ b a)[i + 1]? = some (sumF (tmC (fun _ => true) a b) L % 10007) := by
          rw [hL, allm_prt]
          unfold subZ
          simp [hlt]
        rw [List.take_add_one, h1, ints, ints, List.map_append]; rfl)
      have hii : (i : Int) < 37 := by omega
      clear hat hb htm hpl hL hcl ho2 hm2
      go_wp2_with fail
      go_loopw [10, 25] (fun s x wr => ∃ j : Nat, j ≤ css.length ∧ x = .int .i64 j ∧ s = .int .i64 (sumF (tmC (fun _ => true) a b) (L.take j)) ∧ Below wq.heap.size wq wr) (fun _ x _ => css.length - (intOf x).toNat)
      case atStart => exact ⟨0, Nat.zero_le _, rfl, rfl, Below.refl _ _⟩
      case round =>
        obtain ⟨j, hj, rfl, rfl, hb⟩ := hrel
        rename World => wc
        have HBC := Lib.hid hb
        have hsb : 0 ≤ sumF (tmC (fun _ => true) a b) (L.take j) ∧ sumF (tmC (fun _ => true) a b) (L.take j) ≤ 500 * 10006 := by
          have h := sumF_bd (tmC (fun _ => true) a b) 10006 (L.take j) fun x _ => tmC_bd _ a b x
          have h2 : (L.take j).length ≤ 500 := Nat.le_trans (List.length_take_le _ _) (by omega)
          have h3 := HPL.out.1
          rw [List.length_take] at h
          omega
        by_cases hlj : j < css.length
        · obtain ⟨⟨⟨cr, sk⟩, n⟩, hx⟩ : ∃ x, L[j]? = some x := ⟨_, List.getElem?_eq_getElem (by rw [← HCL.out]; exact hlj)⟩
          have hxm := List.mem_of_getElem? hx
          have hn : n ≤ 500 := HPL.out.2 _ hxm
          obtain ⟨hcr, hsk⟩ := prtI_at (t := tr i) (x := ((cr, sk), n)) (by rw [← HLE.out]; exact hxm)
          have hcr : ∀ p ∈ cr, p < 38 := hcr
          have hsk : sk < 38 := hsk
          obtain ⟨go, As, cs, rfl, hs1, hq0, hq1, hq2⟩ := part_at (HO2.out.below hb) (HM2.out.below hb) hx
          have hs1 : OwnInts wc Bp tN (.slice As cr.length cs) (up cr) := hs1
          have hq0 : wc.cell? ⟨go, j * 3, none⟩ = some (.int .i64 n) := hq0
          have hq1 : wc.cell? ⟨go, j * 3 + 1, none⟩ = some (.slice As cr.length cs) := hq1
          have hq2 : wc.cell? ⟨go, j * 3 + 2, none⟩ = some (.int .i64 sk) := hq2
          have HTJ := Lib.hid (show sumF (tmC (fun _ => true) a b) (L.take (j + 1)) = sumF (tmC (fun _ => true) a b) (L.take j) + (n : Int) * (a.getD sk 0 * valZ b cr % 10007) % 10007 from by rw [sumF_take _ hx]; rfl)
          have HCR := Lib.hid hcr
          generalize sumF (tmC (fun _ => true) a b) (L.take j) = sm at *
          obtain ⟨_, he, hcx, hx0, hx1⟩ := map_cell ((HA1.out.below HBQ.out).below hb) HNA.out (k := sk) hsk
          simp only [Option.some.injEq] at he
          subst he
          have hvb := valZ_bd b cr
          have HVB := Lib.hid (show valZ b cr = valZ b cr from rfl)
          obtain ⟨V, hV⟩ : ∃ V, V = valZ b cr := ⟨_, rfl⟩
          rw [← hV] at hvb HTJ
          have HVE := Lib.hid hV
          generalize a.getD sk 0 = y at *
          obtain ⟨p1, p2⟩ := mul_bd 10006 10006 hx0 hx1 hvb.1 hvb.2
          have hmd : 0 ≤ y * V % 10007 ∧ y * V % 10007 ≤ 10006 := by omega
          obtain ⟨q1, q2⟩ := mul_bd 500 10006 (show (0 : Int) ≤ (n : Int) by omega) (show (n : Int) ≤ 500 by omega) hmd.1 hmd.2
          have hjj : (j : Int) < (css.length : Int) := by omega
          have hskk : (sk : Int) < 38 := by omega
          clear hxm hcr hx hV hb
          go_upto_region 9 with fail
          obtain ⟨W, hW⟩ : ∃ W, W = wc.alloc (.cells #[.int .i64 n, .slice As cr.length cs, .int .i64 sk] tMp) := ⟨_, rfl⟩
          have hbw : Below wc.heap.size wc W := by rw [hW]; exact below1 wc _
          have HBW := Lib.hid hbw
          have HKP := Lib.hid (show Blk W wc.heap.size tMp #[.int .i64 n, .slice As cr.length cs, .int .i64 sk] from by rw [hW]; exact Blk.new _ _ _)
          have HSW := Lib.hid (hs1.below hbw).ints
          have HBB := Lib.hid ((HB1.out.below HBQ.out).below (HBC.out.trans (hbw.mono HBC.out.size)))
          rw [← hW]
          clear hW hs1 hbw
          obtain ⟨S, hS1, hS2⟩ : ∃ S : World → Prop, (∀ Wx, S Wx → Below W.heap.size W Wx) ∧ (∀ Wx, Below W.heap.size W Wx → S Wx) := ⟨fun Wx => Below W.heap.size W Wx, fun _ h => h, fun _ h => h⟩
          have HSE := Lib.hid (show ∀ x : GW S, Below W.heap.size W x.w from fun x => hS1 _ x.h)
          have HSI := Lib.hid (show S W.drew from hS2 _ (Below.refl W.heap.size W).drew)
          have hx0' : ∀ x : GW S, x.w.cell? ⟨wc.heap.size, 0, none⟩ = some (.int .i64 n) := fun x => keepCell (HSE.out x) (HKP.out.cell 0)
          have hx1' : ∀ x : GW S, x.w.cell? ⟨wc.heap.size, 1, none⟩ = some (.slice As cr.length cs) := fun x => keepCell (HSE.out x) (HKP.out.cell 1)
          have hx2' : ∀ x : GW S, x.w.cell? ⟨wc.heap.size, 2, none⟩ = some (.int .i64 sk) := fun x => keepCell (HSE.out x) (HKP.out.cell 2)
          have hx3' : ∀ x : GW S, x.w.cell? (ada.add sk) = some (.int .i64 y) := fun x => keepCell ((HBW.out.trans ((HSE.out x).mono HBW.out.size))) hcx
          have HVL := Lib.hid (show ∀ x : GW S, Calls Tryz.prog 94 #[.slice Ab 38 cb, .slice As cr.length cs] x.w (fun e w' => e = .returned (.int .i64 V) ∧ S w') from fun x => (i_valueOf x.w _ _ b cr (HBB.out.below (HSE.out x)) HLB.out HNB.out (HSW.out.below (HSE.out x)) HCR.out).mono (by rintro e w7 ⟨rfl, rfl⟩; exact ⟨by rw [HVE.out], hS2 _ (HSE.out x)⟩))
          have HN1 := Lib.hid (show ∀ x : GW S, Calls Tryz.prog 65 #[.int .i64 (y * V)] x.w (fun e w' => e = .returned (.int .i64 (y * V % 10007)) ∧ S w') from fun x => (i_num (y * V) x.w (by omega) (by omega)).mono (by rintro e w7 ⟨rfl, rfl⟩; exact ⟨rfl, hS2 _ (HSE.out x)⟩))
          have hws1 : IntKind.i64.wrap (y * V) = y * V := IntWalk.i64_in _ (by omega)
          generalize y * V % 10007 = q at *
          have HN2 := Lib.hid (show ∀ x : GW S, Calls Tryz.prog 65 #[.int .i64 ((n : Int) * q)] x.w (fun e w' => e = .returned (.int .i64 ((n : Int) * q % 10007)) ∧ S w') from fun x => (i_num ((n : Int) * q) x.w (by omega) (by omega)).mono (by rintro e w7 ⟨rfl, rfl⟩; exact ⟨rfl, hS2 _ (HSE.out x)⟩))
          have hws2 : IntKind.i64.wrap ((n : Int) * q) = (n : Int) * q := IntWalk.i64_in _ (by omega)
          have hq3 : 0 ≤ (n : Int) * q % 10007 ∧ (n : Int) * q % 10007 ≤ 10006 := by omega
          clear hS1 hS2 hq0 hq1 hq2 hcx
          refine wp_region_grow S (by kernel_rfl) (by kernel_rfl) HSI.out (fun hne => ?_)
          repeat (go_big_quiet_step ((first
            | (go_at_call 94; exact grow_call (HVL.out _))
            | (go_at_call_of 65 y; exact grow_call (HN1.out _))
            | (go_at_call 65; exact grow_call (HN2.out _)))))
          refine wpQuiet_nil ?_
          rintro _ ⟨xq, rfl⟩
          clear hx0' hx1' hx2' hx3'
          go_wp2_with fail
          go_roundw
          case rel => exact ⟨j + 1, by omega, by go_num, by rw [HTJ.out], HBC.out.trans ((HBW.out.trans ((HSE.out xq).mono HBW.out.size)).mono HBC.out.size)⟩
          case measure => simp [intOf]; omega
        · have hjl : L.take j = L := List.take_of_length_le (by rw [← HCL.out]; omega)
          rw [hjl] at hsb ⊢
          have HOX := Lib.hid (HO.out.below HBC.out)
          clear hjl hb
          generalize sumF (tmC (fun _ => true) a b) L = sm at *
          go_wp2_with (first
            | (go_at_call 65; refine (i_num sm _ (by omega) (by omega)).mono ?_; rintro e w' ⟨rfl, rfl⟩)
            | (at_builtin; go_loud (refine wpList_app1 T_int HOX.out (by rw [ints_len, HEL.out]; omega) (Nat.le_trans HBQ.out.size HBC.out.size) (by rfl) rfl (by rfl) (by rfl) (by rfl) ?_; intro v1 w6 hown1 hgr1; have HN := Lib.hid hown1; have HGR := Lib.hid hgr1; clear hown1 hgr1)))
          go_roundw
          case rel =>
            refine ⟨i + 1, by omega, by go_num, ?_, HGR.out.below (HBQ.out.trans (HBC.out.mono HBQ.out.size)) (Nat.le_trans HBQ.out.size HBC.out.size) HO.out.ge⟩
            rw [HTS.out]; exact HN.out
          case measure => simp [intOf]; omega
    · have hil : i + 1 = (subZ b a).length := by rw [HSZ.out]; omega
      have HF := Lib.hid (show (subZ b a).take (i + 1) = subZ b a from by rw [hil]; exact List.take_length)
      clear hil
      go_wp2_with fail
      go_ret
      refine ⟨_, rfl, ⟨?_, fun z hz => in64_num (subZ_nums HNA.out z hz)⟩, HBQ.out⟩
      have h := HO.out
      rw [HF.out] at h
      exact h
end Go.Proofs.YtheldcjiogpbjaaGreat
set_option maxRecDepth 100000
set_option linter.unusedVariables false
set_option linter.unusedSimpArgs false
namespace Go.Proofs.YtheldcjiogpbjaaGreat
open Go.RowKit

abbrev tB : TypeId := 4
theorem T_bool : ElemT Tryz.prog 123 4 (.bool false) 1 := ⟨Tryz.underlying123, by kernel_rfl, rfl, by omega⟩
def bools (bs : List Bool) : List Value := bs.map Value.bool
theorem bools_len (bs : List Bool) : (bools bs).length = bs.length := by simp [bools]
theorem parN_at {t : List Nat} {l : Nat} : ∀ {k p : Nat}, parN t l k = p + 1 → t.getD p 0 + 1 = l
  | 0, p, h => by cases h
  | k + 1, p, h => by
    rw [parN] at h
    cases hb : Nat.beq (t.getD k 0 + 1) l with
    | true =>
      rw [hb] at h
      simp only [cond_true] at h
      have := Nat.eq_of_beq_eq_true hb
      have e : k = p := by omega
      subst e
      exact this
    | false => rw [hb] at h; exact parN_at h

theorem pieF_cons (t : List Nat) (m root l : Nat) (ls : List Nat) (i : Nat) (inn : List Bool) (out : List Nat) : pieF t m root (l :: ls) i inn out =
    bif Nat.blt root (parN t l i) && (inn.getD (parN t l i - 1) false && !m.testBit i) then pieF t m root ls (i + 1) (inn.set i true) (out ++ [l - t.getD root 0]) else pieF t m root ls (i + 1) inn out := rfl

set_option maxHeartbeats 4000000 in
theorem s_l16Piece (w : World) (v : Value) (t : List Nat) (m root : Nat) (r : List Nat) (ha : Ints w v (up t)) (h8 : t.length ≤ 8) (hroot : root < t.length) (hm : m < 256) (hl : ∀ l ∈ t, l ≤ 1000000) (hr : canO 9 (pieN t m root) = some r) :
    Calls Tryz.prog 124 #[v, .int .i64 m, .int .i64 root] w fun e w' => ∃ x, e = .returned x ∧ OwnInts w' w.heap.size tI x (up r) ∧ Below w.heap.size w w' := by
  have HA := Lib.hid ha
  have HL := Lib.hid hl
  have HR := Lib.hid hr
  have HM := Lib.hid hm
  obtain ⟨A, c, rfl, l1, l2, h3⟩ := ha.open_
  rw [up_len] at l1 HA h3 ⊢
  have H3 := Lib.hid h3
  have OL := Lib.hid (show OwnInts (w.alloc (.cells #[.int .i64 0] tI)) w.heap.size tI (.slice (some ⟨w.heap.size, 0, none⟩) 1 1) (up [0]) from ⟨own_lit w tI [.int .i64 0] (by simp [maxLen]), fun z hz => by simp [up] at hz; subst hz; unfold In64; omega⟩)
  have hri : (root : Int) < (t.length : Int) := by omega
  have hr0 : (0 : Int) ≤ (root : Int) := by omega
  have hw1 : IntKind.i64.wrap ((root : Int) + 1) = (root : Int) + 1 := IntWalk.i64_in _ (by omega)
  clear ha hl hr hm h3
  go_enter Tryz.func124, Tryz.ntmps124
  go_wp2_with (at_make; refine wpList_mk rfl _ _ _ rfl _ _ _ T_bool t.length _ (by rfl) (by rfl) (by rfl) (by omega) _ ?_; intro w1 hown hb hs1; have hb' := hb; rw [size_alloc'] at hown hb' hs1; obtain ⟨u0, -, q0, q1, -, -, hst, hgb⟩ := hown.storeAt (k := root) (by simp; exact hroot) (.bool true); have HST := Lib.hid (hst.mono (Nat.le_succ _)); have HO1 := Lib.hid ((OL.out.below hb).kept (v' := .slice (some ⟨w.heap.size + 1, 0, none⟩) t.length t.length) hgb (((OL.out.below hb).1.bt).ne hown.bt (by decide))); have HB1 := Lib.hid (((below1 w (.cells #[.int .i64 0] tI)).trans (hb'.mono (Nat.le_succ _))).setCell (p := ⟨w.heap.size + 1, root, none⟩) (Nat.le_succ _) (.bool true)); clear hown hb hb' hst hgb)
  have HIN0 := Lib.hid (show Own (w1.setCell ⟨w.heap.size + 1, root, none⟩ (.bool true)) w.heap.size tB (.slice (some ⟨w.heap.size + 1, 0, none⟩) t.length t.length) (bools ((List.replicate t.length false).set root true)) from by
    simpa [bools, List.map_set] using HST.out)
  have HG := Lib.hid (show w.heap.size ≤ w.heap.size + 1 from Nat.le_succ _)
  generalize hgg : w.heap.size + 1 = g at HIN0 HO1 HB1 HG ⊢
  generalize (w1.setCell ⟨g, root, none⟩ (.bool true)) = w5 at HIN0 HO1 HB1 ⊢
  have HLR := Lib.hid (HL.out (t[root]'hroot) (List.getElem_mem _))
  clear OL HST q0 q1 hs1 hgg
  go_loopw [7, 9] (fun o x wr => ∃ (i : Nat) (inn : List Bool) (out : List Nat), root + 1 ≤ i ∧ i ≤ t.length ∧ x = .int .i64 i ∧ Own wr w.heap.size tB (.slice (some ⟨g, 0, none⟩) t.length t.length) (bools inn) ∧ inn.length = t.length ∧
    OwnInts wr w.heap.size tI o (up out) ∧ Below w.heap.size w wr ∧ Hid (pieF t m root (t.drop i) i inn out = pieN t m root) ∧ out.length ≤ i ∧ Hid (∀ l ∈ out, l ≤ 1000000) ∧ Hid (∀ k, inn[k]? = some true → t.getD root 0 ≤ t.getD k 0)) (fun _ x _ => t.length - (intOf x).toNat)
  case atStart =>
    refine ⟨root + 1, _, [0], Nat.le_refl _, hroot, by go_num, HIN0.out, by simp, HO1.out, HB1.out, rfl, by simp, fun l hl => by simp at hl; omega, fun k hk => ?_⟩
    by_cases hkr : root = k
    · subst hkr; exact Nat.le_refl _
    · rw [List.getElem?_set_ne hkr, List.getElem?_replicate] at hk
      split at hk <;> cases hk
  case round =>
    obtain ⟨i, inn, out, hri1, hit, rfl, hin, hil, hout, hbw, HP, hol, HOL, HIL⟩ := hrel
    clear HIN0 HO1 HB1
    have HIN := Lib.hid hin
    have HIE := Lib.hid hil
    have HOU := Lib.hid hout
    have HB := Lib.hid hbw
    clear hin hil hout hbw
    by_cases hlt : i < t.length
    · obtain ⟨ad, zi, rfl, hzi, -, hci0⟩ := H3.out i hlt
      obtain ⟨ad', zr, hae, hzr, -, hcr0⟩ := H3.out root hroot
      injection hae with hae
      subst hae
      obtain ⟨L, hL, rfl⟩ := up_getD hzi
      obtain ⟨R, hR, rfl⟩ := up_getD hzr
      have hLi : t[i]'hlt = L := by rw [List.getElem?_eq_getElem hlt] at hL; injection hL
      have hgR : t.getD root 0 = R := by simp [List.getD, hR]
      have hgL : t.getD i 0 = L := by simp [List.getD, hL]
      have hci : ∀ W : World, Below w.heap.size w W → W.cell? (ad.add i) = some (.int .i64 (L : Int)) := fun W hW => by
        rw [hW.cell (by rw [block_add]; have := World.block_lt_of_cell? w _ hci0; rwa [block_add] at this)]; exact hci0
      have hcr : ∀ W : World, Below w.heap.size w W → W.cell? (ad.add root) = some (.int .i64 (R : Int)) := fun W hW => by
        rw [hW.cell (by rw [block_add]; have := World.block_lt_of_cell? w _ hcr0; rwa [block_add] at this)]; exact hcr0
      have HCI := Lib.hid hci
      have HCR := Lib.hid hcr
      have HLB := Lib.hid (HL.out L (List.mem_of_getElem? hL))
      have hpf := HP.out
      rw [List.drop_eq_getElem_cons hlt, hLi, pieF_cons, hgR] at hpf
      have hp1 := fun W (h : Ints W (.slice (some ad) t.length c) (up t)) => s_l16Parent W _ t i h hlt HL.out
      simp only [hgL] at hp1
      have hpl := parN_le t L i
      have hpa := fun p => @parN_at t L i p
      have HGR := Lib.hid hgR
      have HGL := Lib.hid hgL
      have HIL2 := Lib.hid HIL.out
      obtain ⟨hb0, -⟩ := bit64 m i HM.out
      have hii : (i : Int) < (t.length : Int) := by omega
      have hi0 : (0 : Int) ≤ (i : Int) := by omega
      have hi64 : (i : Int) ≤ 64 := by omega
      have hwu : IntKind.u64.wrap (i : Int) = (i : Int) := IntWalk.u64_in _ (by omega)
      generalize parN t L i = p at hpf hp1 hpl hpa
      have HPA := Lib.hid hpa
      clear hci0 hcr0 hzi hzr hL hR hLi hgR hgL hci hcr hpa HP
      by_cases hrp : root < p
      · obtain ⟨k, rfl⟩ : ∃ k, p = k + 1 := ⟨p - 1, by omega⟩
        have hkz : (((k + 1 : Nat) : Int) - 1) = (k : Int) := by omega
        simp only [hkz] at hp1
        have HP1 := Lib.hid hp1
        rw [(blt_iff _ _).2 hrp, Nat.add_sub_cancel, Bool.true_and] at hpf
        have hge : (root : Int) ≤ (k : Int) := by omega
        have hge2 : root ≤ k := by omega
        have hki : (k : Int) < (t.length : Int) := by omega
        have hk0 : (0 : Int) ≤ (k : Int) := by omega
        have hkt : k < inn.length := by rw [HIE.out]; omega
        have hbk : inn[k]? = some (inn[k]'hkt) := List.getElem?_eq_getElem _
        have hgb : inn.getD k false = inn[k]'hkt := by simp [List.getD, hbk]
        rw [hgb] at hpf
        have hbc : ∀ n, (wr.drewN n).cell? ⟨g, k, none⟩ = some (.bool (inn[k]'hkt)) := fun n => by
          have h := HIN.out.cells
          obtain ⟨ad2, n2, c2, he, hc⟩ := h.at_ (k := k) (u := .bool (inn[k]'hkt)) (by simp [bools, hbk])
          simp only [Value.slice.injEq, Option.some.injEq] at he
          obtain ⟨rfl, -, -⟩ := he
          rw [addr_add] at hc
          exact hc
        have HKA := Lib.hid (HPA.out k rfl)
        have HIK := Lib.hid hbk
        generalize inn[k]'hkt = b at hpf hbc HIK
        clear hbk hgb hp1 hkz hrp HPA
        cases b with
        | false =>
          rw [Bool.false_and] at hpf
          have HPF := Lib.hid hpf
          clear hpf
          go_wp2_with (go_at_call 122; refine (HP1.out _ (HA.out.below HB.out)).mono ?_; rintro e w2 ⟨rfl, n2, rfl⟩)
          go_roundw
          case rel => exact ⟨i + 1, inn, out, by omega, by omega, by go_num, HIN.out.drewN n2, HIE.out, ⟨HOU.out.1.drewN n2, HOU.out.2⟩, below_drewN HB.out n2, HPF.out, by omega, HOL, HIL⟩
          case measure => simp [intOf]; omega
        | true =>
          rw [Bool.true_and] at hpf
          cases hbt : m.testBit i with
          | true =>
            rw [hbt] at hb0 hpf
            simp only [Bool.not_true] at hb0 hpf
            have HPF := Lib.hid hpf
            clear hpf hbt
            go_wp2_with (go_at_call 122; refine (HP1.out _ (HA.out.below HB.out)).mono ?_; rintro e w2 ⟨rfl, n2, rfl⟩)
            go_roundw
            case rel => exact ⟨i + 1, inn, out, by omega, by omega, by go_num, HIN.out.drewN n2, HIE.out, ⟨HOU.out.1.drewN n2, HOU.out.2⟩, below_drewN HB.out n2, HPF.out, by omega, HOL, HIL⟩
            case measure => simp [intOf]; omega
          | false =>
            rw [hbt] at hb0 hpf
            simp only [Bool.not_false, cond_true] at hb0 hpf
            have HPF := Lib.hid hpf
            have hRL : R ≤ L := by have h1 := HIL2.out k HIK.out; have h2 := HKA.out; rw [HGR.out] at h1; omega
            have hsub : ((L : Int) - (R : Int)) = ((L - R : Nat) : Int) := by omega
            have HSUB := Lib.hid hsub
            have hl6 := HLB.out
            have hwz : IntKind.i64.wrap ((L : Int) - (R : Int)) = (L : Int) - (R : Int) := IntWalk.i64_in _ (by omega)
            have hz64 : In64 ((L : Int) - (R : Int)) := by unfold In64; omega
            clear hpf hbt hsub
            go_upto_region 9 with (go_at_call 122; refine (HP1.out _ (HA.out.below HB.out)).mono ?_; rintro e w2 ⟨rfl, n2, rfl⟩)
            obtain ⟨u0, -, q0, q1, -, -, hst, hgb⟩ := (HIN.out.drewN n2).storeAt (k := i) (by rw [bools_len, HIE.out]; exact hlt) (.bool true)
            have HST := Lib.hid (show Own ((wr.drewN n2).setCell ⟨g, i, none⟩ (.bool true)) w.heap.size tB (.slice (some ⟨g, 0, none⟩) t.length t.length) (bools (inn.set i true)) from by simpa [bools, List.map_set] using hst)
            have HO1 := Lib.hid (OwnInts.kept (w := wr.drewN n2) (v' := .slice (some ⟨g, 0, none⟩) t.length t.length) ⟨HOU.out.1.drewN n2, HOU.out.2⟩ hgb ((HOU.out.1.drewN n2).bt.ne (HIN.out.drewN n2).bt (by decide)))
            have HB1 := Lib.hid ((below_drewN HB.out n2).setCell (p := ⟨g, i, none⟩) (by have := HG.out; omega) (.bool true))
            go_upto_region 10 with fail
            generalize ((wr.drewN n2).setCell ⟨g, i, none⟩ (.bool true)) = w6 at HST HO1 HB1 ⊢
            clear hst hgb q0 q1
            have c1 := HCI.out w6 HB1.out
            have c2 := HCR.out w6 HB1.out
            have hB6 := HB1.out.size
            go_region_law (refine stp_app1 T_int (B := w.heap.size) (W := w6.drew.alloc (.cells #[.int .i64 ((L : Int) - (R : Int))] tI)) (u := .int .i64 ((L : Int) - (R : Int))) (ad := ⟨w6.heap.size, 0, none⟩) (HO1.out.1.below (((Below.refl _ _).drew).alloc (Nat.le_refl _) _)) (by rw [ints_len, up_len]; omega) (by simp; omega) (by rfl) rfl (by rfl) (by rfl) (by rfl) ((Blk.new w6.drew _ _).cell 0) ?_; intro v7 w7 hown7 hgr7)
            all_goals
              have HN7 := Lib.hid hown7
              have hbd : Below w6.heap.size w6 (w6.drew.alloc (.cells #[.int .i64 ((L : Int) - (R : Int))] tI)) := ((Below.refl _ _).drew).alloc (Nat.le_refl _) _
              have HB7 := Lib.hid (hgr7.below (HB1.out.trans (hbd.mono hB6)) (by simp; omega) HO1.out.1.ge)
              have HI7 := Lib.hid ((HST.out.below hbd).kept hgr7.1 ((HST.out.below hbd).bt.ne (HO1.out.1.below hbd).bt (by decide)))
              clear hown7 hgr7 hbd c1 c2
              go_wp2_with fail
              go_roundw
              case rel =>
                refine ⟨i + 1, inn.set i true, out ++ [L - R], by omega, by omega, by go_num, HI7.out, by rw [List.length_set]; exact HIE.out, ?_, HB7.out, HPF.out, by simp; omega, fun l hl => ?_, fun k2 hk2 => ?_⟩
                · rw [up_append]
                  have e : up [L - R] = [(L : Int) - (R : Int)] := by rw [HSUB.out]; rfl
                  rw [e]
                  exact ⟨by simpa [ints] using HN7.out, fun y hy => by rcases List.mem_append.1 hy with hy | hy; exact HOU.out.2 y hy; simp at hy; subst hy; exact hz64⟩
                · rcases List.mem_append.1 hl with hl | hl
                  · exact HOL.out l hl
                  · simp at hl; omega
                · by_cases hik : i = k2
                  · subst hik; rw [HGR.out, HGL.out]; exact hRL
                  · rw [List.getElem?_set_ne hik] at hk2; exact HIL2.out k2 hk2
              case measure => simp [intOf]; omega
      · have hkz : ∃ z : Int, z = (p : Int) - 1 := ⟨_, rfl⟩
        obtain ⟨z, hz⟩ := hkz
        simp only [← hz] at hp1
        have HP1 := Lib.hid hp1
        have hge : ¬ ((root : Int) ≤ z) := by omega
        have hge2 : decide ((root : Int) ≤ z) = false := by simp; omega
        have hbl : Nat.blt root p = false := by
          cases h : Nat.blt root p with
          | true => exact absurd ((blt_iff _ _).1 h) hrp
          | false => rfl
        rw [hbl, Bool.false_and] at hpf
        have HPF := Lib.hid hpf
        clear hpf hp1 hz hbl hrp
        go_wp2_with (go_at_call 122; refine (HP1.out _ (HA.out.below HB.out)).mono ?_; rintro e w2 ⟨rfl, n2, rfl⟩)
        go_roundw
        case rel => exact ⟨i + 1, inn, out, by omega, by omega, by go_num, HIN.out.drewN n2, HIE.out, ⟨HOU.out.1.drewN n2, HOU.out.2⟩, below_drewN HB.out n2, HPF.out, by omega, HOL, HIL⟩
        case measure => simp [intOf]; omega
    · have : i = t.length := by omega
      subst this
      have hpf := HP.out
      rw [List.drop_eq_nil_of_le (Nat.le_refl _), pieF] at hpf
      subst hpf
      obtain ⟨A5, c5, ho5, -, -, -⟩ := HOU.out.ints.open_
      rw [up_len] at ho5
      subst ho5
      have hlt' : ¬ ((t.length : Int) < (t.length : Int)) := by omega
      have HPN := Lib.hid HOL.out
      clear HP HIL HOL
      go_wp2_with (go_at_call 123; refine (s_l03Canon 9 _ _ (pieN t m root) r HOU.out.ints HR.out (by omega) HPN.out).mono ?_; rintro e w6 ⟨x6, rfl, hx6, hb6⟩; have HX6 := Lib.hid hx6; have HB6 := Lib.hid hb6; clear hx6 hb6)
      go_ret
      exact ⟨_, rfl, HX6.out.mono HB.out.size, HB.out.trans (HB6.out.mono HB.out.size)⟩

end Go.Proofs.YtheldcjiogpbjaaGreat
set_option maxRecDepth 100000
set_option linter.unusedVariables false
set_option linter.unusedSimpArgs false
namespace Go.Proofs.YtheldcjiogpbjaaGreat
open Go.RowKit

set_option maxHeartbeats 4000000 in
theorem s_l16Pieces (w : World) (v : Value) (t : List Nat) (m : Nat) (pcs : List (List Nat)) (ha : Ints w v (up t)) (h8 : t.length ≤ 8) (h0 : 0 < t.length) (hm : m < 256) (hl : ∀ l ∈ t, l ≤ 1000000)
    (hp : mapO (fun i => canO 9 (pieN t m i)) (0 :: cutsN m (t.length - 1) 1) = some pcs) (hpl : ∀ i < t.length, (pieN t m i).length ≤ 8) :
    Calls Tryz.prog 91 #[v, .int .i64 m] w fun e w' => ∃ x, e = .returned x ∧ LA w' w.heap.size x ((srtB pcs).map up) ∧ Below w.heap.size w w' := by
  have HA := Lib.hid ha
  have HL := Lib.hid hl
  have HM := Lib.hid hm
  have HP := Lib.hid hp
  have HPL := Lib.hid hpl
  obtain ⟨A, c, rfl, l1, l2, -⟩ := ha.open_
  rw [up_len] at l1 HA ⊢
  obtain ⟨p0, rest, hpe, hp0, hrest⟩ := mapO_cons hp
  have HP0 := Lib.hid (s_l16Piece w _ t m 0 p0 HA.out h8 h0 hm hl hp0)
  have HREST := Lib.hid hrest
  have HPE := Lib.hid hpe
  have h00 : (((0 : Nat) : Int)) = 0 := rfl
  have HRL := Lib.hid (mapO_len hrest)
  have HCL := Lib.hid (show ∀ n i, (cutsN m n i).length ≤ n from by
    intro n
    induction n with
    | zero => intro i; exact Nat.le_refl _
    | succ n ih => intro i; rw [cutsN]; cases m.testBit i <;> simp <;> have := ih (i + 1) <;> omega)
  rw [h00] at HP0
  clear ha hl hm hp hpl hp0 hrest hpe h00
  go_enter Tryz.func91, Tryz.ntmps91
  go_wp2_with (go_at_call 124; refine HP0.out.mono ?_; rintro e w1 ⟨x1, rfl, ho1, hb1⟩; obtain ⟨A1, c1, he1, -, -, -⟩ := ho1.ints.open_; rw [up_len] at he1; subst he1; have OL := Lib.hid (show Own (w1.alloc (.cells #[.slice A1 p0.length c1] tL)) w.heap.size tL (.slice (some ⟨w1.heap.size, 0, none⟩) 1 1) [.slice A1 p0.length c1] from (own_lit w1 tL [.slice A1 p0.length c1] (by simp [maxLen])).mono hb1.size); have OR1 := Lib.hid (show RR (w1.alloc (.cells #[.slice A1 p0.length c1] tL)) w.heap.size [.slice A1 p0.length c1] [up p0] from RR.one (ho1.below (below1 w1 _))); have HB1 := Lib.hid (hb1.trans ((below1 w1 (.cells #[.slice A1 p0.length c1] tL)).mono hb1.size)); clear ho1 hb1)
  go_loopw [5, 6] (fun o x wr => ∃ (i : Nat) (vs : List Value), i + 1 ≤ t.length ∧ x = .int .i64 ((i : Int) + 1) ∧ Own wr w.heap.size tL o vs ∧ RR wr w.heap.size vs ((p0 :: rest.take (cutsN m i 1).length).map up) ∧ Below w.heap.size w wr) (fun _ x _ => t.length - (intOf x).toNat)
  case atStart => exact ⟨0, _, by omega, rfl, OL.out, by simpa [cutsN] using OR1.out, HB1.out⟩
  case round =>
    obtain ⟨i, vs, hi, rfl, hown, hrr, hbw⟩ := hrel
    clear OL OR1 HB1
    have HO := Lib.hid hown
    have HRR := Lib.hid hrr
    have HBW := Lib.hid hbw
    by_cases hlt : i + 1 < t.length
    · have hii : (i : Int) + 1 < (t.length : Int) := by omega
      have hi0 : (0 : Int) ≤ (i : Int) + 1 := by omega
      have hi64 : (i : Int) + 1 ≤ 64 := by omega
      have hwu : IntKind.u64.wrap ((i : Int) + 1) = (i : Int) + 1 := IntWalk.u64_in _ (by omega)
      have hcs := cutsN_succ m i 1
      rw [Nat.add_comm 1 i] at hcs
      obtain ⟨-, hb1⟩ := bit64 m (i + 1) HM.out
      have htn : ((i : Int) + 1).toNat = i + 1 := by omega
      have hw1 : IntKind.i64.wrap ((i : Int) + 1 + 1) = (i : Int) + 1 + 1 := IntWalk.i64_in _ (by omega)
      cases hbt : m.testBit (i + 1) with
      | false =>
        rw [hbt] at hb1 hcs
        have HCS := Lib.hid hcs
        clear hbt hown hrr hbw hcs
        go_wp2_with fail
        go_roundw
        case rel =>
          refine ⟨i + 1, vs, by omega, by go_num, HO.out, ?_, HBW.out⟩
          rw [HCS.out]
          simpa using HRR.out
        case measure => simp [intOf]; omega
      | true =>
        rw [hbt, if_pos rfl] at hcs
        rw [hbt] at hb1
        have hall : ∀ n, cutsN m (t.length - 1) 1 = cutsN m n 1 ++ (cutsN m (t.length - 1) 1).drop (cutsN m n 1).length ∨ ¬ n ≤ t.length - 1 := by
          intro n
          by_cases hn : n ≤ t.length - 1
          · left
            have : ∀ k, cutsN m (n + k) 1 = cutsN m n 1 ++ (cutsN m (n + k) 1).drop (cutsN m n 1).length := by
              intro k
              induction k with
              | zero => simp
              | succ k ih =>
                rw [show n + (k + 1) = (n + k) + 1 from rfl, cutsN_succ, ih]
                simp [List.drop_append]
            have h := this (t.length - 1 - n)
            rwa [show n + (t.length - 1 - n) = t.length - 1 by omega] at h
          · exact .inr hn
        have hat : (cutsN m (t.length - 1) 1)[(cutsN m i 1).length]? = some (i + 1) := by
          rcases hall (i + 1) with h | h
          · rw [h, hcs, List.append_assoc, List.getElem?_append_right (Nat.le_refl _), Nat.sub_self]; rfl
          · exact absurd (show i + 1 ≤ t.length - 1 by omega) h
        obtain ⟨q, hq, hqc⟩ := mapO_get HREST.out _ _ hat
        have hpc := s_l16Piece wr _ t m (i + 1) q (HA.out.below hbw) h8 hlt HM.out HL.out hqc
        have hcast : (((i + 1 : Nat)) : Int) = (i : Int) + 1 := by omega
        rw [hcast] at hpc
        have HPC := Lib.hid hpc
        have HTK := Lib.hid (show rest.take (cutsN m (i + 1) 1).length = rest.take (cutsN m i 1).length ++ [q] by rw [hcs, List.length_append, List.length_singleton, List.take_add_one, hq]; rfl)
        have hvl : vs.length ≤ 1000 := by have h1 := hrr.1; have h2 := HCL.out i 1; simp at h1; omega
        clear hbt hown hrr hbw hcs hall hat hq hqc hpc hcast
        go_wp2_with (first
          | (go_at_call 124; refine HPC.out.mono ?_; rintro e w2 ⟨r2, rfl, ho2, hb2⟩; obtain ⟨A5, c5, he5, -, -, -⟩ := ho2.ints.open_; rw [up_len] at he5; subst he5; have HO2 := Lib.hid (ho2.mono HBW.out.size); have HBI := Lib.hid hb2; have HB2 := Lib.hid (HBW.out.trans (hb2.mono HBW.out.size)); have HOW := Lib.hid (HO.out.below hb2); clear ho2 hb2)
          | (at_builtin; refine wpList_app1 T_row HOW.out (by omega) HB2.out.size (by rfl) rfl (by rfl) (by rfl) (by rfl) ?_; intro v1 w5 hown1 hgr1; have HN1 := Lib.hid hown1; have HGR := Lib.hid hgr1.1; have HB5 := Lib.hid (hgr1.below HB2.out HB2.out.size HOW.out.ge); clear hown1 hgr1))
        go_roundw
        case rel =>
          refine ⟨i + 1, _, by omega, by go_num, HN1.out, ?_, HB5.out⟩
          rw [HTK.out, ← List.cons_append, List.map_append]
          exact LL.snoc HOW.out (HRR.out.below HBI.out) HO2.out HN1.out HGR.out
        case measure => simp [intOf]; omega
    · have hin : i = t.length - 1 := by omega
      have HE := Lib.hid (show p0 :: rest.take (cutsN m i 1).length = pcs from by rw [hin, ← HRL.out, List.take_length]; exact HPE.out.symm)
      rw [HE.out] at HRR
      have HSB := Lib.hid (show ∀ b ∈ pcs, b.length ≤ 1000 from fun b hb => by
        obtain ⟨x, hx, hxb⟩ := mapO_all HP.out b hb
        have hxt : x < t.length := by
          rcases List.mem_cons.1 hx with rfl | hx
          · omega
          · have : ∀ n i, ∀ x ∈ cutsN m n i, x < i + n := by
              intro n
              induction n with
              | zero => intro i x hx; simp [cutsN] at hx
              | succ n ih =>
                intro i x hx
                rw [cutsN] at hx
                cases hb : m.testBit i with
                | true =>
                  rw [hb] at hx
                  simp only [cond_true] at hx
                  rcases List.mem_cons.1 hx with rfl | hx
                  · omega
                  · have := ih (i + 1) x hx; omega
                | false => rw [hb] at hx; have := ih (i + 1) x hx; omega
            have := this _ _ x hx
            omega
        rw [canO_len hxb]
        have := HPL.out x hxt
        omega)
      have HPN := Lib.hid (show pcs.length ≤ 1000 from by rw [mapO_len HP.out]; have := HCL.out (t.length - 1) 1; simp; omega)
      have hlt' : ¬ ((i : Int) + 1 < (t.length : Int)) := by omega
      have HROW := Lib.hid (HRR.out.rows HO.out)
      obtain ⟨A2, c2, rfl, -, -⟩ := hown.cells.open_
      clear hown hrr hbw hin
      go_wp2_with (go_at_call 125; refine (s_l03Sort _ _ pcs HROW.out HPN.out HSB.out).mono ?_; rintro e w6 ⟨x6, rfl, hx6, hb6⟩; have HX6 := Lib.hid hx6; have HB6 := Lib.hid hb6; clear hx6 hb6)
      go_ret
      exact ⟨_, rfl, HX6.out.mono HBW.out.size, HBW.out.trans (HB6.out.mono HBW.out.size)⟩
end Go.Proofs.YtheldcjiogpbjaaGreat
set_option maxRecDepth 100000
set_option linter.unusedVariables false
set_option linter.unusedSimpArgs false
namespace Go.Proofs.YtheldcjiogpbjaaGreat
open Go.RowKit

/-- what the search tells of a tree that is on the list -/
theorem find_at {q : List Nat} (h : okPl q = true) : ∃ p0 : Nat, idxN T6n q = p0 + 1 ∧ p0 < 37 ∧ ∀ W x y, Rows W x (T6n.map up) → Ints W y (up q) → Calls Tryz.prog 62 #[x, y] W fun e w' => e = .returned (.int .i64 (p0 : Nat)) ∧ ∃ n, w' = W.drewN n := by
  obtain ⟨h1, h2, h3, -⟩ := okPl_at h
  obtain ⟨p0, hp⟩ : ∃ p0, idxN T6n q = p0 + 1 := ⟨idxN T6n q - 1, by omega⟩
  refine ⟨p0, hp, by omega, fun W x y hx hy => ?_⟩
  have hf := s_l03Find W x y T6n q hx hy (by rw [T6n_len]; omega)
  rw [h1, hp, show (((p0 + 1 : Nat) : Int) - 1) = (p0 : Int) from by omega] at hf
  exact hf
theorem prodZ_take {l : List Int} {k : Nat} {x : Int} (h : l[k]? = some x) : prodZ (l.take (k + 1)) = prodZ (l.take k) * x := by
  rw [List.take_add_one, h]
  exact prodZ_snoc _ _
theorem pw2 (t : List Nat) (h0 : 0 < t.length) (h6 : t.length ≤ 6) : ∃ N : Nat, N = 2 ^ (t.length - 1) ∧ 2 * N = 2 ^ t.length ∧ N ≤ 32 ∧ 1 ≤ N := by
  refine ⟨_, rfl, ?_, ?_, Nat.pow_pos (by omega)⟩
  · obtain ⟨k, hk⟩ : ∃ k, t.length = k + 1 := ⟨t.length - 1, by omega⟩
    rw [hk, Nat.pow_succ]; simp; omega
  · exact Nat.le_trans (Nat.pow_le_pow_right (by omega) (show t.length - 1 ≤ 5 by omega)) (by decide)
set_option maxHeartbeats 16000000 in
theorem s_l16Substitute (w : World) (vb va : Value) (b a : List Int) (h1 : Ints w vb b) (l1 : b.length = 38) (hN1 : Nums b) (h2 : Ints w va a) (l2 : a.length = 38) (hN2 : Nums a) :
    Calls Tryz.prog 44 #[vb, va] w fun e w' => ∃ x, e = .returned x ∧ OwnInts w' w.heap.size tI x (subZ b a) ∧ Below w.heap.size w w' := by
  obtain ⟨Ab, cb, rfl, -, -, -⟩ := h1.open_
  obtain ⟨Aa, ca, rfl, -, -, -⟩ := h2.open_
  rw [l1] at h1 ⊢
  rw [l2] at h2 ⊢
  obtain ⟨ada, rfl, hc0, ha0, ha1⟩ := map_cell h2 hN2 (k := 0) (by omega)
  obtain ⟨adb, rfl, -, -, -⟩ := map_cell h1 hN1 (k := 0) (by omega)
  have HB1 := Lib.hid h1
  have HA1 := Lib.hid h2
  have HNB := Lib.hid hN1
  have HNA := Lib.hid hN2
  have HSZ := Lib.hid (subZ_len b a)
  obtain ⟨y0, hy0⟩ : ∃ y0, y0 = a.getD 0 0 := ⟨_, rfl⟩
  rw [← hy0] at hc0
  have HS0 := Lib.hid (show ints ((subZ b a).take 1) = [.int .i64 y0] from by rw [hy0]; rfl)
  have OL := Lib.hid (show Own (w.alloc (.cells #[.int .i64 y0] tI)) w.heap.size tI (.slice (some ⟨w.heap.size, 0, none⟩) 1 1) (ints ((subZ b a).take 1)) from by rw [HS0.out]; exact own_lit w tI [.int .i64 y0] (by simp [maxLen]))
  have hc0' : w.cell? ada = some (.int .i64 y0) := by simpa [Addr.add] using hc0
  clear h1 h2 l1 l2 hN1 hN2 hc0 hy0 ha0 ha1
  go_enter Tryz.func44, Tryz.ntmps44
  go_wp2_with (go_at_call 59; go_loud (refine (s_l03All _ 6 (by omega)).mono ?_; rintro e w1 ⟨x1, rfl, hx1, hb1⟩; rw [show allG treesN 6 = T6n from rfl] at hx1; obtain ⟨A1, c1, he1, -, -, -⟩ := hx1.rows.open_; rw [List.length_map, T6n_len] at he1; subst he1; have HX1 := Lib.hid (show LA w1 (w.heap.size + 1) _ (T6n.map up) from by rw [size_alloc'] at hx1; exact hx1); have HO1 := Lib.hid (OL.out.below hb1); have HB1W := Lib.hid (show Below w.heap.size w w1 from (below1 w _).trans (hb1.mono (by simp))); clear hx1 hb1))
  go_loopw [5, 7] (fun o x wr => ∃ i : Nat, i ≤ 37 ∧ x = .int .i64 i ∧ Own wr w.heap.size tI o (ints ((subZ b a).take (i + 1))) ∧ Grow w1 wr (.slice (some ⟨w.heap.size, 0, none⟩) 1 1) o) (fun _ x _ => 37 - (intOf x).toNat)
  case atStart => exact ⟨0, Nat.zero_le _, rfl, HO1.out, Grow.refl _ _⟩
  case round =>
    obtain ⟨i, hi, rfl, ho, hg⟩ := hrel
    rename World => wq
    clear OL
    have hel : ((subZ b a).take (i + 1)).length = i + 1 := by rw [List.length_take, HSZ.out]; omega
    have hol := ho.cells.open_
    rw [ints_len, hel] at hol
    obtain ⟨Ao, co, rfl, -, -⟩ := hol
    have HEL := Lib.hid hel
    have HO := Lib.hid ho
    have HG := Lib.hid hg
    have HBQ := Lib.hid (show Below w.heap.size w wq from hg.below HB1W.out HB1W.out.size HO1.out.ge)
    have HXQ := Lib.hid (HX1.out.keptLt' hg.1 (Nat.lt_succ_self _)).rows
    clear ho hel hg
    by_cases hlt : i < 37
    · obtain ⟨ad, At, ct, t, rfl, ht, hti, hcr⟩ := HXQ.out.tree hlt
      have htr := tr_at ht
      have htm := List.mem_of_getElem? ht
      obtain ⟨htl, ht1, ht6, htl6⟩ := T6n_at htm
      have HTI := Lib.hid hti
      obtain ⟨N, hN, hN2, hN8, hN1⟩ := pw2 t ht1 ht6
      obtain ⟨M, hM⟩ : ∃ M, M = 2 * N := ⟨_, rfl⟩
      have hM8 : M ≤ 64 := by omega
      have HSH := Lib.hid (show wrap64 ((2 : Int) ^ t.length) = (M : Int) ∧ IntKind.i64.wrap ((2 : Int) ^ t.length) = (M : Int) from by
        have e : ((2 : Int) ^ t.length) = ((2 ^ t.length : Nat) : Int) := by simp
        rw [e, ← hN2, ← hM]
        exact ⟨w64_in' _ (by omega), IntWalk.i64_in _ (by omega)⟩)
      have HPA := Lib.hid (fun k (hk : k < N) => prt_at htm (i := k) (by rw [← hN]; exact hk))
      have HSK := Lib.hid (fun W m r (hm : m < 256) (h : Ints W (.slice At t.length ct) (up t)) (hr : canO 9 (sklN t m) = some r) => s_l16Skeleton W _ t m r h (by omega) ht1 hm (fun l hl => by have := htl6 l hl; omega) hr)
      have HPC := Lib.hid (fun W m pcs (hm : m < 256) (h : Ints W (.slice At t.length ct) (up t)) (hp : mapO (fun i => canO 9 (pieN t m i)) (0 :: cutsN m (t.length - 1) 1) = some pcs) (hpl : ∀ i < t.length, (pieN t m i).length ≤ 8) => s_l16Pieces W _ t m pcs h (by omega) ht1 hm (fun l hl => by have := htl6 l hl; omega) hp hpl)
      have HMF := Lib.hid (fun k => msk_succ (fun _ => true) a b t k)
      have HTS := Lib.hid (show ints ((subZ b a).take (i + 1 + 1)) = ints ((subZ b a).take (i + 1)) ++ [.int .i64 (msk (fun _ => true) a b t N % 10007)] from by
        have h1 : (subZ b a)[i + 1]? = some (msk (fun _ => true) a b t N % 10007) := by
          rw [← htr, hN, htr]
          unfold subZ
          simp [hlt, allm, htr]
        rw [List.take_add_one, h1, ints, ints, List.map_append]; rfl)
      have HMM := Lib.hid hM
      have hii : (i : Int) < 37 := by omega
      have ht63 : (t.length : Int) < 64 := by omega
      have ht0 : (0 : Int) ≤ (t.length : Int) := by omega
      clear ht htr htm htl htl6 hti hN hN2 hM
      go_wp2_with fail
      go_loopw [9, 10] (fun s x wr => ∃ k m : Nat, k ≤ N ∧ x = .int .i64 (m : Nat) ∧ Hid (m = 2 * k) ∧ s = .int .i64 (msk (fun _ => true) a b t k % 10007) ∧ Below wq.heap.size wq wr) (fun _ x _ => M - (intOf x).toNat)
      case atStart => exact ⟨0, 0, Nat.zero_le _, rfl, rfl, rfl, Below.refl _ _⟩
      case round =>
        obtain ⟨k, m, hk, rfl, HMK, rfl, hb⟩ := hrel
        rename World => wc
        have HBC := Lib.hid hb
        have hmk := HMK.out
        have hMM := HMM.out
        by_cases hlk : k < N
        · have hml : m < M := by omega
          have hmi : (m : Int) < (M : Int) := by omega
          obtain ⟨sk, pcs, hpa⟩ := HPA.out k hlk
          have hsk := hpa.hsk
          have hpc := hpa.hpc
          have hpie := hpa.pie
          have hopc := hpa.opc
          have hpl := hpa.pl
          rw [← hmk] at hsk hpc hpie
          obtain ⟨p0, hp0, hp37, hfi⟩ := find_at hpa.osk
          obtain ⟨Q, hQ⟩ : ∃ Q, Q = srtB pcs := ⟨_, rfl⟩
          have HF := Lib.hid (show fC (fun _ => true) a b (plU (prtN t (2 * k))) = a.getD (p0 + 1) 0 * prodZ (gat b (Q.map (idxN T6n))) from by rw [hpa.prt, hQ]; unfold fC fP plU; simp only [cond_true]; rw [hp0])
          rw [← hQ] at hopc hpl
          have HOPC := Lib.hid hopc
          have HFI := Lib.hid hfi
          have HPIE := Lib.hid hpie
          have HSKE := Lib.hid hsk
          have HPCE := Lib.hid hpc
          have HQE := Lib.hid hQ
          have HML := Lib.hid (show m < 256 from by omega)
          obtain ⟨_, he, hcx, hx0, hx1⟩ := map_cell ((HA1.out.below HBQ.out).below hb) HNA.out (k := p0 + 1) (by omega)
          simp only [Option.some.injEq] at he
          subst he
          have HCX := Lib.hid (show wc.cell? ⟨ada.block, ada.off + (p0 + 1), none⟩ = some (.int .i64 (a.getD (p0 + 1) 0)) from by simpa [Addr.add] using hcx)
          have hpl1 : (p0 : Int) + 1 < 38 := by omega
          generalize a.getD (p0 + 1) 0 = y at *
          clear hsk hpc hpie hopc hQ hpa hfi hp0 hcx hb hmk hMM
          have hsh := HSH.out.1
          have hsh2 := HSH.out.2
          go_upto_region 10 with fail
          clear hsh hsh2
          go_wp2_with (first
            | (go_at_call 90; go_loud (refine (HSK.out _ m sk HML.out (HTI.out.below HBC.out) HSKE.out).mono ?_; rintro e w3 ⟨x3, rfl, ho3, hb3⟩; have HO3 := Lib.hid ho3.ints; have HB3 := Lib.hid (HBC.out.trans (hb3.mono HBC.out.size)); have HB3C := Lib.hid hb3; clear ho3 hb3))
            | (go_at_call 62; go_loud (refine (HFI.out _ _ _ (HXQ.out.below HB3.out) HO3.out).mono ?_; rintro e w4 ⟨rfl, n4, hw4⟩; have hb4 : Below w3.heap.size w3 w4 := hw4.symm ▸ below_drewN (Below.refl w3.heap.size w3) n4; clear hw4; have hcx := keepCell (HB3C.out.trans (hb4.mono HB3C.out.size)) HCX.out; have HB4 := Lib.hid (HB3.out.trans (hb4.mono HB3.out.size)); clear hb4))
            | (go_at_call 91; go_loud (refine (HPC.out _ m pcs HML.out (HTI.out.below HB4.out) HPCE.out HPIE.out).mono ?_; rintro e w5 ⟨x5, rfl, ho5, hb5⟩; rw [← HQE.out] at ho5; obtain ⟨A5, c5, he5, -, -, -⟩ := ho5.rows.open_; rw [List.length_map] at he5; subst he5; have HO5 := Lib.hid ho5.rows; have HB5 := Lib.hid (HB4.out.trans (hb5.mono HB4.out.size)); clear ho5 hb5)))
          go_loopw [11, 13] (fun s x wr => ∃ q : Nat, q ≤ Q.length ∧ x = .int .i64 q ∧ s = .int .i64 (y * prodZ (gat b ((Q.take q).map (idxN T6n))) % 10007) ∧ Below w5.heap.size w5 wr) (fun _ x _ => Q.length - (intOf x).toNat)
          case atStart => exact ⟨0, Nat.zero_le _, rfl, by simp [gat, prodZ]; omega, Below.refl _ _⟩
          case round =>
            obtain ⟨q, hq, rfl, rfl, hb6⟩ := hrel
            rename World => w6
            obtain ⟨pt, hpt⟩ : ∃ pt, pt = y * prodZ (gat b ((Q.take q).map (idxN T6n))) % 10007 := ⟨_, rfl⟩
            rw [← hpt]
            have hpb : 0 ≤ pt ∧ pt ≤ 10006 := by omega
            by_cases hlq : q < Q.length
            · by_cases hz : pt = 0
              · have hd : (pt != 0) = false := by simp [hz]
                have hdq : decide ((q : Int) < (Q.length : Int)) = true := decide_eq_true (by omega)
                have HPTF := Lib.hid (show pt = y * prodZ (gat b (Q.map (idxN T6n))) % 10007 from by
                  rw [hz]
                  have e : prodZ (gat b (Q.map (idxN T6n))) = prodZ (gat b ((Q.take q).map (idxN T6n))) * prodZ (gat b ((Q.drop q).map (idxN T6n))) := by
                    rw [← prodZ_append]
                    unfold gat
                    rw [← List.map_append, ← List.map_append, List.take_append_drop]
                  rw [e, ← Int.mul_assoc, ← mul_modL, ← hpt, hz]
                  simp)
                have hqi : (q : Int) < (Q.length : Int) := by omega
                clear hpt hz
                have HBF := Lib.hid (HB5.out.trans (hb6.mono HB5.out.size))
                have HAD := Lib.hid (show (msk (fun _ => true) a b t k % 10007 + pt) % 10007 = msk (fun _ => true) a b t (k + 1) % 10007 from by rw [HMF.out, HF.out, HPTF.out]; omega)
                have hmb : 0 ≤ msk (fun _ => true) a b t k % 10007 ∧ msk (fun _ => true) a b t k % 10007 ≤ 10006 := by omega
                generalize msk (fun _ => true) a b t k % 10007 = sm at *
                clear hb6
                go_wp2_with (go_at_call 93; refine (s_l01Add sm pt _ (by omega) (by omega) (by omega) (by omega)).mono ?_; rintro e w9 ⟨rfl, rfl⟩)
                go_roundw
                case rel => exact ⟨k + 1, m + 2, by omega, by go_num, by have := HMK.out; show m + 2 = 2 * (k + 1); omega, by rw [HAD.out], HBF.out⟩
                case measure => have := HMK.out; have := HMM.out; simp [intOf]; omega
              · have hd : (pt != 0) = true := by simp [hz]
                have hdq : decide ((q : Int) < (Q.length : Int)) = true := decide_eq_true (by omega)
                obtain ⟨A', c', he, -, -, h3⟩ := rowsAt (HO5.out.below hb6)
                simp only [Value.slice.injEq, true_and] at he
                obtain ⟨rfl, rfl⟩ := he
                obtain ⟨adq, z, A7, c7, rfl, hzq, hzi, hzc⟩ := h3 q hlq
                obtain ⟨z0, hz0, hz37, hfz⟩ := find_at (HOPC.out z (List.mem_of_getElem? hzq))
                have HFZ := Lib.hid hfz
                have HZI := Lib.hid hzi
                have hbc : Below wq.heap.size wq w6 := HB5.out.trans (hb6.mono HB5.out.size)
                have HBC6 := Lib.hid hbc
                have HXR := Lib.hid (HXQ.out.below hbc)
                obtain ⟨_, hab, hcb, hy0, hy1⟩ := map_cell ((HB1.out.below HBQ.out).below hbc) HNB.out (k := z0 + 1) (by omega)
                simp only [Option.some.injEq] at hab
                subst hab
                have HCB := Lib.hid (show w6.cell? ⟨adb.block, adb.off + (z0 + 1), none⟩ = some (.int .i64 (b.getD (z0 + 1) 0)) from by simpa [Addr.add] using hcb)
                have hpl2 : (z0 : Int) + 1 < 38 := by omega
                have hpn : y * prodZ (gat b ((Q.take (q + 1)).map (idxN T6n))) % 10007 = pt * b.getD (z0 + 1) 0 % 10007 := by
                  rw [List.take_add_one, hzq, List.map_append]
                  show y * prodZ (gat b ((Q.take q).map (idxN T6n) ++ [idxN T6n z])) % 10007 = _
                  unfold gat
                  rw [List.map_append]
                  show y * prodZ (((Q.take q).map (idxN T6n)).map (fun k => b.getD k 0) ++ [b.getD (idxN T6n z) 0]) % 10007 = _
                  rw [prodZ_snoc, hz0, ← Int.mul_assoc, ← mul_modL, hpt]
                  rfl
                have HPN := Lib.hid hpn
                generalize b.getD (z0 + 1) 0 = yb at *
                have hqi : (q : Int) < (Q.length : Int) := by omega
                have HB6 := Lib.hid hb6
                clear hpt hz h3 hzq hz0 hfz hzi hbc hcb hpn hb6
                go_wp2_with (first
                  | (go_at_call 62; go_loud (refine (HFZ.out _ _ _ HXR.out HZI.out).mono ?_; rintro e w8 ⟨rfl, n8, hw8⟩; have hb8 : Below w6.heap.size w6 w8 := hw8.symm ▸ below_drewN (Below.refl w6.heap.size w6) n8; clear hw8; have hcy := keepCell hb8 HCB.out; have HB8 := Lib.hid hb8; clear hb8))
                  | (go_at_call 92; refine (s_l01Mul pt yb _ (by omega) (by omega) (by omega) (by omega)).mono ?_; rintro e w9 ⟨rfl, rfl⟩))
                go_roundw
                case rel => exact ⟨q + 1, by omega, by go_num, by rw [HPN.out], HB6.out.trans (HB8.out.mono HB6.out.size)⟩
                case measure => simp [intOf]; omega
            · have hdq : decide ((q : Int) < (Q.length : Int)) = false := decide_eq_false (by omega)
              have hqi : ¬ (q : Int) < (Q.length : Int) := by omega
              have HPTF := Lib.hid (show pt = y * prodZ (gat b (Q.map (idxN T6n))) % 10007 from by rw [hpt, List.take_of_length_le (by omega)])
              clear hpt
              have HBF := Lib.hid (HB5.out.trans (hb6.mono HB5.out.size))
              have HAD := Lib.hid (show (msk (fun _ => true) a b t k % 10007 + pt) % 10007 = msk (fun _ => true) a b t (k + 1) % 10007 from by rw [HMF.out, HF.out, HPTF.out]; omega)
              have hmb : 0 ≤ msk (fun _ => true) a b t k % 10007 ∧ msk (fun _ => true) a b t k % 10007 ≤ 10006 := by omega
              generalize msk (fun _ => true) a b t k % 10007 = sm at *
              clear hb6
              go_wp2_with (go_at_call 93; refine (s_l01Add sm pt _ (by omega) (by omega) (by omega) (by omega)).mono ?_; rintro e w9 ⟨rfl, rfl⟩)
              go_roundw
              case rel => exact ⟨k + 1, m + 2, by omega, by go_num, by have := HMK.out; show m + 2 = 2 * (k + 1); omega, by rw [HAD.out], HBF.out⟩
              case measure => have := HMK.out; have := HMM.out; simp [intOf]; omega
        · have hkN : k = N := by omega
          subst hkN
          have hmi : ¬ ((m : Int) < (M : Int)) := by omega
          have hml : ¬ (m < M) := by omega
          have HOX := Lib.hid (HO.out.below hb)
          have hmb : 0 ≤ msk (fun _ => true) a b t k % 10007 ∧ msk (fun _ => true) a b t k % 10007 ≤ 10006 := by omega
          clear hb hmk hMM
          generalize msk (fun _ => true) a b t k % 10007 = sm at *
          have hsh := HSH.out.1
          have hsh2 := HSH.out.2
          go_upto_region 17 with fail
          clear hsh hsh2
          go_wp2_with (at_builtin; go_loud (refine wpList_app1 T_int HOX.out (by rw [ints_len, HEL.out]; omega) (Nat.le_trans HBQ.out.size HBC.out.size) (by rfl) rfl (by rfl) (by rfl) (by rfl) ?_; intro v1 w9 hown1 hgr1; have HN := Lib.hid hown1; have HGR := Lib.hid hgr1; clear hown1 hgr1))
          go_roundw
          case rel =>
            refine ⟨i + 1, by omega, by go_num, ?_, HG.out.trans (Grow.pre HBC.out HGR.out)⟩
            rw [HTS.out]; exact HN.out
          case measure => simp [intOf]; omega
    · have hil : i + 1 = (subZ b a).length := by rw [HSZ.out]; omega
      have HF := Lib.hid (show (subZ b a).take (i + 1) = subZ b a from by rw [hil]; exact List.take_length)
      clear hil
      go_wp2_with fail
      go_ret
      refine ⟨_, rfl, ⟨?_, fun z hz => in64_num (subZ_nums HNA.out z hz)⟩, HBQ.out⟩
      have h := HO.out
      rw [HF.out] at h
      exact h
end Go.Proofs.YtheldcjiogpbjaaGreat
