/- Walks: l05Put of the reference. -/
import Derived.Test.YtdjhfeaimmpmhaaGreatZm26
import Derived.Test.YtdjhfeaimmpmhaaGreatZm15
import Derived.Test.YtdjhfeaimmpmhaaGreatZm19
import Derived.Test.YtdjhfeaimmpmhaaGreatZm18
import Derived.Test.YtdjhfeaimmpmhaaGreatZm11
set_option maxRecDepth 100000
set_option linter.unusedVariables false
set_option linter.unusedSimpArgs false
namespace Go.Proofs.YtdjhfeaimmpmhaaGreat
open Go.RowKit

theorem sc_parts {w : World} {B : Nat} {css : List (List Value)} {l : List SC} {e : TypeId} {A2 : Option Addr} {c2 i : Nat} {x : SC} (h : OwnK w B e 3 (.slice A2 css.length c2) css) (he : Elts eSc w B css l) (hx : l[i]? = some x) :
    ∃ go Au cu As cs, A2 = some ⟨go, 0, none⟩ ∧ css[i]? = some [.slice Au x.1.1.length cu, .slice As x.1.2.length cs, .int .i64 (x.2 : Nat)] ∧ fldF.P w B (.slice Au x.1.1.length cu) x.1.1 ∧ fldF.P w B (.slice As x.1.2.length cs) x.1.2 ∧
      w.cell? ⟨go, i * 3, none⟩ = some (.slice Au x.1.1.length cu) ∧ w.cell? ⟨go, i * 3 + 1, none⟩ = some (.slice As x.1.2.length cs) ∧ w.cell? ⟨go, i * 3 + 2, none⟩ = some (.int .i64 (x.2 : Nat)) := by
  obtain ⟨c, hc, u, s, rfl, hu, hs⟩ := he.at_ hx
  have hu1 : LL w B u (x.1.1.map up) ∧ x.1.1.length ≤ 1000000 ∧ ndN x.1.1 ≤ 1000000 := hu
  have hs1 : LL w B s (x.1.2.map up) ∧ x.1.2.length ≤ 1000000 ∧ ndN x.1.2 ≤ 1000000 := hs
  obtain ⟨Au, cu, rfl, -, -, -⟩ := hu1.1.rows.open_
  obtain ⟨As, cs, rfl, -, -, -⟩ := hs1.1.rows.open_
  rw [List.length_map] at hu hs hc
  rw [List.length_map] at hc
  obtain ⟨go, cg, heo, hg0⟩ := h.cell (j := 0) hc rfl
  simp only [Value.slice.injEq] at heo
  obtain ⟨rfl, -, rfl⟩ := heo
  refine ⟨go, Au, cu, As, cs, rfl, hc, hu, hs, hg0, ?_, ?_⟩
  · obtain ⟨g', c', he', h'⟩ := h.cell (j := 1) hc rfl; simp only [Value.slice.injEq, Option.some.injEq, Addr.mk.injEq, and_true, true_and] at he'; rw [he'.1]; exact h'
  · obtain ⟨g', c', he', h'⟩ := h.cell (j := 2) hc rfl; simp only [Value.slice.injEq, Option.some.injEq, Addr.mk.injEq, and_true, true_and] at he'; rw [he'.1]; exact h'

def stp5 (r : Nat) (out : List SC) (cut own : SC) : List SC × Bool := match r with
  | 0 => (out ++ [(own.1, own.2 + cut.2)], true)
  | 1 => (out ++ [cut] ++ [own], true)
  | _ => (out ++ [own], false)
theorem sc_cells {w : World} {B : Nat} {css : List (List Value)} {e : TypeId} {g c2 n i : Nat} {x y z : Value} (h : OwnK w B e 3 (.slice (some ⟨g, 0, none⟩) n c2) css) (hc : css[i]? = some [x, y, z]) :
    w.cell? ⟨g, i * 3, none⟩ = some x ∧ w.cell? ⟨g, i * 3 + 1, none⟩ = some y ∧ w.cell? ⟨g, i * 3 + 2, none⟩ = some z := ⟨h.cellAt (j := 0) hc rfl, h.cellAt (j := 1) hc rfl, h.cellAt (j := 2) hc rfl⟩
set_option maxHeartbeats 16000000 in
theorem s_l05Put (w : World) (vl : Value) (c : List Value) (l : List SC) (cut : SC) (B M : Nat) (hB : B ≤ w.heap.size) (hl : SLs eSc tSp w B vl l) (hc : eSc.D w B c cut) (hn : l.length ≤ 100000) (hM : ∀ x ∈ l, x.2 ≤ M) (hM2 : M + cut.2 ≤ 1000000000) :
    Calls Tryz.prog 221 #[vl, .agg c.toArray] w fun e w' => ∃ x, e = .returned x ∧ SLs eSc tSp w' B x (put5 l cut) ∧ Below w.heap.size w w' := by
  have HCD := Lib.hid hc
  obtain ⟨css, ho, he⟩ := hl
  obtain ⟨u, s, rfl, hcu, hcs⟩ := hc
  have hcu1 : LL w B u (cut.1.1.map up) ∧ cut.1.1.length ≤ 1000000 ∧ ndN cut.1.1 ≤ 1000000 := hcu
  have hcs1 : LL w B s (cut.1.2.map up) ∧ cut.1.2.length ≤ 1000000 ∧ ndN cut.1.2 ≤ 1000000 := hcs
  obtain ⟨Au, cu, he1, -, -, -⟩ := hcu1.1.rows.open_
  obtain ⟨As, cs, he2, -, -, -⟩ := hcs1.1.rows.open_
  rw [List.length_map] at he1 he2
  subst he1 he2
  obtain ⟨⟨cut1, cut2⟩, cn⟩ := cut
  have hcu : fldF.P w B (.slice Au cut1.length cu) cut1 := hcu
  have hcs : fldF.P w B (.slice As cut2.length cs) cut2 := hcs
  have HCU := Lib.hid hcu
  have HCS := Lib.hid hcs
  obtain ⟨A, cA, rfl, -, -⟩ := ho.open_
  have hcl := he.1
  have HO0 := Lib.hid ho
  have HE0 := Lib.hid he
  have HCL := Lib.hid hcl
  have HM := Lib.hid hM
  have hcl5 : css.length ≤ 100000 := by omega
  have hM2 : M + cn ≤ 1000000000 := hM2
  obtain ⟨w2, hw2⟩ : ∃ w2, w2 = (w.alloc (.cells #[.slice Au cut1.length cu, .slice As cut2.length cs, .int .i64 (cn : Nat)] tSp)).alloc (.cells #[] tSp) := ⟨_, rfl⟩
  have hb2 : Below w.heap.size w w2 := by rw [hw2]; exact (below1 w _).trans ((below1 _ _).mono (by simp))
  have HB2 := Lib.hid hb2
  have HBX := Lib.hid (show Blk w2 w.heap.size tSp #[.slice Au cut1.length cu, .slice As cut2.length cs, .int .i64 (cn : Nat)] from by rw [hw2]; exact (Blk.new w _ _).alloc _)
  have OL := Lib.hid (show OwnK w2 (w.heap.size + 1) tSp 3 (.slice (some ⟨w.heap.size + 1, 0, none⟩) 0 0) [] from by
    rw [hw2]
    have h := OwnK.lit (w.alloc (.cells #[.slice Au cut1.length cu, .slice As cut2.length cs, .int .i64 (cn : Nat)] tSp)) tSp 3 [] (fun c hc => by simp at hc) (by simp [maxLen]) #[] rfl
    rw [size_alloc'] at h
    exact h)
  have HL5 := Lib.hid hn
  clear hcu1 hcs1 hcu hcs ho he hcl hM hb2 hn
  go_enter Tryz.func221, Tryz.ntmps221
  go_wp2_with fail
  rw [← hw2]
  clear hw2
  go_loopw [5, 6, 7] (fun o d i wr => ∃ (k : Nat) (css3 : List (List Value)), k ≤ css.length ∧ i = .int .i64 k ∧ d = .bool (put5S ((cut1, cut2), cn) (l.take k)).2 ∧ OwnK wr (w.heap.size + 1) tSp 3 o css3 ∧ Elts eSc wr B css3 (put5S ((cut1, cut2), cn) (l.take k)).1 ∧ Blk wr w.heap.size tSp #[.slice Au cut1.length cu, .slice As cut2.length cs, .int .i64 (cn : Nat)] ∧ Below w.heap.size w wr) (fun _ _ i _ => css.length - (intOf i).toNat)
  case atStart => exact ⟨0, [], Nat.zero_le _, rfl, rfl, OL.out, Elts.nil _ _ _, HBX.out, HB2.out⟩
  case round =>
    obtain ⟨k, css3, hk, rfl, rfl, ho, he, hx, hb⟩ := hrel
    clear OL HBX HB2
    obtain ⟨Ao, co, rfl, -, -⟩ := ho.open_
    have HO := Lib.hid ho
    have HB := Lib.hid hb
    have HX := Lib.hid hx
    have hszr := hb.size
    have hbd := put5S_bd0 (cut := ((cut1, cut2), cn)) (M := M) (l := l.take k) (fun x hx => HM.out x (List.mem_of_mem_take hx))
    have HSN := Lib.hid (fun x (h : l[k]? = some x) => show put5S ((cut1, cut2), cn) (l.take (k + 1)) = step5 ((cut1, cut2), cn) (put5S ((cut1, cut2), cn) (l.take k)) x from by rw [List.take_add_one, h]; exact put5S_snoc _ _ _)
    have HPE := Lib.hid (show k = css.length → put5 l ((cut1, cut2), cn) = (match (put5S ((cut1, cut2), cn) (l.take k)).2 with | true => (put5S ((cut1, cut2), cn) (l.take k)).1 | false => (put5S ((cut1, cut2), cn) (l.take k)).1 ++ [((cut1, cut2), cn)]) from fun h => by rw [List.take_of_length_le (by rw [h, HCL.out]; exact Nat.le_refl _)]; rfl)
    have hll : (l.take k).length ≤ 100000 := Nat.le_trans (List.length_take_le _ _) (by omega)
    generalize put5S ((cut1, cut2), cn) (l.take k) = st at *
    obtain ⟨out, d⟩ := st
    have he : Elts eSc wr B css3 out := he
    have hbd1 : out.length ≤ (l.take k).length + (bif d then 1 else 0) := hbd.1
    have hcl3 : css3.length ≤ 100001 := by rw [he.1]; cases d <;> simp at hbd1 <;> omega
    have HE := Lib.hid he
    clear ho he hx hb hbd hbd1 hll
    by_cases hlt : k < css.length
    · obtain ⟨x, hx⟩ : ∃ x, l[k]? = some x := ⟨_, List.getElem?_eq_getElem (by rw [← HCL.out]; exact hlt)⟩
      have hxm := HM.out x (List.mem_of_getElem? hx)
      have hst := HSN.out x hx
      obtain ⟨go, Au2, cu2, As2, cs2, rfl, hxi, hu, hs, hq0, hq1, hq2⟩ := sc_parts (HO0.out.below HB.out) (HE0.out.below HB.out) hx
      obtain ⟨⟨x1, x2⟩, n⟩ := x
      have hxm : n ≤ M := hxm
      have HXI := Lib.hid hxi
      clear hxi
      have HU := Lib.hid (show fldF.P wr B (.slice Au2 x1.length cu2) x1 from hu)
      have HS := Lib.hid (show fldF.P wr B (.slice As2 x2.length cs2) x2 from hs)
      have hq0 : wr.cell? ⟨go, k * 3, none⟩ = some (.slice Au2 x1.length cu2) := hq0
      have hq1 : wr.cell? ⟨go, k * 3 + 1, none⟩ = some (.slice As2 x2.length cs2) := hq1
      have hq2 : wr.cell? ⟨go, k * 3 + 2, none⟩ = some (.int .i64 (n : Nat)) := hq2
      have hkk : (k : Int) < (css.length : Int) := by omega
      clear hu hs hx
      cases d with
      | true =>
        have HST := Lib.hid (show put5S ((cut1, cut2), cn) (l.take (k + 1)) = (out ++ [((x1, x2), n)], true) from hst)
        clear hst
        go_upto_region 16 with fail
        obtain ⟨W, hW⟩ : ∃ W, W = wr.alloc (.cells #[.slice Au2 x1.length cu2, .slice As2 x2.length cs2, .int .i64 (n : Nat)] tSp) := ⟨_, rfl⟩
        have hbw : Below wr.heap.size wr W := by rw [hW]; exact below1 wr _
        have HKW := Lib.hid (show Blk W wr.heap.size tSp #[.slice Au2 x1.length cu2, .slice As2 x2.length cs2, .int .i64 (n : Nat)] from by rw [hW]; exact Blk.new _ _ _)
        have HBW := Lib.hid (HB.out.trans (hbw.mono HB.out.size))
        have HOW := Lib.hid (HO.out.below hbw)
        have HEW := Lib.hid (HE.out.below hbw)
        have HXW := Lib.hid (HX.out.below hbw HX.out.lt)
        have HUW := Lib.hid (fldF.below HU.out hbw)
        have HSW := Lib.hid (fldF.below HS.out hbw)
        rw [← hW]
        clear hW hbw
        have hw0 : W.cell? ⟨wr.heap.size, 0, none⟩ = some (.slice Au2 x1.length cu2) := HKW.out.cell 0
        have hw1 : W.cell? ⟨wr.heap.size, 1, none⟩ = some (.slice As2 x2.length cs2) := HKW.out.cell 1
        have hw2 : W.cell? ⟨wr.heap.size, 2, none⟩ = some (.int .i64 (n : Nat)) := HKW.out.cell 2
        have HOW2 := Lib.hid (fun o => HOW.out.below (below1 W o))
        have hszW := HBW.out.size
        go_wp2_with (at_builtin; go_must (refine wpList_app1K T_split (ad := ⟨W.heap.size, 0, none⟩) (W := W.alloc (.cells #[.slice Au2 x1.length cu2, .slice As2 x2.length cs2, .int .i64 (n : Nat)] tSp)) (c := [.slice Au2 x1.length cu2, .slice As2 x2.length cs2, .int .i64 (n : Nat)]) (HOW2.out _) (by first | omega | (rw [List.length_append, List.length_singleton]; omega)) (by simp; omega) rfl (by intro u hu; simp at hu; rcases hu with rfl | rfl | rfl <;> rfl) (fun j u hu => lit_cells W tSp [.slice Au2 x1.length cu2, .slice As2 x2.length cs2, .int .i64 (n : Nat)] #[.slice Au2 x1.length cu2, .slice As2 x2.length cs2, .int .i64 (n : Nat)] rfl j u hu) (by rfl) rfl (by rfl) (by rfl) ?_; intro v6 w6 hown6 hgr6; have HN6 := Lib.hid hown6; have HG6 := Lib.hid hgr6; clear hown6 hgr6))
        go_roundw
        case rel =>
          refine ⟨k + 1, _, by omega, by go_num, by rw [HST.out], HN6.out, ?_, ?_, ?_⟩
          · rw [HST.out]
            exact ((HEW.out.below (below1 W _)).snoc (x := ((x1, x2), n)) ⟨_, _, rfl, fldF.below HUW.out (below1 W _), fldF.below HSW.out (below1 W _)⟩).kept HG6.out.1 (HOW2.out _).bt (by decide) (by decide)
          · exact (HXW.out.below (below1 W _) HXW.out.lt).keptG HG6.out.1 (fun e => by have := HOW.out.ge _ e; omega)
          · exact HG6.out.below (HBW.out.trans ((below1 W _).mono HBW.out.size)) (by simp; omega) (fun b hb => Nat.le_of_succ_le (HOW.out.ge b hb))
        case measure => simp [intOf]; omega
      | false =>
        obtain ⟨S, hS1, hS2⟩ : ∃ S : World → Prop, (∀ Wx, S Wx → Below wr.heap.size wr Wx) ∧ (∀ Wx, Below wr.heap.size wr Wx → S Wx) := ⟨fun Wx => Below wr.heap.size wr Wx, fun _ h => h, fun _ h => h⟩
        have HSE := Lib.hid (show ∀ x : GW S, Below wr.heap.size wr x.w from fun x => hS1 _ x.h)
        have HSI := Lib.hid (show S wr.drew from hS2 _ (Below.refl wr.heap.size wr).drew)
        have hy0 : ∀ x : GW S, x.w.cell? ⟨go, k * 3, none⟩ = some (.slice Au2 x1.length cu2) := fun x => keepCell (HSE.out x) hq0
        have hy1 : ∀ x : GW S, x.w.cell? ⟨go, k * 3 + 1, none⟩ = some (.slice As2 x2.length cs2) := fun x => keepCell (HSE.out x) hq1
        have hy2 : ∀ x : GW S, x.w.cell? ⟨go, k * 3 + 2, none⟩ = some (.int .i64 (n : Nat)) := fun x => keepCell (HSE.out x) hq2
        have hy3 : ∀ x : GW S, x.w.cell? ⟨w.heap.size, 0, none⟩ = some (.slice Au cut1.length cu) := fun x => keepCell (HSE.out x) (HX.out.cell 0)
        have hy4 : ∀ x : GW S, x.w.cell? ⟨w.heap.size, 1, none⟩ = some (.slice As cut2.length cs) := fun x => keepCell (HSE.out x) (HX.out.cell 1)
        have hy5 : ∀ x : GW S, x.w.cell? ⟨w.heap.size, 2, none⟩ = some (.int .i64 (cn : Nat)) := fun x => keepCell (HSE.out x) (HX.out.cell 2)
        obtain ⟨r, hr⟩ : ∃ r, r = ord5 (cut1, cut2) (x1, x2) := ⟨_, rfl⟩
        have HOR := Lib.hid (show ∀ x : GW S, Calls Tryz.prog 239 #[.agg #[.slice Au cut1.length cu, .slice As cut2.length cs, .int .i64 (cn : Nat)], .agg #[.slice Au2 x1.length cu2, .slice As2 x2.length cs2, .int .i64 (n : Nat)]] x.w (fun e w' => e = .returned (.int .i64 (cod5 r)) ∧ S w') from fun x => (s_l05Order x.w B B [.slice Au cut1.length cu, .slice As cut2.length cs, .int .i64 (cn : Nat)] [.slice Au2 x1.length cu2, .slice As2 x2.length cs2, .int .i64 (n : Nat)] ((cut1, cut2), cn) ((x1, x2), n) ⟨_, _, rfl, fldF.below HCU.out (HB.out.trans ((HSE.out x).mono HB.out.size)), fldF.below HCS.out (HB.out.trans ((HSE.out x).mono HB.out.size))⟩ ⟨_, _, rfl, fldF.below HU.out (HSE.out x), fldF.below HS.out (HSE.out x)⟩).mono (by rintro e w7 ⟨rfl, hb7⟩; rw [hr]; exact ⟨rfl, hS2 _ ((HSE.out x).trans (hb7.mono (HSE.out x).size))⟩))
        have hst : put5S ((cut1, cut2), cn) (l.take (k + 1)) = stp5 r out ((cut1, cut2), cn) ((x1, x2), n) := by rw [hst, hr]; rfl
        clear hS1 hS2 hr
        go_upto_region 8 with fail
        refine wp_region_grow S (by kernel_rfl) (by kernel_rfl) HSI.out (fun hne => ?_)
        repeat (go_big_quiet_step ((go_at_call 239; exact grow_call (HOR.out _))))
        refine wpQuiet_nil ?_
        rintro _ ⟨xq, rfl⟩
        obtain ⟨wz, hwz⟩ : ∃ wz, wz = xq.w := ⟨_, rfl⟩
        have hbz : Below wr.heap.size wr wz := by rw [hwz]; exact HSE.out xq
        rw [← hwz]
        clear hwz hy0 hy1 hy2 hy3 hy4 hy5 HOR HSE HSI xq hne
        have HBZ := Lib.hid (HB.out.trans (hbz.mono HB.out.size))
        have HOZ := Lib.hid (HO.out.below hbz)
        have HEZ := Lib.hid (HE.out.below hbz)
        have HXZ := Lib.hid (HX.out.below hbz HX.out.lt)
        have HUZ := Lib.hid (fldF.below HU.out hbz)
        have HSZ := Lib.hid (fldF.below HS.out hbz)
        have hq0 := keepCell hbz hq0
        have hq1 := keepCell hbz hq1
        have hq2 := keepCell hbz hq2
        have hk0 : wz.cell? ⟨w.heap.size, 0, none⟩ = some (.slice Au cut1.length cu) := HXZ.out.cell 0
        have hk1 : wz.cell? ⟨w.heap.size, 1, none⟩ = some (.slice As cut2.length cs) := HXZ.out.cell 1
        have hk2 : wz.cell? ⟨w.heap.size, 2, none⟩ = some (.int .i64 (cn : Nat)) := HXZ.out.cell 2
        clear hbz
        have hszz := HBZ.out.size
        match r, hst with
        | 0, hst =>
          have HST := Lib.hid (show put5S ((cut1, cut2), cn) (l.take (k + 1)) = (out ++ [((x1, x2), n + cn)], true) from hst)
          clear hst
          have hwn : IntKind.i64.wrap ((n : Int) + (cn : Int)) = ((n + cn : Nat) : Int) := by rw [show ((n + cn : Nat) : Int) = (n : Int) + (cn : Int) from by omega]; exact IntWalk.i64_in _ (by omega)
          go_upto_region 14 with fail
          obtain ⟨W1, hW1⟩ : ∃ W, W = wz.alloc (.cells #[.slice Au2 x1.length cu2, .slice As2 x2.length cs2, .int .i64 (n : Nat)] tSp) := ⟨_, rfl⟩
          have hbw1 : Below wz.heap.size wz W1 := by rw [hW1]; exact below1 wz _
          have HKW1 := Lib.hid (show Blk W1 wz.heap.size tSp #[.slice Au2 x1.length cu2, .slice As2 x2.length cs2, .int .i64 (n : Nat)] from by rw [hW1]; exact Blk.new _ _ _)
          have HBW1 := Lib.hid (HBZ.out.trans (hbw1.mono HBZ.out.size))
          have HOW1 := Lib.hid (HOZ.out.below hbw1)
          have HEW1 := Lib.hid (HEZ.out.below hbw1)
          have HXW1 := Lib.hid (HXZ.out.below hbw1 HXZ.out.lt)
          have HUW1 := Lib.hid (fldF.below HUZ.out hbw1)
          have HSW1 := Lib.hid (fldF.below HSZ.out hbw1)
          rw [← hW1]
          clear hW1 hbw1
          have hk2 : W1.cell? ⟨w.heap.size, 2, none⟩ = some (.int .i64 (cn : Nat)) := HXW1.out.cell 2
          have hv2 : W1.cell? ⟨wz.heap.size, 2, none⟩ = some (.int .i64 (n : Nat)) := HKW1.out.cell 2
          have hvf : W1.frozen? ⟨wz.heap.size, 2, none⟩ = false := HKW1.out.frozen 2
          go_upto_region 16 with fail
          obtain ⟨W, hW⟩ : ∃ W, W = W1.setCell ⟨wz.heap.size, 2, none⟩ (.int .i64 ((n : Int) + (cn : Int))) := ⟨_, rfl⟩
          have gs : W1.grownBy W (Value.slice (some ⟨wz.heap.size, 0, none⟩) 1 1).ownBlock := by rw [hW]; exact grown_set W1 wz.heap.size 2 _
          have bs : BT W1 tSp (Value.slice (some ⟨wz.heap.size, 0, none⟩) 1 1) := .inr ⟨_, _, _, rfl, HKW1.out⟩
          have HKW := Lib.hid (show Blk W wz.heap.size tSp #[.slice Au2 x1.length cu2, .slice As2 x2.length cs2, .int .i64 ((n : Int) + (cn : Int))] from by rw [hW]; exact HKW1.out.set_ 2 _)
          have HBW := Lib.hid (show Below w.heap.size w W from by rw [hW]; exact HBW1.out.setCell (p := ⟨wz.heap.size, 2, none⟩) hszz _)
          have HOW := Lib.hid (HOW1.out.kept gs (.inr (fun e => absurd (HOZ.out.lt wz.heap.size e) (Nat.lt_irrefl _))))
          have HEW := Lib.hid (HEW1.out.kept gs bs (by decide) (by decide))
          have HXW := Lib.hid (HXW1.out.keptG gs (fun e => by have := HXZ.out.lt; simp [Value.ownBlock] at e; omega))
          have HUW := Lib.hid (fldF.kept HUW1.out gs bs (by decide) (by decide))
          have HSW := Lib.hid (fldF.kept HSW1.out gs bs (by decide) (by decide))
          rw [← hW]
          clear hW gs bs hk2 hv2 hvf
          have hw0 : W.cell? ⟨wz.heap.size, 0, none⟩ = some (.slice Au2 x1.length cu2) := HKW.out.cell 0
          have hw1 : W.cell? ⟨wz.heap.size, 1, none⟩ = some (.slice As2 x2.length cs2) := HKW.out.cell 1
          have hw2 : W.cell? ⟨wz.heap.size, 2, none⟩ = some (.int .i64 ((n : Int) + (cn : Int))) := HKW.out.cell 2
          have HOW2 := Lib.hid (fun o => HOW.out.below (below1 W o))
          have hszW := HBW.out.size
          go_wp2_with (at_builtin; go_must (refine wpList_app1K T_split (ad := ⟨W.heap.size, 0, none⟩) (W := W.alloc (.cells #[.slice Au2 x1.length cu2, .slice As2 x2.length cs2, .int .i64 ((n : Int) + (cn : Int))] tSp)) (c := [.slice Au2 x1.length cu2, .slice As2 x2.length cs2, .int .i64 ((n : Int) + (cn : Int))]) (HOW2.out _) (by first | omega | (rw [List.length_append, List.length_singleton]; omega)) (by simp; omega) rfl (by intro u hu; simp at hu; rcases hu with rfl | rfl | rfl <;> rfl) (fun j u hu => lit_cells W tSp [.slice Au2 x1.length cu2, .slice As2 x2.length cs2, .int .i64 ((n : Int) + (cn : Int))] #[.slice Au2 x1.length cu2, .slice As2 x2.length cs2, .int .i64 ((n : Int) + (cn : Int))] rfl j u hu) (by rfl) rfl (by rfl) (by rfl) ?_; intro v6 w6 hown6 hgr6; have HN6 := Lib.hid hown6; have HG6 := Lib.hid hgr6; clear hown6 hgr6))
          go_roundw
          case rel =>
            refine ⟨k + 1, _, by omega, by go_num, by rw [HST.out], HN6.out, ?_, ?_, ?_⟩
            · rw [HST.out]
              exact ((HEW.out.below (below1 W _)).snoc (x := ((x1, x2), n + cn)) ⟨_, _, rfl, fldF.below HUW.out (below1 W _), fldF.below HSW.out (below1 W _)⟩).kept HG6.out.1 (HOW2.out _).bt (by decide) (by decide)
            · exact (HXW.out.below (below1 W _) HXW.out.lt).keptG HG6.out.1 (fun e => by have := HOW.out.ge _ e; omega)
            · exact HG6.out.below (HBW.out.trans ((below1 W _).mono HBW.out.size)) (by simp; omega) (fun b hb => Nat.le_of_succ_le (HOW.out.ge b hb))
          case measure => simp [intOf]; omega
        | 1, hst =>
          have HST := Lib.hid (show put5S ((cut1, cut2), cn) (l.take (k + 1)) = ((out ++ [((cut1, cut2), cn)]) ++ [((x1, x2), n)], true) from hst)
          clear hst
          have HOZ2 := Lib.hid (fun o => HOZ.out.below (below1 wz o))
          have HELL := Lib.hid hcl3
          go_upto_region 16 with (at_builtin; go_must (refine wpList_app1K T_split (ad := ⟨wz.heap.size, 0, none⟩) (W := wz.alloc (.cells #[.slice Au cut1.length cu, .slice As cut2.length cs, .int .i64 (cn : Nat)] tSp)) (c := [.slice Au cut1.length cu, .slice As cut2.length cs, .int .i64 (cn : Nat)]) (HOZ2.out _) (by omega) (by simp; omega) rfl (by intro u hu; simp at hu; rcases hu with rfl | rfl | rfl <;> rfl) (fun j u hu => lit_cells wz tSp [.slice Au cut1.length cu, .slice As cut2.length cs, .int .i64 (cn : Nat)] #[.slice Au cut1.length cu, .slice As cut2.length cs, .int .i64 (cn : Nat)] rfl j u hu) (by rfl) rfl (by rfl) (by rfl) ?_; intro v5 w5 hown5 hgr5; obtain ⟨A5, c5, he5, -, -⟩ := hown5.open_; rw [List.length_append, List.length_singleton] at he5; subst he5; have HN5 := Lib.hid hown5; have HG5 := Lib.hid hgr5; have hbwz : Below wz.heap.size wz (wz.alloc (.cells #[.slice Au cut1.length cu, .slice As cut2.length cs, .int .i64 (cn : Nat)] tSp)) := below1 wz _; have HXZ1 := Lib.hid (HXZ.out.below hbwz HXZ.out.lt); have HEL5 := Lib.hid ((((HEZ.out.below hbwz).snoc (x := ((cut1, cut2), cn)) ⟨_, _, rfl, fldF.below HCU.out (HBZ.out.trans (hbwz.mono HBZ.out.size)), fldF.below HCS.out (HBZ.out.trans (hbwz.mono HBZ.out.size))⟩)).kept hgr5.1 (HOZ2.out _).bt (by decide) (by decide)); have HXZ5 := Lib.hid (HXZ1.out.keptG hgr5.1 (fun e => by have := HOZ.out.ge _ e; omega)); have hu5 := fldF.kept (fldF.below HUZ.out hbwz) hgr5.1 (HOZ2.out _).bt (by decide) (by decide); have hs5 := fldF.kept (fldF.below HSZ.out hbwz) hgr5.1 (HOZ2.out _).bt (by decide) (by decide); have HU5 := Lib.hid hu5; have HS5 := Lib.hid hs5; have HB5 := Lib.hid (hgr5.below (HBZ.out.trans (hbwz.mono HBZ.out.size)) (by simp; omega) (fun b hb => Nat.le_of_succ_le (HOZ.out.ge b hb))); have hq := sc_cells ((HO0.out.below HB5.out)) HXI.out; obtain ⟨j0, j1, j2⟩ := hq; clear hown5 hgr5 hbwz hu5 hs5))
          obtain ⟨W, hW⟩ : ∃ W, W = w5.alloc (.cells #[.slice Au2 x1.length cu2, .slice As2 x2.length cs2, .int .i64 (n : Nat)] tSp) := ⟨_, rfl⟩
          have hbw : Below w5.heap.size w5 W := by rw [hW]; exact below1 w5 _
          have HKW := Lib.hid (show Blk W w5.heap.size tSp #[.slice Au2 x1.length cu2, .slice As2 x2.length cs2, .int .i64 (n : Nat)] from by rw [hW]; exact Blk.new _ _ _)
          have HBW := Lib.hid (HB5.out.trans (hbw.mono HB5.out.size))
          have HOW := Lib.hid (HN5.out.below hbw)
          have HEW := Lib.hid (HEL5.out.below hbw)
          have HXW := Lib.hid (HXZ5.out.below hbw HXZ5.out.lt)
          have HUW := Lib.hid (fldF.below HU5.out hbw)
          have HSW := Lib.hid (fldF.below HS5.out hbw)
          rw [← hW]
          clear hW hbw
          have hw0 : W.cell? ⟨w5.heap.size, 0, none⟩ = some (.slice Au2 x1.length cu2) := HKW.out.cell 0
          have hw1 : W.cell? ⟨w5.heap.size, 1, none⟩ = some (.slice As2 x2.length cs2) := HKW.out.cell 1
          have hw2 : W.cell? ⟨w5.heap.size, 2, none⟩ = some (.int .i64 (n : Nat)) := HKW.out.cell 2
          have HOW2 := Lib.hid (fun o => HOW.out.below (below1 W o))
          have hszW := HBW.out.size
          go_wp2_with (at_builtin; go_must (refine wpList_app1K T_split (ad := ⟨W.heap.size, 0, none⟩) (W := W.alloc (.cells #[.slice Au2 x1.length cu2, .slice As2 x2.length cs2, .int .i64 (n : Nat)] tSp)) (c := [.slice Au2 x1.length cu2, .slice As2 x2.length cs2, .int .i64 (n : Nat)]) (HOW2.out _) (by first | omega | (rw [List.length_append, List.length_singleton]; omega)) (by simp; omega) rfl (by intro u hu; simp at hu; rcases hu with rfl | rfl | rfl <;> rfl) (fun j u hu => lit_cells W tSp [.slice Au2 x1.length cu2, .slice As2 x2.length cs2, .int .i64 (n : Nat)] #[.slice Au2 x1.length cu2, .slice As2 x2.length cs2, .int .i64 (n : Nat)] rfl j u hu) (by rfl) rfl (by rfl) (by rfl) ?_; intro v6 w6 hown6 hgr6; have HN6 := Lib.hid hown6; have HG6 := Lib.hid hgr6; clear hown6 hgr6))
          go_roundw
          case rel =>
            refine ⟨k + 1, _, by omega, by go_num, by rw [HST.out], HN6.out, ?_, ?_, ?_⟩
            · rw [HST.out]
              exact ((HEW.out.below (below1 W _)).snoc (x := ((x1, x2), n)) ⟨_, _, rfl, fldF.below HUW.out (below1 W _), fldF.below HSW.out (below1 W _)⟩).kept HG6.out.1 (HOW2.out _).bt (by decide) (by decide)
            · exact (HXW.out.below (below1 W _) HXW.out.lt).keptG HG6.out.1 (fun e => by have := HOW.out.ge _ e; omega)
            · exact HG6.out.below (HBW.out.trans ((below1 W _).mono HBW.out.size)) (by simp; omega) (fun b hb => Nat.le_of_succ_le (HOW.out.ge b hb))
          case measure => simp [intOf]; omega
        | q + 2, hst =>
          have HST := Lib.hid (show put5S ((cut1, cut2), cn) (l.take (k + 1)) = (out ++ [((x1, x2), n)], false) from hst)
          clear hst
          go_upto_region 16 with fail
          obtain ⟨W, hW⟩ : ∃ W, W = wz.alloc (.cells #[.slice Au2 x1.length cu2, .slice As2 x2.length cs2, .int .i64 (n : Nat)] tSp) := ⟨_, rfl⟩
          have hbw : Below wz.heap.size wz W := by rw [hW]; exact below1 wz _
          have HKW := Lib.hid (show Blk W wz.heap.size tSp #[.slice Au2 x1.length cu2, .slice As2 x2.length cs2, .int .i64 (n : Nat)] from by rw [hW]; exact Blk.new _ _ _)
          have HBW := Lib.hid (HBZ.out.trans (hbw.mono HBZ.out.size))
          have HOW := Lib.hid (HOZ.out.below hbw)
          have HEW := Lib.hid (HEZ.out.below hbw)
          have HXW := Lib.hid (HXZ.out.below hbw HXZ.out.lt)
          have HUW := Lib.hid (fldF.below HUZ.out hbw)
          have HSW := Lib.hid (fldF.below HSZ.out hbw)
          rw [← hW]
          clear hW hbw
          have hw0 : W.cell? ⟨wz.heap.size, 0, none⟩ = some (.slice Au2 x1.length cu2) := HKW.out.cell 0
          have hw1 : W.cell? ⟨wz.heap.size, 1, none⟩ = some (.slice As2 x2.length cs2) := HKW.out.cell 1
          have hw2 : W.cell? ⟨wz.heap.size, 2, none⟩ = some (.int .i64 (n : Nat)) := HKW.out.cell 2
          have HOW2 := Lib.hid (fun o => HOW.out.below (below1 W o))
          have hszW := HBW.out.size
          go_wp2_with (at_builtin; go_must (refine wpList_app1K T_split (ad := ⟨W.heap.size, 0, none⟩) (W := W.alloc (.cells #[.slice Au2 x1.length cu2, .slice As2 x2.length cs2, .int .i64 (n : Nat)] tSp)) (c := [.slice Au2 x1.length cu2, .slice As2 x2.length cs2, .int .i64 (n : Nat)]) (HOW2.out _) (by first | omega | (rw [List.length_append, List.length_singleton]; omega)) (by simp; omega) rfl (by intro u hu; simp at hu; rcases hu with rfl | rfl | rfl <;> rfl) (fun j u hu => lit_cells W tSp [.slice Au2 x1.length cu2, .slice As2 x2.length cs2, .int .i64 (n : Nat)] #[.slice Au2 x1.length cu2, .slice As2 x2.length cs2, .int .i64 (n : Nat)] rfl j u hu) (by rfl) rfl (by rfl) (by rfl) ?_; intro v6 w6 hown6 hgr6; have HN6 := Lib.hid hown6; have HG6 := Lib.hid hgr6; clear hown6 hgr6))
          go_roundw
          case rel =>
            refine ⟨k + 1, _, by omega, by go_num, by rw [HST.out], HN6.out, ?_, ?_, ?_⟩
            · rw [HST.out]
              exact ((HEW.out.below (below1 W _)).snoc (x := ((x1, x2), n)) ⟨_, _, rfl, fldF.below HUW.out (below1 W _), fldF.below HSW.out (below1 W _)⟩).kept HG6.out.1 (HOW2.out _).bt (by decide) (by decide)
            · exact (HXW.out.below (below1 W _) HXW.out.lt).keptG HG6.out.1 (fun e => by have := HOW.out.ge _ e; omega)
            · exact HG6.out.below (HBW.out.trans ((below1 W _).mono HBW.out.size)) (by simp; omega) (fun b hb => Nat.le_of_succ_le (HOW.out.ge b hb))
          case measure => simp [intOf]; omega
    · have hkl : k = css.length := by omega
      have HPT := Lib.hid (HPE.out hkl)
      clear hkl
      cases d with
      | true =>
        have HP := Lib.hid (show put5 l ((cut1, cut2), cn) = out from HPT.out)
        go_wp2_with fail
        go_ret
        exact ⟨_, rfl, ⟨css3, HO.out.mono (by omega), by rw [HP.out]; exact HE.out⟩, HB.out⟩
      | false =>
        have HP := Lib.hid (show put5 l ((cut1, cut2), cn) = out ++ [((cut1, cut2), cn)] from HPT.out)
        have HOW2 := Lib.hid (fun o => HO.out.below (below1 wr o))
        have hk0 : wr.cell? ⟨w.heap.size, 0, none⟩ = some (.slice Au cut1.length cu) := HX.out.cell 0
        have hk1 : wr.cell? ⟨w.heap.size, 1, none⟩ = some (.slice As cut2.length cs) := HX.out.cell 1
        have hk2 : wr.cell? ⟨w.heap.size, 2, none⟩ = some (.int .i64 (cn : Nat)) := HX.out.cell 2
        go_wp2_with (at_builtin; go_must (refine wpList_app1K T_split (ad := ⟨wr.heap.size, 0, none⟩) (W := wr.alloc (.cells #[.slice Au cut1.length cu, .slice As cut2.length cs, .int .i64 (cn : Nat)] tSp)) (c := [.slice Au cut1.length cu, .slice As cut2.length cs, .int .i64 (cn : Nat)]) (HOW2.out _) (by omega) (by simp; omega) rfl (by intro u hu; simp at hu; rcases hu with rfl | rfl | rfl <;> rfl) (fun j u hu => lit_cells wr tSp [.slice Au cut1.length cu, .slice As cut2.length cs, .int .i64 (cn : Nat)] #[.slice Au cut1.length cu, .slice As cut2.length cs, .int .i64 (cn : Nat)] rfl j u hu) (by rfl) rfl (by rfl) (by rfl) ?_; intro v6 w6 hown6 hgr6; have HN6 := Lib.hid hown6; have HG6 := Lib.hid hgr6; clear hown6 hgr6))
        go_ret
        have hbw := below1 wr (.cells #[.slice Au cut1.length cu, .slice As cut2.length cs, .int .i64 (cn : Nat)] tSp)
        refine ⟨_, rfl, ⟨_, HN6.out.mono (by omega), ?_⟩, HG6.out.below (HB.out.trans (hbw.mono HB.out.size)) (by simp; omega) (fun b hb => Nat.le_of_succ_le (HO.out.ge b hb))⟩
        rw [HP.out]
        exact ((HE.out.below hbw).snoc (x := ((cut1, cut2), cn)) ⟨_, _, rfl, fldF.below HCU.out (HB.out.trans (hbw.mono HB.out.size)), fldF.below HCS.out (HB.out.trans (hbw.mono HB.out.size))⟩).kept HG6.out.1 (HOW2.out _).bt (by decide) (by decide)
end Go.Proofs.YtdjhfeaimmpmhaaGreat

