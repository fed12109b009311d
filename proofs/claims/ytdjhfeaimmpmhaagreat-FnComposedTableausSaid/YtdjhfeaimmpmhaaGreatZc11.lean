/- Walks: l03Grow, l03Trees of the reference. | Walks: l04End, l04Graft of the reference. | Walk: l04Graft of the reference. | Walk: gathered of the program. | Plain: the cuts of a tree as the program splits it, with every premise of the walk. -/
import Derived.Test.YtdjhfeaimmpmhaaGreatZc10
import Derived.Test.YtdjhfeaimmpmhaaGreatZc8
import Derived.BigQuiet
import Derived.Deep.QuietTactic
import Derived.Deep.CutRange
import Derived.Deep.CutBlock
import Derived.Deep.DeepCutAuto
set_option maxRecDepth 100000
set_option linter.unusedVariables false
set_option linter.unusedSimpArgs false
namespace Go.Proofs.YtdjhfeaimmpmhaaGreat
open Go.RowKit

theorem Grow.refl (w : World) (v : Value) : Grow w w v v := ⟨World.grownBy.refl _ _, .inl rfl⟩
theorem Grow.of_below {w w' : World} {v : Value} (h : Below w.heap.size w w') : w.grownBy w' v.ownBlock := ⟨h.os, h.tape, h.output, h.size, fun k hk _ => h.block k hk⟩
theorem Grow.trans {w w1 w2 : World} {v v1 v2 : Value} (h : Grow w w1 v v1) (h' : Grow w1 w2 v1 v2) : Grow w w2 v v2 := by
  refine ⟨⟨h'.1.os.trans h.1.os, h'.1.tape.trans h.1.tape, h'.1.output.trans h.1.output, Nat.le_trans h.1.size h'.1.size, fun k hk hne => ?_⟩, ?_⟩
  · refine (h'.1.block k (Nat.lt_of_lt_of_le hk h.1.size) ?_).trans (h.1.block k hk hne)
    rcases h.2 with h2 | ⟨g, h2, h3⟩
    · rw [h2]; exact hne
    · rw [h2]; intro e; injection e with e; omega
  · rcases h'.2 with h3 | ⟨g, h3, h4⟩
    · rw [h3]; exact h.2
    · exact .inr ⟨g, h3, Nat.le_trans h.1.size h4⟩
theorem Grow.pre {w w1 w2 : World} {v v2 : Value} (hb : Below w.heap.size w w1) (h : Grow w1 w2 v v2) : Grow w w2 v v2 := Grow.trans ⟨Grow.of_below hb, .inl rfl⟩ h

end Go.Proofs.YtdjhfeaimmpmhaaGreat

set_option maxRecDepth 100000
set_option linter.unusedVariables false
set_option linter.unusedSimpArgs false
namespace Go.Proofs.YtdjhfeaimmpmhaaGreat
open Go.RowKit

end Go.Proofs.YtdjhfeaimmpmhaaGreat

set_option maxRecDepth 100000
set_option linter.unusedVariables false
set_option linter.unusedSimpArgs false
namespace Go.Proofs.YtdjhfeaimmpmhaaGreat
open Go.RowKit

/-- the list that is grafted -/
def graL (u : List Nat) (node : Nat) (v : List Nat) : List Nat := u.take (endN u node) ++ (v.map fun x => u.getD node 0 + 1 + x) ++ u.drop (endN u node)
theorem w64_in' (n : Int) (h : -9223372036854775808 ≤ n ∧ n ≤ 9223372036854775807) : wrap64 n = n := by unfold wrap64; omega

end Go.Proofs.YtdjhfeaimmpmhaaGreat

set_option maxRecDepth 100000
set_option linter.unusedVariables false
set_option linter.unusedSimpArgs false
namespace Go.Proofs.YtdjhfeaimmpmhaaGreat
open Go.RowKit

theorem T_split : ElemK Tryz.prog 141 145 (.agg #[.slice none 0 0, .slice none 0 0, .int .i64 0]) 3 56 := ⟨Tryz.underlying141, by kernel_rfl, rfl, by omega, by omega⟩
def normS (s : SP) : SP := (srtB s.1, srtB s.2)
def SmallF (f : List (List Nat)) : Prop := f.length ≤ 19 ∧ ∀ b ∈ f, b.length ≤ 1000
theorem ndN_le {f : List (List Nat)} (h : ∀ b ∈ f, b.length ≤ 1000) : ndN f ≤ f.length * 1000 := by
  induction f with
  | nil => simp [ndN]
  | cons x xs ih =>
    have := ih fun b hb => h b (by simp [hb])
    have := h x (by simp)
    simp [ndN, Nat.add_mul]; omega
theorem SmallF.nd {f : List (List Nat)} (h : SmallF f) : f.length ≤ 1000000 ∧ ndN f ≤ 1000000 := by
  have := ndN_le h.2
  have := h.1
  omega
theorem SmallF.srt {f : List (List Nat)} (h : SmallF f) : SmallF (srtB f) := ⟨by rw [(srtB_perm f).length_eq]; exact h.1, fun b hb => h.2 b ((srtB_perm f).mem_iff.1 hb)⟩
def mixL (xs : List (SP × Nat)) (i : Nat) : List (SP × Nat) := (xs.take i).map (fun x => (normS x.1, 1)) ++ xs.drop i
theorem mixL_get {xs : List (SP × Nat)} {i : Nat} {x : SP × Nat} (h : xs[i]? = some x) : (mixL xs i)[i]? = some x := by
  have hi := (List.getElem?_eq_some_iff.1 h).1
  unfold mixL
  rw [List.getElem?_append_right (by simp; omega)]
  simp [Nat.min_eq_left (Nat.le_of_lt hi), h]
theorem mixL_set {xs : List (SP × Nat)} {i : Nat} {x : SP × Nat} (h : xs[i]? = some x) : (mixL xs i).set i (normS x.1, 1) = mixL xs (i + 1) := by
  have hi := (List.getElem?_eq_some_iff.1 h).1
  have hd : xs.drop i = x :: xs.drop (i + 1) := by obtain ⟨hk, rfl⟩ := List.getElem?_eq_some_iff.1 h; exact List.drop_eq_getElem_cons hk
  unfold mixL
  rw [List.take_add_one, h, hd]
  rw [List.set_append_right _ _ (by simp; omega)]
  simp [Nat.min_eq_left (Nat.le_of_lt hi)]

set_option maxHeartbeats 16000000 in
theorem i_gathered (w : World) (B : Nat) (v : Value) (css : List (List Value)) (xs : List (SP × Nat)) (ho : OwnK w B tSp 3 v css) (he : Elts eSc w B css xs) (hB : B ≤ w.heap.size) (hn : xs.length ≤ 1000) (hs : ∀ x ∈ xs, SmallF x.1.1 ∧ SmallF x.1.2) :
    Calls Tryz.prog 176 #[v] w fun e w' => ∃ x, e = .returned x ∧ SLs eSc tSp w' B x (grpL cmpS (srtS ltS (xs.map fun x => normS x.1))) ∧ Below B w w' := by
  have hl := he.1
  obtain ⟨A, c, rfl, l1, l2⟩ := ho.open_
  rw [hl] at l1 ⊢
  have HO0 := Lib.hid ho
  have HE0 := Lib.hid he
  have HS := Lib.hid hs
  have HL := Lib.hid hl
  clear ho he hs hl
  go_enter Tryz.func176, Tryz.ntmps176
  go_upto_block 0 with fail
  go_cut [0] (fun x wx => ∃ css', x = .slice A xs.length c ∧ OwnK wx B tSp 3 (.slice A xs.length c) css' ∧ Elts eSc wx B css' (mixL xs xs.length) ∧ Below B w wx)
  case first =>
    go_wp2_with fail
    go_loopw [12] (fun x wr => ∃ (i : Nat) (css : List (List Value)), i ≤ xs.length ∧ x = .int .i64 i ∧ OwnK wr B tSp 3 (.slice A xs.length c) css ∧ Elts eSc wr B css (mixL xs i) ∧ Below B w wr) (fun x _ => xs.length - (intOf x).toNat)
    case atStart => exact ⟨0, css, Nat.zero_le _, rfl, by have h := HO0.out; rw [HL.out] at h; exact h, by simpa [mixL] using HE0.out, Below.refl _ _⟩
    case round =>
      obtain ⟨i, css1, hi, rfl, ho, hce, hb⟩ := hrel
      by_cases hlt : i < xs.length
      · obtain ⟨x, hx⟩ : ∃ x, xs[i]? = some x := ⟨_, List.getElem?_eq_getElem hlt⟩
        obtain ⟨c1, hc1, hD⟩ := hce.at_ (mixL_get hx)
        obtain ⟨u, s, rfl, hu0, hs0⟩ := hD
        have hu1 : LL wr B u (x.1.1.map up) ∧ x.1.1.length ≤ 1000000 ∧ ndN x.1.1 ≤ 1000000 := hu0
        have hs1 : LL wr B s (x.1.2.map up) ∧ x.1.2.length ≤ 1000000 ∧ ndN x.1.2 ≤ 1000000 := hs0
        obtain ⟨g, cap, he1, hc0⟩ := ho.cell (j := 0) hc1 rfl
        simp only [Value.slice.injEq] at he1
        obtain ⟨rfl, hln, rfl⟩ := he1
        have hcc1 := ho.cellAt (j := 1) hc1 rfl
        have hcc2 := ho.cellAt (j := 2) hc1 rfl
        have HU := Lib.hid hu1.1
        have HSS := Lib.hid hs1.1
        have HO := Lib.hid ho
        have HBT := Lib.hid ho.bt
        have HCE := Lib.hid hce
        have HB := Lib.hid hb
        have HC1 := Lib.hid hc1
        have HXX := Lib.hid hx
        have HSM := Lib.hid (HS.out x (List.mem_of_getElem? hx))
        obtain ⟨A1, k1, rfl, -, -, -⟩ := hu1.1.rows.open_
        obtain ⟨A2, k2, rfl, -, -, -⟩ := hs1.1.rows.open_
        simp only [List.length_map] at HU HSS hc0 hcc1 HC1
        have hc0' : wr.cell? ⟨g, i * 3, none⟩ = some (.slice A1 x.1.1.length k1) := hc0
        have hii : (i : Int) < (xs.length : Int) := by omega
        clear hc1 hu0 hs0 hu1 hs1 ho hce hb hx hc0 hln
        go_upto_region 4 with fail
        obtain ⟨⟨⟨f, f2⟩, n⟩, hxe⟩ : ∃ y : SP × Nat, y = x := ⟨_, rfl⟩
        subst hxe
        simp only at HU HSS HSM hcc1 hc0' HC1
        have HF1 := Lib.hid (fun W (h : Rows W (.slice A1 f.length k1) (f.map up)) => i_forestOf W (.slice A1 f.length k1) f h HSM.out.1.1 HSM.out.1.2)
        have HF2 := Lib.hid (fun W (h : Rows W (.slice A2 f2.length k2) (f2.map up)) => i_forestOf W (.slice A2 f2.length k2) f2 h HSM.out.2.1 HSM.out.2.2)
        obtain ⟨wq, hwq⟩ : ∃ wq : World, wq = wr.alloc (.cells #[.slice A1 f.length k1, .slice A2 f2.length k2, .int .i64 (n : Nat)] tSp) := ⟨_, rfl⟩
        have HBK := Lib.hid (show Blk wq wr.heap.size tSp #[.slice A1 f.length k1, .slice A2 f2.length k2, .int .i64 (n : Nat)] from by rw [hwq]; exact Blk.new wr _ _)
        have HBQ := Lib.hid (show Below wr.heap.size wr wq from by rw [hwq]; exact below1 _ _)
        have HPQ := Lib.hid (show wr.heap.size < wq.heap.size from by rw [hwq]; simp)
        first | rw [← hwq] | skip
        clear hwq
        have hp0 : wq.cell? ⟨wr.heap.size, 0, none⟩ = some (.slice A1 f.length k1) := HBK.out.cell 0
        have hp1 : wq.cell? ⟨wr.heap.size, 1, none⟩ = some (.slice A2 f2.length k2) := HBK.out.cell 1
        have HBC := Lib.hid (show Below wr.heap.size wr wq.drew from HBQ.out.drew)
        have HBD := Lib.hid (show Below wq.heap.size wq wq.drew from (Below.refl wq.heap.size wq).drew)
        clear hc0' hcc1 hcc2
        go_region_law (first
          | (go_simp; go_at_call 208; (with_reducible refine (HF1.out _ (HU.out.rows.below HBC.out)).mono ?_); rintro e w5 ⟨x5, rfl, ho5, hb5⟩; obtain ⟨A5, k5, he5, -, -, -⟩ := ho5.rows.open_; rw [List.length_map] at he5; subst he5; have HX5 := Lib.hid (ho5.mono HBC.out.size); (try (have HX6 := Lib.hid (HX6.out.below hb5))); have HBC := Lib.hid (HBC.out.trans (hb5.mono HBC.out.size)); have HBD := Lib.hid (HBD.out.trans (hb5.mono HBD.out.size)); have hp0' := keepCellG HBD.out hp0; have hp1' := keepCellG HBD.out hp1; (first | (have hgo := HX6; clear hgo; have hgo := HX5; clear hgo; obtain ⟨q0, q1, q2, z0, z1, z2, z3, z4, z5, hst, hgt⟩ := (HO.out.below HBC.out).store3 HC1.out (.slice A5 (srtB f).length k5) (.slice A6 (srtB f2).length k6) (.int .i64 1); have HST := Lib.hid hst; have HGT := Lib.hid hgt; clear hst hgt) | skip); clear ho5 hb5)
          | (go_simp; go_at_call 208; (with_reducible refine (HF2.out _ (HSS.out.rows.below HBC.out)).mono ?_); rintro e w6 ⟨x6, rfl, ho6, hb6⟩; obtain ⟨A6, k6, he6, -, -, -⟩ := ho6.rows.open_; rw [List.length_map] at he6; subst he6; have HX6 := Lib.hid (ho6.mono HBC.out.size); (try (have HX5 := Lib.hid (HX5.out.below hb6))); have HBC := Lib.hid (HBC.out.trans (hb6.mono HBC.out.size)); have HBD := Lib.hid (HBD.out.trans (hb6.mono HBD.out.size)); have hp0' := keepCellG HBD.out hp0; have hp1' := keepCellG HBD.out hp1; (first | (have hgo := HX6; clear hgo; have hgo := HX5; clear hgo; obtain ⟨q0, q1, q2, z0, z1, z2, z3, z4, z5, hst, hgt⟩ := (HO.out.below HBC.out).store3 HC1.out (.slice A5 (srtB f).length k5) (.slice A6 (srtB f2).length k6) (.int .i64 1); have HST := Lib.hid hst; have HGT := Lib.hid hgt; clear hst hgt) | skip); clear ho6 hb6))
        all_goals
          have HEL := Lib.hid (((HCE.out.below HBC.out).set_ (i := i) (c := [.slice A5 (srtB f).length k5, .slice A6 (srtB f2).length k6, .int .i64 ((1 : Nat) : Int)]) (x := ((srtB f, srtB f2), 1)) ⟨_, _, rfl, ⟨HX5.out.ll.mono (Nat.le_trans hB (Nat.le_trans HB.out.size (Nat.le_refl _))), (HSM.out.1.srt).nd⟩, ⟨HX6.out.ll.mono (Nat.le_trans hB (Nat.le_trans HB.out.size (Nat.le_refl _))), (HSM.out.2.srt).nd⟩⟩).kept (v := .slice (some ⟨g, 0, none⟩) xs.length c) HGT.out (HO.out.below HBC.out).bt (by decide) (by decide))
          have HBL := Lib.hid (Grow.below (v := .slice (some ⟨g, 0, none⟩) xs.length c) (v' := .slice (some ⟨g, 0, none⟩) xs.length c) ⟨HGT.out, .inl rfl⟩ (HB.out.trans (HBC.out.mono (Nat.le_trans hB HB.out.size))) (Nat.le_trans hB (Nat.le_trans HB.out.size HBC.out.size)) HO.out.ge)
          clear z0 z1 z2 z3 z4 z5
          go_wp2_with fail
          go_roundw
          case rel =>
            refine ⟨i + 1, _, by omega, by go_num, HST.out, ?_, HBL.out⟩
            have h := HEL.out
            rw [show ((srtB f, srtB f2), 1) = (normS ((f, f2), n).1, 1) from rfl, mixL_set HXX.out] at h
            exact h
          case measure => simp [intOf]; omega
      · have hil : i = xs.length := by omega
        subst hil
        go_wp2_with fail
        go_meet
        exact ⟨css1, rfl, ho, hce, hb⟩
  case rest =>
    obtain ⟨css', rfl, ho, hce, hb⟩ := hcut
    have hl2 := hce.1
    have hmx : mixL xs xs.length = xs.map fun x => (normS x.1, 1) := by unfold mixL; simp
    rw [hmx] at hce hl2
    rw [List.length_map] at hl2
    have he2 : Elts (eSp 1) wc B css' (xs.map fun x => normS x.1) := ⟨by rw [hl2, List.length_map], fun i c x hc hx => by
      rw [List.getElem?_map] at hx
      cases hxi : xs[i]? with
      | none => rw [hxi] at hx; cases hx
      | some z => rw [hxi] at hx; injection hx with hx; subst hx; exact hce.2 i c (normS z.1, 1) hc (by rw [List.getElem?_map, hxi]; rfl)⟩
    have hso := lib_SortSplit wc B c A css' _ (by rw [hl2]; exact ho) he2 (by omega)
    rw [hl2] at hso
    have HSO := Lib.hid hso
    have HB := Lib.hid hb
    have HYL := Lib.hid (show (srtS ltS (xs.map fun x => normS x.1)).length = xs.length from by have := (srtSF_perm (lt := ltS) [] (xs.map fun x => normS x.1)).length_eq; simpa [srtS] using this)
    obtain ⟨ys, hys⟩ : ∃ ys, ys = srtS ltS (xs.map fun x => normS x.1) := ⟨_, rfl⟩
    rw [← hys] at HSO HYL
    have HYS := Lib.hid hys
    clear hys
    clear hso he2 hce hb hmx
    have HO1 := Lib.hid ho
    clear ho hl2
    go_wp2_with (go_at_call 212; go_loud (refine HSO.out.mono ?_; rintro e w2 ⟨rfl, css2, hl3, ho2, he3, hg2⟩; have HO2 := Lib.hid ho2; have HE2 := Lib.hid he3; have HL3 := Lib.hid hl3; have HB2 := Lib.hid (Grow.below (v := .slice A xs.length c) (v' := .slice A xs.length c) ⟨hg2, .inl rfl⟩ HB.out (Nat.le_trans hB HB.out.size) HO1.out.ge); clear ho2 he3 hl3 hg2))
    have OL := Lib.hid (show OwnK (w2.alloc (.cells #[] tSp)) w2.heap.size tSp 3 (.slice (some ⟨w2.heap.size, 0, none⟩) 0 0) [] from OwnK.lit w2 tSp 3 [] (fun c hc => by simp at hc) (by simp [maxLen]) #[] rfl)
    have HB2' := Lib.hid (show B ≤ w2.heap.size from Nat.le_trans hB HB2.out.size)
    have HGL := Lib.hid (fun k (hk : k ≤ ys.length) => grpL_len cmpS ys k hk)
    go_loopw [6, 34] (fun o x wr => ∃ (k : Nat) (css3 : List (List Value)), k ≤ xs.length ∧ x = .int .i64 k ∧ OwnK wr w2.heap.size tSp 3 o css3 ∧ Elts eSc wr B css3 (grpL cmpS (ys.take k)) ∧ Below w2.heap.size w2 wr) (fun _ x _ => xs.length - (intOf x).toNat)
    case atStart => exact ⟨0, [], Nat.zero_le _, rfl, OL.out, Elts.nil _ _ _, below1 _ _⟩
    case round =>
      obtain ⟨k, css3, hk, rfl, ho, hce, hb⟩ := hrel
      clear OL
      obtain ⟨Ao, co, rfl, -, -⟩ := ho.open_
      have hcl := hce.1
      have hgl := HGL.out k (by rw [HYL.out]; exact hk)
      have hcl2 : css3.length ≤ 1000 := by omega
      have HCL := Lib.hid hcl
      have HGC := Lib.hid hgl.2
      have HO := Lib.hid ho
      have HCE := Lib.hid hce
      have HBR := Lib.hid hb
      have HBW := Lib.hid (HB2.out.trans (hb.mono HB2'.out))
      clear ho hce hb hcl hgl
      by_cases hlt : k < xs.length
      · obtain ⟨y, hy⟩ : ∃ y, ys[k]? = some y := ⟨_, List.getElem?_eq_getElem (by rw [HYL.out]; exact hlt)⟩
        have HTS := Lib.hid (show grpL cmpS (ys.take (k + 1)) = grpS cmpS (grpL cmpS (ys.take k)) y from by rw [List.take_add_one, hy]; exact grpL_snoc _ _ _)
        obtain ⟨c1, hc1, hD⟩ := HE2.out.at_ hy
        obtain ⟨u, s, rfl, hu0, hs0⟩ := hD
        have hu1 : LL w2 B u (y.1.map up) ∧ y.1.length ≤ 1000000 ∧ ndN y.1 ≤ 1000000 := hu0
        have hs1 : LL w2 B s (y.2.map up) ∧ y.2.length ≤ 1000000 ∧ ndN y.2 ≤ 1000000 := hs0
        obtain ⟨A1, k1, rfl, -, -, -⟩ := hu1.1.rows.open_
        obtain ⟨A2, k2, rfl, -, -, -⟩ := hs1.1.rows.open_
        simp only [List.length_map] at hc1 hu0 hs0
        have HDY := Lib.hid (show eSc.D w2 B [.slice A1 y.1.length k1, .slice A2 y.2.length k2, .int .i64 ((1 : Nat) : Int)] (y, 1) from ⟨_, _, rfl, hu0, hs0⟩)
        obtain ⟨gl, capl, hel, hcc0⟩ := HO2.out.cell (j := 0) hc1 rfl
        have hcc1 := HO2.out.cell (j := 1) hc1 rfl
        have hcc2 := HO2.out.cell (j := 2) hc1 rfl
        simp only [Value.slice.injEq] at hel
        obtain ⟨rfl, hln, rfl⟩ := hel
        have hq0 : w2.cell? ⟨gl, k * 3, none⟩ = some (.slice A1 y.1.length k1) := hcc0
        have hq1 : w2.cell? ⟨gl, k * 3 + 1, none⟩ = some (.slice A2 y.2.length k2) := by obtain ⟨g', c', he', h'⟩ := hcc1; simp only [Value.slice.injEq, Option.some.injEq, Addr.mk.injEq, and_true, true_and] at he'; rw [he'.1]; exact h'
        have hq2 : w2.cell? ⟨gl, k * 3 + 2, none⟩ = some (.int .i64 1) := by obtain ⟨g', c', he', h'⟩ := hcc2; simp only [Value.slice.injEq, Option.some.injEq, Addr.mk.injEq, and_true, true_and] at he'; rw [he'.1]; exact h'
        have hr0 := keepCellG HBR.out hq0
        have hr1 := keepCellG HBR.out hq1
        have hr2 := keepCellG HBR.out hq2
        have hii : (k : Int) < (xs.length : Int) := by omega
        clear hu0 hs0 hu1 hs1 hcc0 hcc1 hcc2 hq0 hq1 hq2 hln hc1 hy
        go_upto_region 13 with fail
        obtain ⟨wq, hwq⟩ : ∃ wq : World, wq = wr.alloc (.cells #[.slice A1 y.1.length k1, .slice A2 y.2.length k2, .int .i64 1] tSp) := ⟨_, rfl⟩
        have HBK := Lib.hid (show Blk wq wr.heap.size tSp #[.slice A1 y.1.length k1, .slice A2 y.2.length k2, .int .i64 1] from by rw [hwq]; exact Blk.new wr _ _)
        have HBQ := Lib.hid (show Below wr.heap.size wr wq from by rw [hwq]; exact below1 _ _)
        have HDQ := Lib.hid (eSc.below (eSc.below HDY.out HBR.out) HBQ.out)
        have HOQ := Lib.hid (HO.out.below HBQ.out)
        have HEQ := Lib.hid (HCE.out.below HBQ.out)
        have HPS := Lib.hid (show w2.heap.size ≤ wr.heap.size from HBR.out.size)
        obtain ⟨pq, hpq⟩ : ∃ pq : Nat, pq = wr.heap.size := ⟨_, rfl⟩
        rw [← hpq] at HBK HPS
        first | rw [← hwq] | skip
        first | rw [← hpq] | skip
        clear hwq hr0 hr1 hr2
        have HPQ := Lib.hid hpq
        clear hpq
        obtain ⟨bb, hbb⟩ : ∃ bb : Bool, bb = lastEq cmpS (grpL cmpS (ys.take k)) y := ⟨_, rfl⟩
        have HBB := Lib.hid hbb
        clear hbb
        go_cut [34, 52] from 34 to 66 (fun iv x wx => iv = .int .i64 k ∧ x = .bool bb ∧ Below wq.heap.size wq wx)
        case first =>
          rcases Nat.eq_zero_or_pos css3.length with hz | hz
          · have HBF := Lib.hid (show bb = false from by rw [HBB.out, lastEq, show grpL cmpS (ys.take k) = [] from List.eq_nil_of_length_eq_zero (by rw [← HCL.out]; exact hz)]; rfl)
            have hn1 : css3.length = 0 := hz
            clear hz
            go_quiet (fail)
            go_wp2_with fail
            go_meet
            exact ⟨rfl, by rw [HBF.out], below_drewN (Below.refl _ _) _⟩
          · obtain ⟨m, hm⟩ : ∃ m, css3.length = m + 1 := ⟨css3.length - 1, by omega⟩
            obtain ⟨⟨r, n⟩, hr⟩ : ∃ x, (grpL cmpS (ys.take k))[m]? = some x := ⟨_, List.getElem?_eq_getElem (by rw [← HCL.out]; omega)⟩
            have hbv := HBB.out
            rw [lastEq, List.getLast?_eq_getElem?, ← HCL.out, hm, Nat.add_sub_cancel, hr] at hbv
            simp only at hbv
            obtain ⟨c3, hc3, hD3⟩ := HEQ.out.at_ hr
            obtain ⟨u', s', rfl, hu0, hs0⟩ := hD3
            have hu1 : LL wq B u' (r.1.map up) ∧ r.1.length ≤ 1000000 ∧ ndN r.1 ≤ 1000000 := hu0
            have hs1 : LL wq B s' (r.2.map up) ∧ r.2.length ≤ 1000000 ∧ ndN r.2 ≤ 1000000 := hs0
            obtain ⟨A3, k3, rfl, -, -, -⟩ := hu1.1.rows.open_
            obtain ⟨A4, k4, rfl, -, -, -⟩ := hs1.1.rows.open_
            simp only [List.length_map] at hc3 hu0 hs0
            have hdr : eSc.D wq B [.slice A3 r.1.length k3, .slice A4 r.2.length k4, .int .i64 (n : Nat)] (r, n) := ⟨_, _, rfl, hu0, hs0⟩
            have hcm := fun W (hW : Below wq.heap.size wq W) => show Calls Tryz.prog 209 #[.agg #[.slice A3 r.1.length k3, .slice A4 r.2.length k4, .int .i64 (n : Nat)], .agg #[.slice A1 y.1.length k1, .slice A2 y.2.length k2, .int .i64 1]] W fun e w' => e = .returned (.int .i64 (cmpS r y)) ∧ ∃ q os, w' = Go.Sort.grow (W.drewN q) os from
              i_cmpSplit W B B [.slice A3 r.1.length k3, .slice A4 r.2.length k4, .int .i64 (n : Nat)] [.slice A1 y.1.length k1, .slice A2 y.2.length k2, .int .i64 ((1 : Nat) : Int)] r y n 1 (eSc.below hdr hW) (eSc.below HDQ.out hW)
            obtain ⟨go, cg, heo, hg0⟩ := HOQ.out.cell (j := 0) hc3 rfl
            have hg1 := HOQ.out.cell (j := 1) hc3 rfl
            have hg2 := HOQ.out.cell (j := 2) hc3 rfl
            simp only [Value.slice.injEq, true_and] at heo
            obtain ⟨rfl, rfl⟩ := heo
            have hq0 : wq.cell? ⟨go, m * 3, none⟩ = some (.slice A3 r.1.length k3) := hg0
            have hq1 : wq.cell? ⟨go, m * 3 + 1, none⟩ = some (.slice A4 r.2.length k4) := by obtain ⟨g', c', he', h'⟩ := hg1; simp only [Value.slice.injEq, Option.some.injEq, Addr.mk.injEq, and_true, true_and] at he'; rw [he'.1]; exact h'
            have hq2 : wq.cell? ⟨go, m * 3 + 2, none⟩ = some (.int .i64 (n : Nat)) := by obtain ⟨g', c', he', h'⟩ := hg2; simp only [Value.slice.injEq, Option.some.injEq, Addr.mk.injEq, and_true, true_and] at he'; rw [he'.1]; exact h'
            have hp0 : wq.cell? ⟨pq, 0, none⟩ = some (.slice A1 y.1.length k1) := HBK.out.cell 0
            have hp1 : wq.cell? ⟨pq, 1, none⟩ = some (.slice A2 y.2.length k2) := HBK.out.cell 1
            have hp2 : wq.cell? ⟨pq, 2, none⟩ = some (.int .i64 1) := HBK.out.cell 2
            have hw1 : IntKind.i64.wrap ((css3.length : Int) - 1) = (m : Int) := by rw [IntWalk.i64_in _ (by omega)]; omega
            have hmi : (m : Int) < (css3.length : Int) := by omega
            have hd0 : decide (0 < css3.length) = true := by simp; omega
            generalize cmpS r y = z at hbv hcm
            have HCM := Lib.hid hcm
            have HBV := Lib.hid hbv
            clear hbv hcm hg0 hg1 hg2 hdr hu0 hs0 hu1 hs1 hc3 hr hm
            obtain ⟨S, hS1, hS2⟩ : ∃ S : World → Prop, (∀ W, S W → Below wq.heap.size wq W) ∧ (∀ W, Below wq.heap.size wq W → S W) := ⟨fun W => Below wq.heap.size wq W, fun _ h => h, fun _ h => h⟩
            have HSE := Lib.hid (show ∀ x : GW S, Below wq.heap.size wq x.w from fun x => hS1 _ x.h)
            have HSI := Lib.hid (show S wq.drew from hS2 _ (Below.refl wq.heap.size wq).drew)
            have HCX := Lib.hid (show ∀ x : GW S, Calls Tryz.prog 209 #[.agg #[.slice A3 r.1.length k3, .slice A4 r.2.length k4, .int .i64 (n : Nat)], .agg #[.slice A1 y.1.length k1, .slice A2 y.2.length k2, .int .i64 1]] x.w (fun e w' => e = .returned (.int .i64 z) ∧ S w') from fun x => (HCM.out x.w (HSE.out x)).mono (by rintro e w7 ⟨rfl, q, os, rfl⟩; exact ⟨rfl, hS2 _ ((below_drewN (HSE.out x) q).trans ((below_growE _ os).mono (below_drewN (HSE.out x) q).size))⟩))
            have hx0 : ∀ x : GW S, x.w.cell? ⟨go, m * 3, none⟩ = some (.slice A3 r.1.length k3) := fun x => keepCellG (HSE.out x) hq0
            have hx1 : ∀ x : GW S, x.w.cell? ⟨go, m * 3 + 1, none⟩ = some (.slice A4 r.2.length k4) := fun x => keepCellG (HSE.out x) hq1
            have hx2 : ∀ x : GW S, x.w.cell? ⟨go, m * 3 + 2, none⟩ = some (.int .i64 (n : Nat)) := fun x => keepCellG (HSE.out x) hq2
            have hy0 : ∀ x : GW S, x.w.cell? ⟨pq, 0, none⟩ = some (.slice A1 y.1.length k1) := fun x => keepCellG (HSE.out x) hp0
            have hy1 : ∀ x : GW S, x.w.cell? ⟨pq, 1, none⟩ = some (.slice A2 y.2.length k2) := fun x => keepCellG (HSE.out x) hp1
            have hy2 : ∀ x : GW S, x.w.cell? ⟨pq, 2, none⟩ = some (.int .i64 1) := fun x => keepCellG (HSE.out x) hp2
            clear hS1 hS2 hq0 hq1 hq2 hp0 hp1 hp2
            refine wp_region_grow S (by kernel_rfl) (by kernel_rfl) HSI.out (fun hne => ?_)
            repeat (go_big_quiet_step ((go_at_call 209; exact grow_call (HCX.out _))))
            refine wpQuiet_nil ?_
            rintro _ ⟨xq, rfl⟩
            clear hx0 hx1 hx2 hy0 hy1 hy2
            go_wp2_with fail
            go_meet
            exact ⟨rfl, by rw [HBV.out]; rfl, HSE.out xq⟩
        case rest =>
          obtain ⟨rfl, rfl, hbw⟩ := hcut
          have hpw : Below wr.heap.size wr wc := HBQ.out.trans (hbw.mono HBQ.out.size)
          have HBX := Lib.hid (HBR.out.trans (hpw.mono HBR.out.size))
          have HDX := Lib.hid (eSc.below HDQ.out hbw)
          have HOX := Lib.hid (HO.out.below hpw)
          have HEX := Lib.hid (HCE.out.below hpw)
          have hkl : pq < wq.heap.size := HBK.out.lt
          have HBKX := Lib.hid (HBK.out.below hbw hkl)
          clear hbw hpw hkl
          go_upto_if 52 with fail
          cases bb with
          | false =>
            have HGS := Lib.hid (grp_false HBB.out.symm)
            have hp0 : wc.cell? ⟨pq, 0, none⟩ = some (.slice A1 y.1.length k1) := HBKX.out.cell 0
            have hp1 : wc.cell? ⟨pq, 1, none⟩ = some (.slice A2 y.2.length k2) := HBKX.out.cell 1
            have hp2 : wc.cell? ⟨pq, 2, none⟩ = some (.int .i64 1) := HBKX.out.cell 2
            go_wp2_with (at_builtin; go_loud (refine wpList_app1K T_split (W := wc.alloc (.cells #[.slice A1 y.1.length k1, .slice A2 y.2.length k2, .int .i64 1] tSp)) (c := [.slice A1 y.1.length k1, .slice A2 y.2.length k2, .int .i64 ((1 : Nat) : Int)]) (HOX.out.below (below1 wc _)) (by omega) (by have := HBX.out.size; simp; omega) rfl (by intro u hu; simp at hu; rcases hu with rfl | rfl | rfl <;> rfl) (lit_cells _ _ _ _ rfl) (by rfl) rfl (by rfl) (by rfl) ?_; intro v5 w5 hown5 hgr5; have HN5 := Lib.hid hown5; have HG5 := Lib.hid hgr5; clear hown5 hgr5))
            have hb4 : Below wc.heap.size wc (wc.alloc (.cells #[.slice A1 y.1.length k1, .slice A2 y.2.length k2, .int .i64 1] tSp)) := below1 wc _
            have HE5 := Lib.hid ((((HEX.out.below hb4).snoc (eSc.below HDX.out hb4))).kept HG5.out.1 (HOX.out.below hb4).bt (by decide) (by decide))
            have HB5 := Lib.hid (HG5.out.below (HBX.out.trans (hb4.mono HBX.out.size)) (Nat.le_trans HBX.out.size hb4.size) HOX.out.ge)
            clear hb4 hp0 hp1 hp2
            go_roundw
            case rel =>
              refine ⟨k + 1, _, by omega, by go_num, HN5.out, ?_, HB5.out⟩
              rw [HTS.out, HGS.out]
              exact HE5.out
            case measure => simp [intOf]; omega
          | true =>
            obtain ⟨m, r, n, hm, hr, hgs⟩ := grp_true HBB.out.symm
            have HGS := Lib.hid hgs
            have hnb := HGC.out (r, n) (List.mem_of_getElem? hr)
            obtain ⟨c3, hc3, hD3⟩ := HEX.out.at_ hr
            obtain ⟨u', s', rfl, hu0, hs0⟩ := hD3
            have hml : css3.length = m + 1 := by rw [HCL.out, hm]
            obtain ⟨go, cg, heo, -⟩ := HOX.out.cell (j := 0) hc3 rfl
            simp only [Value.slice.injEq, true_and] at heo
            obtain ⟨rfl, rfl⟩ := heo
            have hq2 : wc.cell? ⟨go, m * 3 + 2, none⟩ = some (.int .i64 (n : Nat)) := HOX.out.cellAt (j := 2) hc3 rfl
            obtain ⟨-, hfz, -, hst, hgt⟩ := HOX.out.storeAt (j := 2) hc3 (by omega) (.int .i64 ((n + 1 : Nat) : Int))
            have HST := Lib.hid hst
            have HGT := Lib.hid hgt
            have HE5 := Lib.hid ((HEX.out.set_ (i := m) (c := [u', s', .int .i64 ((n + 1 : Nat) : Int)]) (x := (r, n + 1)) ⟨_, _, rfl, hu0, hs0⟩).kept (v := .slice (some ⟨go, 0, none⟩) css3.length co) HGT.out HOX.out.bt (by decide) (by decide))
            have HB5 := Lib.hid (Grow.below (v := .slice (some ⟨go, 0, none⟩) css3.length co) (v' := .slice (some ⟨go, 0, none⟩) css3.length co) ⟨HGT.out, .inl rfl⟩ HBX.out HBX.out.size HOX.out.ge)
            have hnn : n ≤ 1000 := by simp at hnb; omega
            have hw1 : IntKind.i64.wrap ((css3.length : Int) - 1) = (m : Int) := by rw [IntWalk.i64_in _ (by omega)]; omega
            have hmi : (m : Int) < (css3.length : Int) := by omega
            have hbd : -9223372036854775808 ≤ (n : Int) + 1 ∧ (n : Int) + 1 ≤ 9223372036854775807 := by omega
            have hwk : IntKind.i64.wrap ((k : Int) + 1) = (k : Int) + 1 := IntWalk.i64_in _ (by omega)
            have hwk2 : wrap64 ((k : Int) + 1) = (k : Int) + 1 := w64_in' _ (by omega)
            have hw2 := w64_in' _ hbd
            have hw3 := IntWalk.i64_in _ hbd
            clear hbd hst hgt hu0 hs0 hc3 hr hgs hm hml hnb hnn
            go_wp2_with fail
            go_roundw
            case rel =>
              clear hw1 hw2 hw3 hwk hwk2
              refine ⟨k + 1, _, by omega, by go_num, HST.out, ?_, HB5.out⟩
              rw [HTS.out, HGS.out]
              exact HE5.out
            case measure => clear hw1 hw2 hw3 hwk hwk2; simp [intOf]; omega
      · have hkl : k = xs.length := by omega
        have HTK := Lib.hid (show ys.take k = ys from List.take_of_length_le (by rw [HYL.out, hkl]; exact Nat.le_refl _))
        go_wp2_with fail
        go_ret
        refine ⟨_, rfl, ⟨css3, HO.out.mono HB2'.out, ?_⟩, HBW.out⟩
        have h := HCE.out
        rw [HTK.out, HYS.out] at h
        exact h
end Go.Proofs.YtdjhfeaimmpmhaaGreat

set_option linter.unusedVariables false
set_option linter.unusedSimpArgs false
set_option maxRecDepth 100000
namespace Go.Proofs.YtdjhfeaimmpmhaaGreat

/-- the cuts of a product -/
def combS (s : SP) (c : SP) : SP := (s.1 ++ c.1, s.2 ++ c.2)
def prodS (xs ys : List SP) : List SP := xs.flatMap fun s => ys.map (combS s)
def okF1 (f : List (List Nat)) : Bool := Nat.ble f.length 19 && f.all fun b => Nat.ble b.length 50 && b.all fun l => Nat.ble l 1000
def okS1 (s : SP) : Bool := okF1 s.1 && okF1 s.2
def okLs (l : List SP) : Bool := Nat.ble l.length 500 && l.all okS1
/-- the root stays: one trunk -/
def okT1 (t : List Nat) : Bool := Nat.ble t.length 100 && t.all fun l => Nat.ble l 1000
def trunkV (s : SP) : Option SP := bif okT1 (rootN s.2) && Nat.ble (brLen s.2) 1000 then match canO 9 (rootN s.2) with
    | none => none
    | some r => bif okT1 r then some (s.1, [r]) else none
  else none
def loopV (g : List Nat → Option (List SP)) : List (List Nat) → List SP → Option (List SP)
  | [], acc => some acc
  | b :: bs, acc => match g b with
    | none => none
    | some lb => bif okLs lb && okLs (prodS acc lb) then loopV g bs (prodS acc lb) else none
def splV : Nat → List Nat → Option (List SP)
  | 0, _ => none
  | f + 1, t => bif okT1 t then match brO t with
      | none => none
      | some bs => match loopV (splV f) bs [([], [])] with
        | none => none
        | some l => bif okLs l then match mapO trunkV l with
            | none => none
            | some l2 => match canO 9 t with
              | none => none
              | some c => bif okLs l2 then some (l2 ++ [([c], [])]) else none
          else none
    else none
theorem splV_6 : (List.range 6).all (fun n => (treesN (n + 1)).all fun t => match splV 9 t with | none => false | some l => okLs l) = true := by decide +kernel

theorem okF1_of {f : List (List Nat)} (h : okF1 f = true) : SmallF f ∧ (∀ b ∈ f, b.length ≤ 50 ∧ ∀ l ∈ b, l ≤ 1000) := by
  unfold okF1 at h
  rw [Bool.and_eq_true, List.all_eq_true] at h
  have h2 : ∀ b ∈ f, b.length ≤ 50 ∧ ∀ l ∈ b, l ≤ 1000 := fun b hb => by
    have := h.2 b hb
    rw [Bool.and_eq_true, List.all_eq_true] at this
    exact ⟨Nat.le_of_ble_eq_true this.1, fun l hl => Nat.le_of_ble_eq_true (this.2 l hl)⟩
  exact ⟨⟨Nat.le_of_ble_eq_true h.1, fun b hb => by have := (h2 b hb).1; omega⟩, h2⟩
theorem okLs_of {l : List SP} (h : okLs l = true) : l.length ≤ 500 ∧ ∀ s ∈ l, (SmallF s.1 ∧ SmallF s.2) ∧ (∀ b ∈ s.2, b.length ≤ 50 ∧ ∀ x ∈ b, x ≤ 1000) := by
  unfold okLs at h
  rw [Bool.and_eq_true, List.all_eq_true] at h
  refine ⟨Nat.le_of_ble_eq_true h.1, fun s hs => ?_⟩
  have := h.2 s hs
  unfold okS1 at this
  rw [Bool.and_eq_true] at this
  exact ⟨⟨(okF1_of this.1).1, (okF1_of this.2).1⟩, (okF1_of this.2).2⟩
theorem okT1_of {t : List Nat} (h : okT1 t = true) : t.length ≤ 100 ∧ ∀ l ∈ t, l ≤ 1000 := by
  unfold okT1 at h
  rw [Bool.and_eq_true, List.all_eq_true] at h
  exact ⟨Nat.le_of_ble_eq_true h.1, fun l hl => Nat.le_of_ble_eq_true (h.2 l hl)⟩
theorem trunkV_some {s s' : SP} (h : trunkV s = some s') : okT1 (rootN s.2) = true ∧ brLen s.2 ≤ 1000 ∧ ∃ r, canO 9 (rootN s.2) = some r ∧ okT1 r = true ∧ s' = (s.1, [r]) := by
  unfold trunkV at h
  cases h1 : okT1 (rootN s.2) with
  | false => rw [h1] at h; cases h
  | true =>
    cases h2 : Nat.ble (brLen s.2) 1000 with
    | false => rw [h1, h2] at h; cases h
    | true =>
      rw [h1, h2] at h
      simp only [Bool.and_self, cond_true] at h
      refine ⟨rfl, Nat.le_of_ble_eq_true h2, ?_⟩
      cases h3 : canO 9 (rootN s.2) with
      | none => rw [h3] at h; cases h
      | some r =>
        rw [h3] at h
        simp only at h
        cases h4 : okT1 r with
        | false => rw [h4] at h; cases h
        | true => rw [h4] at h; injection h with h; exact ⟨r, rfl, h4, h.symm⟩
theorem loopV_cons {g : List Nat → Option (List SP)} {b : List Nat} {bs : List (List Nat)} {acc r : List SP} (h : loopV g (b :: bs) acc = some r) : ∃ lb, g b = some lb ∧ okLs lb = true ∧ okLs (prodS acc lb) = true ∧ loopV g bs (prodS acc lb) = some r := by
  rw [loopV] at h
  cases h1 : g b with
  | none => rw [h1] at h; cases h
  | some lb =>
    rw [h1] at h
    simp only at h
    cases h2 : okLs lb with
    | false => rw [h2] at h; cases h
    | true =>
      cases h3 : okLs (prodS acc lb) with
      | false => rw [h2, h3] at h; cases h
      | true => rw [h2, h3] at h; exact ⟨lb, rfl, h2, h3, h⟩
theorem splV_succ {f : Nat} {t : List Nat} {r : List SP} (h : splV (f + 1) t = some r) : okT1 t = true ∧ ∃ bs l l2 c, brO t = some bs ∧ loopV (splV f) bs [([], [])] = some l ∧ okLs l = true ∧ mapO trunkV l = some l2 ∧ canO 9 t = some c ∧ okLs l2 = true ∧ r = l2 ++ [([c], [])] := by
  rw [splV] at h
  cases h1 : okT1 t with
  | false => rw [h1] at h; cases h
  | true =>
    rw [h1] at h
    refine ⟨rfl, ?_⟩
    simp only [cond_true] at h
    cases h2 : brO t with
    | none => rw [h2] at h; cases h
    | some bs =>
      rw [h2] at h
      simp only at h
      cases h3 : loopV (splV f) bs [([], [])] with
      | none => rw [h3] at h; cases h
      | some l =>
        rw [h3] at h
        simp only at h
        cases h4 : okLs l with
        | false => rw [h4] at h; cases h
        | true =>
          rw [h4] at h
          simp only [cond_true] at h
          cases h5 : mapO trunkV l with
          | none => rw [h5] at h; cases h
          | some l2 =>
            rw [h5] at h
            simp only at h
            cases h6 : canO 9 t with
            | none => rw [h6] at h; cases h
            | some c =>
              rw [h6] at h
              simp only at h
              cases h7 : okLs l2 with
              | false => rw [h7] at h; cases h
              | true => rw [h7] at h; injection h with h; exact ⟨bs, l, l2, c, rfl, h3, h4, h5, rfl, h7, h.symm⟩
theorem prodS_succ {xs ys : List SP} {j : Nat} {s : SP} (h : xs[j]? = some s) : prodS (xs.take (j + 1)) ys = prodS (xs.take j) ys ++ ys.map (combS s) := by
  rw [List.take_add_one, h]
  simp [prodS]
end Go.Proofs.YtdjhfeaimmpmhaaGreat

