/- Walk: l07Cuts of the reference. -/
import Derived.Test.YtdjhfeaimmpmhaaGreatZm30
import Derived.Test.YtdjhfeaimmpmhaaGreatZm31
import Derived.Test.YtdjhfeaimmpmhaaGreatZm17
import Derived.Test.YtdjhfeaimmpmhaaGreatZm18
set_option maxRecDepth 100000
set_option linter.unusedVariables false
set_option linter.unusedSimpArgs false
namespace Go.Proofs.YtdjhfeaimmpmhaaGreat
open Go.RowKit

theorem cu_parts {w : World} {B : Nat} {css : List (List Value)} {l : List CU} {e : TypeId} {A2 : Option Addr} {c2 i : Nat} {x : CU} (h : OwnK w B e 3 (.slice A2 css.length c2) css) (he : Elts eCu w B css l) (hx : l[i]? = some x) :
    ∃ go Au cu As cs, A2 = some ⟨go, 0, none⟩ ∧ LL w B (.slice Au x.1.1.length cu) (x.1.1.map up) ∧ OwnInts w B tI (.slice As x.1.2.length cs) (up x.1.2) ∧
      w.cell? ⟨go, i * 3, none⟩ = some (.slice Au x.1.1.length cu) ∧ w.cell? ⟨go, i * 3 + 1, none⟩ = some (.slice As x.1.2.length cs) ∧ w.cell? ⟨go, i * 3 + 2, none⟩ = some (.int .i64 (x.2 : Nat)) := by
  obtain ⟨c, hc, u, s, rfl, hu, hs⟩ := he.at_ hx
  have hu1 : LL w B u (x.1.1.map up) ∧ x.1.1.length ≤ 1000000 ∧ ndN x.1.1 ≤ 1000000 := hu
  have hs1 : OwnInts w B tI s (up x.1.2) := hs
  obtain ⟨Au, cu, rfl, -, -, -⟩ := hu1.1.rows.open_
  obtain ⟨As, cs, rfl, -, -, -⟩ := hs1.ints.open_
  rw [List.length_map] at hu1 hc
  rw [up_len] at hs1 hc
  obtain ⟨go, cg, heo, hg0⟩ := h.cell (j := 0) hc rfl
  simp only [Value.slice.injEq] at heo
  obtain ⟨rfl, -, rfl⟩ := heo
  refine ⟨go, Au, cu, As, cs, rfl, hu1.1, hs1, hg0, ?_, ?_⟩
  · obtain ⟨g', c', he', h'⟩ := h.cell (j := 1) hc rfl; simp only [Value.slice.injEq, Option.some.injEq, Addr.mk.injEq, and_true, true_and] at he'; rw [he'.1]; exact h'
  · obtain ⟨g', c', he', h'⟩ := h.cell (j := 2) hc rfl; simp only [Value.slice.injEq, Option.some.injEq, Addr.mk.injEq, and_true, true_and] at he'; rw [he'.1]; exact h'
set_option maxHeartbeats 32000000 in
theorem s_l07Cuts (w : World) :
    Calls Tryz.prog 78 #[] w fun e w' => ∃ x, e = .returned x ∧ C7 w' w.heap.size x ∧ Below w.heap.size w w' := by
  go_enter Tryz.func78, Tryz.ntmps78
  go_wp2_with (go_at_call 70; go_loud (refine (s_l03All _ 6 (by omega)).mono ?_; rintro e w1 ⟨x1, rfl, hx1, hb1⟩; rw [show allG treesN 6 = T6n from rfl] at hx1; obtain ⟨A1, c1, he1, -, -, -⟩ := hx1.rows.open_; rw [List.length_map, T6n_len] at he1; subst he1; have HX1 := Lib.hid hx1.rows; have HB1 := Lib.hid hb1; clear hx1 hb1))
  obtain ⟨w2, hw2⟩ : ∃ w2, w2 = (w1.alloc (.cells #[] t7)).alloc (.cells #[.slice (some ⟨w1.heap.size, 0, none⟩) 0 0] t7l) := ⟨_, rfl⟩
  have hb2 : Below w1.heap.size w1 w2 := by rw [hw2]; exact (below1 w1 _).trans ((below1 _ _).mono (by simp))
  have HB2 := Lib.hid hb2
  have OL := Lib.hid (show Own w2 w1.heap.size t7l (.slice (some ⟨w1.heap.size + 1, 0, none⟩) 1 1) [.slice (some ⟨w1.heap.size, 0, none⟩) 0 0] from by
    rw [hw2]
    have h := own_lit (w1.alloc (.cells #[] t7)) t7l [.slice (some ⟨w1.heap.size, 0, none⟩) 0 0] (by simp [maxLen])
    rw [size_alloc'] at h
    exact h.mono (Nat.le_succ _))
  have OM := Lib.hid (show M7T w2 w1.heap.size [.slice (some ⟨w1.heap.size, 0, none⟩) 0 0] ([] :: CTab.take 0) from by
    rw [hw2]
    have h : M7L (w1.alloc (.cells #[] t7)) w1.heap.size (.slice (some ⟨w1.heap.size, 0, none⟩) 0 0) [] := ⟨[], OwnK.lit w1 t7 3 [] (fun c hc => by simp at hc) (by simp [maxLen]) #[] rfl, M7s.nil _ _⟩
    exact (M7T.nil _ _).snoc (h.below (below1 _ _)))
  rw [← hw2]
  clear hw2 hb2
  go_loopw [2, 3] (fun o x wr => ∃ (i : Nat) (us : List Value), i ≤ 37 ∧ x = .int .i64 i ∧ Own wr w1.heap.size t7l o us ∧ M7T wr w1.heap.size us ([] :: CTab.take i) ∧ Below w1.heap.size w1 wr) (fun _ x _ => 37 - (intOf x).toNat)
  case atStart => exact ⟨0, _, by omega, rfl, OL.out, OM.out, HB2.out⟩
  case round =>
    obtain ⟨i, us, hi, rfl, hy, hm, hb⟩ := hrel
    rename World => wq
    clear OL OM
    have HY := Lib.hid hy
    have HM := Lib.hid hm
    have HBQ := Lib.hid hb
    have husl : us.length ≤ 38 := by rw [hm.1, List.length_cons, List.length_take]; omega
    obtain ⟨Ay, cy, rfl, -, -⟩ := hy.cells.open_
    have hrw := HX1.out.below hb
    clear hy hm hb
    by_cases hlt : i < 37
    · obtain ⟨ad, At, ct, t, rfl, ht, hti, hcr⟩ := hrw.tree hlt
      have htr := tr_at ht
      obtain ⟨l, hl5, -, hlm, hlc⟩ := cut_at hlt
      have hl5 : tree5 9 t = some l := by rw [← htr]; exact hl5
      have HTI := Lib.hid hti
      have HLC := Lib.hid (fun W (h : Ints W (.slice At t.length ct) (up t)) => s_l05Cuts W _ t l h hl5)
      obtain ⟨C, hC⟩ : ∃ C, C = l.map cut5 := ⟨_, rfl⟩
      rw [← hC] at hlm HLC
      have HLM := Lib.hid hlm
      have HCB := Lib.hid (show ∀ c ∈ C, (∀ p ∈ (mcR c).1.1, 1 ≤ p ∧ p ≤ i + 1) ∧ (mcR c).1.2 ≤ i + 1 ∧ (mcR c).1.1.length ≤ 100 ∧ (mcR c).2 ≤ 100 from fun c hc => hlc _ (by rw [← hlm]; exact List.mem_map_of_mem hc))
      have HTS := Lib.hid (show [] :: CTab.take (i + 1) = ([] :: CTab.take i) ++ [CTab.getD i []] from by
        rw [List.take_add_one, List.getD_eq_getElem?_getD]
        have : CTab[i]? = some (CTab[i]'(by rw [CTab_len]; exact hlt)) := List.getElem?_eq_getElem _
        rw [this]; rfl)
      have HCLN := Lib.hid (show C.length ≤ 100 from by
        obtain ⟨-, c0, ps, l0, l2, -, -, -, -, -, -, -, -, -, hrk, -⟩ := tree5_succ hl5
        rw [hC, List.length_map]
        exact (okL5_of hrk).1)
      have hii : (i : Int) < 37 := by omega
      clear ht htr hl5 hlm hlc hti hC
      go_wp2_with (go_at_call 140; go_loud (refine (HLC.out _ HTI.out).mono ?_; rintro e w3 ⟨x3, rfl, hx3, hb3⟩; obtain ⟨css2, ho2, he2⟩ := hx3; obtain ⟨A2, c2, rfl, -, -⟩ := ho2.open_; have HO2 := Lib.hid ho2; have HE2 := Lib.hid he2; have HB3 := Lib.hid hb3; have HCL := Lib.hid he2.1; have hc5 : css2.length ≤ 100 := (by rw [he2.1]; exact HCLN.out); clear ho2 he2 hb3))
      have OL := Lib.hid (show OwnK (w3.alloc (.cells #[] t7)) w3.heap.size t7 3 (.slice (some ⟨w3.heap.size, 0, none⟩) 0 0) [] from OwnK.lit w3 t7 3 [] (fun c hc => by simp at hc) (by simp [maxLen]) #[] rfl)
      clear hcr
      go_loopw [5, 6] (fun o x wr => ∃ (j : Nat) (css3 : List (List Value)), j ≤ css2.length ∧ x = .int .i64 j ∧ OwnK wr w3.heap.size t7 3 o css3 ∧ M7s wr w3.heap.size css3 ((C.take j).map mcR) ∧ Below w3.heap.size w3 wr) (fun _ x _ => css2.length - (intOf x).toNat)
      case atStart => exact ⟨0, [], Nat.zero_le _, rfl, OL.out, M7s.nil _ _, below1 _ _⟩
      case round =>
        obtain ⟨j, css3, hj, rfl, ho3, hm3, hb⟩ := hrel
        rename World => wm
        clear OL
        have HO3 := Lib.hid ho3
        have HM3 := Lib.hid hm3
        have HBM := Lib.hid hb
        have hcl3 : css3.length ≤ 100 := by rw [hm3.1, List.length_map, List.length_take]; omega
        by_cases hlj : j < css2.length
        · obtain ⟨y, hy⟩ : ∃ y, C[j]? = some y := ⟨_, List.getElem?_eq_getElem (by rw [← HCL.out]; exact hlj)⟩
          obtain ⟨bp, btr, bl, bn⟩ := HCB.out y (List.mem_of_getElem? hy)
          obtain ⟨go, Au, cu, As, cs, rfl, hu, hs, p0, p1, p2⟩ := cu_parts HO2.out HE2.out hy
          have HTJ := Lib.hid (show (C.take (j + 1)).map mcR = (C.take j).map mcR ++ [mcR y] from by rw [List.take_add_one, hy, List.map_append]; rfl)
          obtain ⟨⟨cr, tt⟩, n⟩ := y
          have hu : LL w3 wq.heap.size (.slice Au cr.length cu) (cr.map up) := hu
          have hs : OwnInts w3 wq.heap.size tI (.slice As tt.length cs) (up tt) := hs
          have p0 : w3.cell? ⟨go, j * 3, none⟩ = some (.slice Au cr.length cu) := p0
          have p1 : w3.cell? ⟨go, j * 3 + 1, none⟩ = some (.slice As tt.length cs) := p1
          have p2 : w3.cell? ⟨go, j * 3 + 2, none⟩ = some (.int .i64 (n : Nat)) := p2
          have bn : n ≤ 100 := bn
          have bl : cr.length ≤ 100 := by have h : (cr.map (fndN T6n)).length ≤ 100 := bl; rwa [List.length_map] at h
          have btr : fndN T6n tt ≤ i + 1 := btr
          have HBP := Lib.hid (show ∀ x ∈ cr, 1 ≤ fndN T6n x ∧ fndN T6n x ≤ 37 from fun x hx => by have := bp (fndN T6n x) (List.mem_map_of_mem hx); omega)
          obtain ⟨pt, hpt⟩ : ∃ pt, pt = fndN T6n tt := ⟨_, rfl⟩
          have hpt37 : pt ≤ 37 := by rw [hpt]; omega
          have HMX := Lib.hid (show mcR ((cr, tt), n) = ((cr.map (fndN T6n), pt), n) from by rw [hpt]; rfl)
          have HFT := Lib.hid (fun W (h : Below wm.heap.size wm W) => show Calls Tryz.prog 72 #[.slice (some ad) 37 c1, .slice As tt.length cs] W fun e w' => e = .returned (.int .i64 ((pt : Int) - 1)) ∧ ∃ n, w' = W.drewN n from by
            have hbw := HBM.out.trans (h.mono HBM.out.size)
            have h2 := s_l03Find W (.slice (some ad) 37 c1) (.slice As tt.length cs) T6n tt (((HX1.out.below HBQ.out).below HB3.out).below hbw) (hs.below hbw).ints (by rw [T6n_len]; omega)
            rw [hpt]; exact h2)
          have HMD := Lib.hid (fun W => show Calls Tryz.prog 123 #[.int .i64 (n : Int)] W fun e w' => e = .returned (.int .i64 (n : Int)) ∧ W = w' from by
            have h := s_l01Mod (n : Int) W (by omega) (by omega)
            rwa [show (n : Int) % 10007 = (n : Int) from by omega] at h)
          have hwp : IntKind.i64.wrap ((pt : Int) - 1 + 1) = (pt : Int) := by rw [show (pt : Int) - 1 + 1 = (pt : Int) from by omega]; exact IntWalk.i64_in _ (by omega)
          have hwp2 : IntKind.i64.wrap (pt : Int) = (pt : Int) := IntWalk.i64_in _ (by omega)
          have HU := Lib.hid (hu.below hb)
          have QQ := Lib.hid (fun W (h : Below wm.heap.size wm W) => show W.cell? ⟨go, j * 3 + 1, none⟩ = some (.slice As tt.length cs) ∧ W.cell? ⟨go, j * 3 + 2, none⟩ = some (.int .i64 (n : Nat)) from ⟨keepCell (HBM.out.trans (h.mono HBM.out.size)) p1, keepCell (HBM.out.trans (h.mono HBM.out.size)) p2⟩)
          have HP0 := Lib.hid (fun W (h : Below wm.heap.size wm W) => show W.cell? ⟨go, j * 3, none⟩ = some (.slice Au cr.length cu) from keepCell (HBM.out.trans (h.mono HBM.out.size)) p0)
          have hjj : (j : Int) < (css2.length : Int) := by omega
          clear hu hs p0 p1 p2 hpt bp btr ho3 hm3 hb hy
          go_upto_region 10 with fail
          go_cut [7] from 24 to 74 (fun x wx => ∃ q, x = .pointer (some ⟨q, 0, none⟩) ∧ wm.heap.size ≤ q ∧ Blk wx q t7 #[.int .i64 n, .slice none 0 0, .int .i64 (pt : Nat)] ∧ Below wm.heap.size wm wx)
          case first =>
            refine AnyT.begin (k := 16) (S := fun b w' => (w'.cell? ⟨go, j * 3 + 1, none⟩ = some (.slice As tt.length cs) ∧ w'.cell? ⟨go, j * 3 + 2, none⟩ = some (.int .i64 (n : Nat))) ∧ True) (by kernel_rfl) ?_
            have hS : (fun (b : Bool) (w' : World) => (w'.cell? ⟨go, j * 3 + 1, none⟩ = some (.slice As tt.length cs) ∧ w'.cell? ⟨go, j * 3 + 2, none⟩ = some (.int .i64 (n : Nat))) ∧ True) false wm.drew := ⟨QQ.out _ (Below.refl _ _).drew, trivial⟩
            refine AnyT.take0 (i := 0) (v := ?_) rfl (by kernel_rfl) (by kernel_rfl) (by kernel_rfl) (by decide) (fun _ _ _ h => h) hS (Or.inl ⟨by first | kernel_rfl | rfl, ?_⟩) ?_
            rotate_left
            · intro w' hw'; clear hw'; go_simp; try with_reducible rfl
            try simp only [Act.put, List.setIfInBounds_toArray, List.set_cons_zero, List.set_cons_succ]
            refine AnyT.take0 (i := 1) (v := ?_) rfl (by kernel_rfl) (by kernel_rfl) (by kernel_rfl) (by decide) (fun _ _ _ h => h) hS (Or.inl ⟨by first | kernel_rfl | rfl, ?_⟩) ?_
            rotate_left
            · intro w' hw'; clear hw'; go_simp; try with_reducible rfl
            try simp only [Act.put, List.setIfInBounds_toArray, List.set_cons_zero, List.set_cons_succ]
            refine AnyT.take0 (i := 2) (v := ?_) rfl (by kernel_rfl) (by kernel_rfl) (by kernel_rfl) (by decide) (fun _ _ _ h => h) hS (Or.inl ⟨by first | kernel_rfl | rfl, ?_⟩) ?_
            rotate_left
            · intro w' hw'; clear hw'; go_simp; try with_reducible rfl
            try simp only [Act.put, List.setIfInBounds_toArray, List.set_cons_zero, List.set_cons_succ]
            refine AnyT.take0 (i := 3) (v := ?_) rfl (by kernel_rfl) (by kernel_rfl) (by kernel_rfl) (by decide) (fun _ _ _ h => h) hS (Or.inl ⟨by first | kernel_rfl | rfl, ?_⟩) ?_
            rotate_left
            · intro w' hw'; clear hw'; go_simp; try with_reducible rfl
            try simp only [Act.put, List.setIfInBounds_toArray, List.set_cons_zero, List.set_cons_succ]
            refine AnyT.take0 (i := 4) (v := ?_) rfl (by kernel_rfl) (by kernel_rfl) (by kernel_rfl) (by decide) (fun _ _ _ h => h) hS (Or.inl ⟨by first | kernel_rfl | rfl, ?_⟩) ?_
            rotate_left
            · rintro w' ⟨b, hw'⟩; obtain ⟨hw1, -⟩ := hw'; (try (obtain ⟨hw1, hw2⟩ := hw1)); (try (obtain ⟨hw2, hw3⟩ := hw2)); (try (obtain ⟨hw3, hw4⟩ := hw3)); go_simp; try with_reducible rfl
            try simp only [Act.put, List.setIfInBounds_toArray, List.set_cons_zero, List.set_cons_succ]
            refine AnyT.take0 (i := 6) (v := ?_) rfl (by kernel_rfl) (by kernel_rfl) (by kernel_rfl) (by decide) (fun _ _ _ h => h) hS (Or.inl ⟨by first | kernel_rfl | rfl, ?_⟩) ?_
            rotate_left
            · intro w' hw'; clear hw'; go_simp; try with_reducible rfl
            try simp only [Act.put, List.setIfInBounds_toArray, List.set_cons_zero, List.set_cons_succ]
            refine AnyT.take0 (i := 7) (v := ?_) rfl (by kernel_rfl) (by kernel_rfl) (by kernel_rfl) (by decide) (fun _ _ _ h => h) hS (Or.inl ⟨by first | kernel_rfl | rfl, ?_⟩) ?_
            rotate_left
            · intro w' hw'; clear hw'; go_simp; try with_reducible rfl
            try simp only [Act.put, List.setIfInBounds_toArray, List.set_cons_zero, List.set_cons_succ]
            refine AnyT.take0 (i := 8) (v := ?_) rfl (by kernel_rfl) (by kernel_rfl) (by kernel_rfl) (by decide) (fun _ _ _ h => h) hS (Or.inl ⟨by first | kernel_rfl | rfl, ?_⟩) ?_
            rotate_left
            · intro w' hw'; clear hw'; go_simp; try with_reducible rfl
            try simp only [Act.put, List.setIfInBounds_toArray, List.set_cons_zero, List.set_cons_succ]
            refine AnyT.take0 (i := 9) (v := ?_) rfl (by kernel_rfl) (by kernel_rfl) (by kernel_rfl) (by decide) (fun _ _ _ h => h) hS (Or.inl ⟨by first | kernel_rfl | rfl, ?_⟩) ?_
            rotate_left
            · intro w' hw'; clear hw'; go_simp; try with_reducible rfl
            try simp only [Act.put, List.setIfInBounds_toArray, List.set_cons_zero, List.set_cons_succ]
            refine AnyT.take0 (i := 10) (v := ?_) rfl (by kernel_rfl) (by kernel_rfl) (by kernel_rfl) (by decide) (fun _ _ _ h => h) hS (Or.inl ⟨by first | kernel_rfl | rfl, ?_⟩) ?_
            rotate_left
            · intro w' hw'; clear hw'; go_simp; try with_reducible rfl
            try simp only [Act.put, List.setIfInBounds_toArray, List.set_cons_zero, List.set_cons_succ]
            refine AnyT.take0 (i := 11) (v := ?_) rfl (by kernel_rfl) (by kernel_rfl) (by kernel_rfl) (by decide) (fun _ _ _ h => h) hS (Or.inl ⟨by first | kernel_rfl | rfl, ?_⟩) ?_
            rotate_left
            · rintro w' ⟨b, hw'⟩; obtain ⟨hw1, -⟩ := hw'; (try (obtain ⟨hw1, hw2⟩ := hw1)); (try (obtain ⟨hw2, hw3⟩ := hw2)); (try (obtain ⟨hw3, hw4⟩ := hw3)); go_simp; try with_reducible rfl
            try simp only [Act.put, List.setIfInBounds_toArray, List.set_cons_zero, List.set_cons_succ]
            refine AnyT.go (rs := [5, 15]) (by kernel_rfl) (by simp) ?_
            refine AllT.cons rfl (fun K hK => ?_) (AllT.cons rfl (fun K hK => ?_) AllT.nil)
            · go_simp
              refine (HMD.out wm.drew).mono ?_
              rintro e w4 ⟨rfl, rfl⟩
              refine hK.out _ _ ⟨QQ.out _ (Below.refl _ _).drew, trivial⟩ (fun hS => ?_)
              clear hK
              try simp only [Act.put, List.setIfInBounds_toArray, List.set_cons_zero, List.set_cons_succ]
              refine AnyT.go (rs := [12, 15]) (by kernel_rfl) (by simp) ?_
              refine AllT.cons rfl (fun K hK => ?_) (AllT.cons rfl (fun K hK => ?_) AllT.nil)
              · skip
                go_simp
                refine (HFT.out _ (Below.refl wm.heap.size wm).drew).mono ?_
                rintro e w5 ⟨rfl, n5, hw5⟩
                have hb5 : Below wm.heap.size wm w5 := hw5.symm ▸ below_drewN (Below.refl wm.heap.size wm).drew n5
                have HB5 := Lib.hid hb5
                clear hw5 hb5
                refine hK.out _ _ ⟨QQ.out _ HB5.out, trivial⟩ (fun hS => ?_)
                clear hK
                try simp only [Act.put, List.setIfInBounds_toArray, List.set_cons_zero, List.set_cons_succ]
                refine AnyT.take0 (i := 13) (v := ?_) rfl (by kernel_rfl) (by kernel_rfl) (by kernel_rfl) (by decide) (fun _ _ _ h => h) hS (Or.inl ⟨by first | kernel_rfl | rfl, ?_⟩) ?_
                rotate_left
                · intro w' hw'; clear hw'; go_simp; try with_reducible rfl
                try simp only [Act.put, List.setIfInBounds_toArray, List.set_cons_zero, List.set_cons_succ]
                refine AnyT.take0 (i := 14) (v := ?_) rfl (by kernel_rfl) (by kernel_rfl) (by kernel_rfl) (by decide) (fun _ _ _ h => h) hS (Or.inl ⟨by first | kernel_rfl | rfl, ?_⟩) ?_
                rotate_left
                · intro w' hw'; clear hw'; go_simp; try with_reducible rfl
                try simp only [Act.put, List.setIfInBounds_toArray, List.set_cons_zero, List.set_cons_succ]
                refine AnyT.go (rs := [15]) (by kernel_rfl) (by simp) ?_
                refine AllT.cons rfl (fun K hK => ?_) AllT.nil
                go_simp
                have HB6 := Lib.hid (show Below wm.heap.size wm (w5.alloc (.cells #[.int .i64 0, .slice none 0 0, .int .i64 0] t7)) from HB5.out.trans ((below1 w5 _).mono HB5.out.size))
                refine hK.out _ _ ⟨QQ.out _ HB6.out, trivial⟩ (fun hS => ?_)
                clear hK
                try simp only [Act.put, List.setIfInBounds_toArray, List.set_cons_zero, List.set_cons_succ]
                refine AnyT.go (rs := [16]) (by kernel_rfl) (by simp) ?_
                refine AllT.cons rfl (fun K hK => ?_) AllT.nil
                go_simp
                refine hK.out _ _ ⟨QQ.out _ (HB5.out.trans ((below1 w5 _).mono HB5.out.size)), trivial⟩ (fun hS => ?_)
                clear hK
                try simp only [Act.put, List.setIfInBounds_toArray, List.set_cons_zero, List.set_cons_succ]
                clear hS
                refine AnyT.done (by kernel_rfl) ?_ _
                go_wp2_with fail
                go_meet
                exact ⟨_, rfl, HB5.out.size, Blk.new w5 _ _, HB5.out.trans ((below1 w5 _).mono HB5.out.size)⟩
              · go_simp
                refine hK.out _ _ ⟨QQ.out _ (below_of_drew (below1 wm.drew _)), trivial⟩ (fun hS => ?_)
                clear hK
                try simp only [Act.put, List.setIfInBounds_toArray, List.set_cons_zero, List.set_cons_succ]
                refine AnyT.go (rs := [12]) (by kernel_rfl) (by simp) ?_
                refine AllT.cons rfl (fun K hK => ?_) AllT.nil
                have HBA := Lib.hid (show Below wm.heap.size wm (wm.drew.alloc (.cells #[.int .i64 0, .slice none 0 0, .int .i64 0] t7)) from below_of_drew (below1 wm.drew _))
                go_simp
                refine (HFT.out _ HBA.out).mono ?_
                rintro e w5 ⟨rfl, n5, hw5⟩
                have hb5 : Below (wm.drew.alloc (.cells #[.int .i64 0, .slice none 0 0, .int .i64 0] t7)).heap.size (wm.drew.alloc (.cells #[.int .i64 0, .slice none 0 0, .int .i64 0] t7)) w5 := hw5.symm ▸ below_drewN (Below.refl (wm.drew.alloc (.cells #[.int .i64 0, .slice none 0 0, .int .i64 0] t7)).heap.size (wm.drew.alloc (.cells #[.int .i64 0, .slice none 0 0, .int .i64 0] t7))) n5
                have HB5 := Lib.hid hb5
                clear hw5 hb5
                have HB6 := Lib.hid (show Below wm.heap.size wm w5 from HBA.out.trans (HB5.out.mono HBA.out.size))
                refine hK.out _ _ ⟨QQ.out _ HB6.out, trivial⟩ (fun hS => ?_)
                clear hK
                try simp only [Act.put, List.setIfInBounds_toArray, List.set_cons_zero, List.set_cons_succ]
                refine AnyT.take0 (i := 13) (v := ?_) rfl (by kernel_rfl) (by kernel_rfl) (by kernel_rfl) (by decide) (fun _ _ _ h => h) hS (Or.inl ⟨by first | kernel_rfl | rfl, ?_⟩) ?_
                rotate_left
                · intro w' hw'; clear hw'; go_simp; try with_reducible rfl
                try simp only [Act.put, List.setIfInBounds_toArray, List.set_cons_zero, List.set_cons_succ]
                refine AnyT.take0 (i := 14) (v := ?_) rfl (by kernel_rfl) (by kernel_rfl) (by kernel_rfl) (by decide) (fun _ _ _ h => h) hS (Or.inl ⟨by first | kernel_rfl | rfl, ?_⟩) ?_
                rotate_left
                · intro w' hw'; clear hw'; go_simp; try with_reducible rfl
                try simp only [Act.put, List.setIfInBounds_toArray, List.set_cons_zero, List.set_cons_succ]
                have HBKx := Lib.hid (show Blk w5 wm.heap.size t7 #[.int .i64 0, .slice none 0 0, .int .i64 0] from (Blk.new wm.drew #[.int .i64 0, .slice none 0 0, .int .i64 0] t7).below HB5.out (by simp))
                have b0 : (w5).cell? ⟨wm.heap.size, 0, none⟩ = some (.int .i64 0) := HBKx.out.cell 0
                have b1 : (w5).cell? ⟨wm.heap.size, 1, none⟩ = some (.slice none 0 0) := HBKx.out.cell 1
                have b2 : (w5).cell? ⟨wm.heap.size, 2, none⟩ = some (.int .i64 0) := HBKx.out.cell 2
                have c0 : (w5).frozen? ⟨wm.heap.size, 0, none⟩ = false := HBKx.out.frozen 0
                have c1 : (w5).frozen? ⟨wm.heap.size, 1, none⟩ = false := HBKx.out.frozen 1
                have c2 : (w5).frozen? ⟨wm.heap.size, 2, none⟩ = false := HBKx.out.frozen 2
                refine AnyT.go (rs := [16]) (by kernel_rfl) (by simp) ?_
                refine AllT.cons rfl (fun K hK => ?_) AllT.nil
                go_simp
                refine hK.out _ _ ⟨QQ.out _ ((((HB6.out).setCell (p := ⟨wm.heap.size, 0, none⟩) (Nat.le_refl _) _).setCell (p := ⟨wm.heap.size, 1, none⟩) (Nat.le_refl _) _).setCell (p := ⟨wm.heap.size, 2, none⟩) (Nat.le_refl _) _), trivial⟩ (fun hS => ?_)
                clear hK b0 b1 b2 c0 c1 c2
                try simp only [Act.put, List.setIfInBounds_toArray, List.set_cons_zero, List.set_cons_succ]
                clear hS
                refine AnyT.done (by kernel_rfl) ?_ _
                go_wp2_with fail
                go_meet
                exact ⟨_, rfl, (Nat.le_refl _), ((HBKx.out.set_ 0 (.int .i64 n)).set_ 1 (.slice none 0 0)).set_ 2 (.int .i64 (pt : Nat)), (((HB6.out).setCell (p := ⟨wm.heap.size, 0, none⟩) (Nat.le_refl _) _).setCell (p := ⟨wm.heap.size, 1, none⟩) (Nat.le_refl _) _).setCell (p := ⟨wm.heap.size, 2, none⟩) (Nat.le_refl _) _⟩
            · go_simp
              refine hK.out _ _ ⟨QQ.out _ (below_of_drew (below1 wm.drew _)), trivial⟩ (fun hS => ?_)
              clear hK
              try simp only [Act.put, List.setIfInBounds_toArray, List.set_cons_zero, List.set_cons_succ]
              refine AnyT.go (rs := [5]) (by kernel_rfl) (by simp) ?_
              refine AllT.cons rfl (fun K hK => ?_) AllT.nil
              go_simp
              refine (HMD.out _).mono ?_
              rintro e w4 ⟨rfl, rfl⟩
              refine hK.out _ _ ⟨QQ.out _ (below_of_drew (below1 wm.drew _)), trivial⟩ (fun hS => ?_)
              clear hK
              try simp only [Act.put, List.setIfInBounds_toArray, List.set_cons_zero, List.set_cons_succ]
              refine AnyT.go (rs := [12]) (by kernel_rfl) (by simp) ?_
              refine AllT.cons rfl (fun K hK => ?_) AllT.nil
              have HBA := Lib.hid (show Below wm.heap.size wm (wm.drew.alloc (.cells #[.int .i64 0, .slice none 0 0, .int .i64 0] t7)) from below_of_drew (below1 wm.drew _))
              go_simp
              refine (HFT.out _ HBA.out).mono ?_
              rintro e w5 ⟨rfl, n5, hw5⟩
              have hb5 : Below (wm.drew.alloc (.cells #[.int .i64 0, .slice none 0 0, .int .i64 0] t7)).heap.size (wm.drew.alloc (.cells #[.int .i64 0, .slice none 0 0, .int .i64 0] t7)) w5 := hw5.symm ▸ below_drewN (Below.refl (wm.drew.alloc (.cells #[.int .i64 0, .slice none 0 0, .int .i64 0] t7)).heap.size (wm.drew.alloc (.cells #[.int .i64 0, .slice none 0 0, .int .i64 0] t7))) n5
              have HB5 := Lib.hid hb5
              clear hw5 hb5
              have HB6 := Lib.hid (show Below wm.heap.size wm w5 from HBA.out.trans (HB5.out.mono HBA.out.size))
              refine hK.out _ _ ⟨QQ.out _ HB6.out, trivial⟩ (fun hS => ?_)
              clear hK
              try simp only [Act.put, List.setIfInBounds_toArray, List.set_cons_zero, List.set_cons_succ]
              refine AnyT.take0 (i := 13) (v := ?_) rfl (by kernel_rfl) (by kernel_rfl) (by kernel_rfl) (by decide) (fun _ _ _ h => h) hS (Or.inl ⟨by first | kernel_rfl | rfl, ?_⟩) ?_
              rotate_left
              · intro w' hw'; clear hw'; go_simp; try with_reducible rfl
              try simp only [Act.put, List.setIfInBounds_toArray, List.set_cons_zero, List.set_cons_succ]
              refine AnyT.take0 (i := 14) (v := ?_) rfl (by kernel_rfl) (by kernel_rfl) (by kernel_rfl) (by decide) (fun _ _ _ h => h) hS (Or.inl ⟨by first | kernel_rfl | rfl, ?_⟩) ?_
              rotate_left
              · intro w' hw'; clear hw'; go_simp; try with_reducible rfl
              try simp only [Act.put, List.setIfInBounds_toArray, List.set_cons_zero, List.set_cons_succ]
              have HBKx := Lib.hid (show Blk w5 wm.heap.size t7 #[.int .i64 0, .slice none 0 0, .int .i64 0] from (Blk.new wm.drew #[.int .i64 0, .slice none 0 0, .int .i64 0] t7).below HB5.out (by simp))
              have b0 : (w5).cell? ⟨wm.heap.size, 0, none⟩ = some (.int .i64 0) := HBKx.out.cell 0
              have b1 : (w5).cell? ⟨wm.heap.size, 1, none⟩ = some (.slice none 0 0) := HBKx.out.cell 1
              have b2 : (w5).cell? ⟨wm.heap.size, 2, none⟩ = some (.int .i64 0) := HBKx.out.cell 2
              have c0 : (w5).frozen? ⟨wm.heap.size, 0, none⟩ = false := HBKx.out.frozen 0
              have c1 : (w5).frozen? ⟨wm.heap.size, 1, none⟩ = false := HBKx.out.frozen 1
              have c2 : (w5).frozen? ⟨wm.heap.size, 2, none⟩ = false := HBKx.out.frozen 2
              refine AnyT.go (rs := [16]) (by kernel_rfl) (by simp) ?_
              refine AllT.cons rfl (fun K hK => ?_) AllT.nil
              go_simp
              refine hK.out _ _ ⟨QQ.out _ ((((HB6.out).setCell (p := ⟨wm.heap.size, 0, none⟩) (Nat.le_refl _) _).setCell (p := ⟨wm.heap.size, 1, none⟩) (Nat.le_refl _) _).setCell (p := ⟨wm.heap.size, 2, none⟩) (Nat.le_refl _) _), trivial⟩ (fun hS => ?_)
              clear hK b0 b1 b2 c0 c1 c2
              try simp only [Act.put, List.setIfInBounds_toArray, List.set_cons_zero, List.set_cons_succ]
              clear hS
              refine AnyT.done (by kernel_rfl) ?_ _
              go_wp2_with fail
              go_meet
              exact ⟨_, rfl, (Nat.le_refl _), ((HBKx.out.set_ 0 (.int .i64 n)).set_ 1 (.slice none 0 0)).set_ 2 (.int .i64 (pt : Nat)), (((HB6.out).setCell (p := ⟨wm.heap.size, 0, none⟩) (Nat.le_refl _) _).setCell (p := ⟨wm.heap.size, 1, none⟩) (Nat.le_refl _) _).setCell (p := ⟨wm.heap.size, 2, none⟩) (Nat.le_refl _) _⟩
          case rest =>
            obtain ⟨q, rfl, hq, hblk, hb10⟩ := hcut
            have HQ9 := Lib.hid hblk
            have HB9 := Lib.hid hb10
            have HQL := Lib.hid hq
            have hq0c := HP0.out _ hb10
            clear hblk hwp hwp2
            obtain ⟨wn, hwn⟩ : ∃ wn, wn = wc := ⟨_, rfl⟩
            rw [← hwn] at HQ9 HB9 hq0c ⊢
            clear hwn
            go_wp2_with fail
            go_loopw [8] (fun x wd => ∃ (k : Nat) (s7 : Value), k ≤ cr.length ∧ x = .int .i64 k ∧ Blk wd q t7 #[.int .i64 n, s7, .int .i64 (pt : Nat)] ∧ OwnInts wd wn.heap.size tI s7 (up ((cr.take k).map (fndN T6n))) ∧ Below wm.heap.size wm wd ∧ wn.heap.size ≤ wd.heap.size) (fun x _ => cr.length - (intOf x).toNat)
            case atStart => exact ⟨0, _, Nat.zero_le _, rfl, HQ9.out, OwnInts.nil _ _ _, HB9.out, Nat.le_refl _⟩
            case round =>
              obtain ⟨k, s7, hk, rfl, h7, hs7, hbd, hwd⟩ := hrel
              rename World => wd
              have hsz := hbd.size
              obtain ⟨A7, c7, he7, -, -, -⟩ := hs7.ints.open_
              rw [up_len, List.length_map, List.length_take, Nat.min_eq_left hk] at he7
              subst he7
              have H7 := Lib.hid h7
              have HS7 := Lib.hid hs7
              have HBD := Lib.hid hbd
              have hp7l := h7.lt
              have hcf := HP0.out _ hbd
              by_cases hlk : k < cr.length
              · obtain ⟨A', c', he, -, -, h3⟩ := rowsAt (HU.out.below hbd).rows
                simp only [Value.slice.injEq, true_and] at he
                obtain ⟨rfl, rfl⟩ := he
                obtain ⟨au, x, Ax, cx, rfl, hx, hxi, hxc⟩ := h3 k hlk
                obtain ⟨bx1, bx2⟩ := HBP.out x (List.mem_of_getElem? hx)
                obtain ⟨p0, hp0⟩ : ∃ p0, fndN T6n x = p0 + 1 := ⟨fndN T6n x - 1, by omega⟩
                have HXI := Lib.hid hxi
                have HXK := Lib.hid (show (cr.take (k + 1)).map (fndN T6n) = (cr.take k).map (fndN T6n) ++ [p0 + 1] from by rw [List.take_add_one, hx, List.map_append, ← hp0]; rfl)
                have HFX := Lib.hid (fun W (h : Below wd.heap.size wd W) => show Calls Tryz.prog 72 #[.slice (some ad) 37 c1, .slice Ax x.length cx] W fun e w' => e = .returned (.int .i64 (p0 : Nat)) ∧ ∃ n, w' = W.drewN n from by
                  have hbw := HBM.out.trans ((HBD.out.trans (h.mono HBD.out.size)).mono HBM.out.size)
                  have h2 := s_l03Find W (.slice (some ad) 37 c1) (.slice Ax x.length cx) T6n x (((HX1.out.below HBQ.out).below HB3.out).below hbw) (HXI.out.below h) (by rw [T6n_len]; omega)
                  rwa [hp0, show ((p0 + 1 : Nat) : Int) - 1 = (p0 : Int) from by omega] at h2)
                have hwq : IntKind.i64.wrap ((p0 : Int) + 1) = (p0 : Int) + 1 := IntWalk.i64_in _ (by omega)
                have hp36 : p0 ≤ 36 := by omega
                have hkk : (k : Int) < (cr.length : Int) := by omega
                have hp1 : wd.cell? ⟨q, 1, none⟩ = some (.slice A7 k c7) := H7.out.cell 1
                clear h3 hx hxi h7 hs7 hbd bx1 bx2 hp0
                go_upto_region 14 with fail
                have hp0 : wd.frozen? ⟨q, 1, none⟩ = false := H7.out.frozen 1
                have h7a : ∀ o, (wd.alloc o).cell? ⟨q, 1, none⟩ = some (.slice A7 k c7) := fun o => (H7.out.alloc o).cell 1
                have h7b : ∀ o o', ((wd.alloc o).alloc o').cell? ⟨q, 1, none⟩ = some (.slice A7 k c7) := fun o o' => ((H7.out.alloc o).alloc o').cell 1
                go_region_law (first
                  | (go_simp; go_at_call 72; refine (HFX.out _ (by exact (Below.refl wd.heap.size wd).drew)).mono ?_; rintro e w5 ⟨rfl, n5, hw5⟩; have hb5 : Below wd.heap.size wd w5 := (hw5.symm ▸ below_drewN (Below.refl wd.heap.size wd).drew n5); clear hw5; have HB5 := Lib.hid hb5; have k7 : w5.cell? ⟨q, 1, none⟩ = some (.slice A7 k c7) := (H7.out.below hb5 hp7l).cell 1; have k7a : ∀ o, (w5.alloc o).cell? ⟨q, 1, none⟩ = some (.slice A7 k c7) := fun o => ((H7.out.below hb5 hp7l).alloc o).cell 1)
                  | (refine step_app1 T_int (B := wn.heap.size) (v := .slice A7 k c7) (vs := ints (up ((cr.take k).map (fndN T6n)))) (HS7.out.1.below hb5) (by rw [ints_len, up_len, List.length_map, List.length_take]; omega) (by have := hb5.size; omega) (by rfl) rfl (by rfl) (by rfl) (by rfl) ?_; intro v6 w6 hown6 hgr6; obtain ⟨A6, c6, hv6, -, -⟩ := hown6.cells.open_; rw [List.length_append, ints_len, up_len, List.length_map, List.length_take, Nat.min_eq_left hk, List.length_singleton] at hv6; subst hv6; have HN6 := Lib.hid hown6; have HG6 := Lib.hid hgr6; have HB7 := Lib.hid ((H7.out.below hb5 hp7l).keptG hgr6.1 ((HS7.out.1.below hb5).bt.neb (H7.out.below hb5 hp7l) (by decide))); have m7 : w6.cell? ⟨q, 1, none⟩ = some (.slice A7 k c7) := HB7.out.cell 1; have m7f : w6.frozen? ⟨q, 1, none⟩ = false := HB7.out.frozen 1; clear hown6 hgr6))
                all_goals
                  have hqq := HQL.out
                  have hwc8 := HB9.out.size
                  have HB8d := Lib.hid (HG6.out.below (HBD.out.trans (HB5.out.mono HBD.out.size)) (Nat.le_trans HBD.out.size HB5.out.size) (fun b hb => Nat.le_trans hwc8 (HS7.out.1.ge b hb)))
                  have HN8 := Lib.hid (HN6.out.kept (grown_set w6 q 1 (.slice A6 (k + 1) c6)) (.inr (HN6.out.bt.neb HB7.out (by decide))))
                  have HB9d := Lib.hid (HB8d.out.setCell (p := ⟨q, 1, none⟩) hqq (.slice A6 (k + 1) c6))
                  have H77 := Lib.hid (HB7.out.set_ 1 (.slice A6 (k + 1) c6))
                  have HWS := Lib.hid (show wn.heap.size ≤ w6.heap.size from Nat.le_trans hwd (Nat.le_trans HB5.out.size HG6.out.1.size))
                  clear hb5 k7 k7a m7 m7f hp0 h7a h7b hp1
                  go_wp2_with fail
                  go_roundw
                  case rel =>
                    refine ⟨k + 1, _, by omega, by go_num, H77.out, ?_, HB9d.out, by simpa using HWS.out⟩
                    rw [HXK.out]
                    refine ⟨?_, fun z hz => ?_⟩
                    · have e : ints (up ((cr.take k).map (fndN T6n) ++ [p0 + 1])) = ints (up ((cr.take k).map (fndN T6n))) ++ [.int .i64 ((p0 : Int) + 1)] := by simp [ints, up]
                      rw [e]; exact HN8.out
                    · unfold up at hz
                      obtain ⟨y, hy, rfl⟩ := List.mem_map.1 hz
                      have : y ≤ 37 := by
                        rcases List.mem_append.1 hy with h | h
                        · obtain ⟨x', hx', rfl⟩ := List.mem_map.1 h
                          exact (HBP.out x' (List.mem_of_mem_take hx')).2
                        · simp at h; omega
                      unfold In64; omega
                  case measure => simp [intOf]; omega
              · have hkl : k = cr.length := by omega
                have HTK := Lib.hid (show cr.take k = cr from List.take_of_length_le (by omega))
                obtain ⟨Ao, co, rfl, -, -⟩ := HO3.out.open_
                have HBW2 := Lib.hid (fun o => show Below wm.heap.size wm (wd.alloc o) from HBD.out.trans ((below1 wd o).mono HBD.out.size))
                have HO3W := Lib.hid (fun o => HO3.out.below (HBW2.out o))
                have hw0 : wd.cell? ⟨q, 0, none⟩ = some (.int .i64 n) := H7.out.cell 0
                have hw1 : wd.cell? ⟨q, 1, none⟩ = some (.slice A7 k c7) := H7.out.cell 1
                have hw2 : wd.cell? ⟨q, 2, none⟩ = some (.int .i64 (pt : Nat)) := H7.out.cell 2
                clear hkl h7 hs7 hbd
                go_wp2_with (at_builtin; go_must (refine wpList_app1K T_7 (ad := ⟨wd.heap.size, 0, none⟩) (W := wd.alloc (.cells #[.int .i64 n, .slice A7 k c7, .int .i64 (pt : Nat)] t7)) (c := [.int .i64 n, .slice A7 k c7, .int .i64 (pt : Nat)]) (HO3W.out _) (by omega) (Nat.le_trans HBM.out.size (HBW2.out _).size) rfl (by intro u hu; simp at hu; rcases hu with rfl | rfl | rfl <;> rfl) (fun j u hu => lit_cells wd t7 [.int .i64 n, .slice A7 k c7, .int .i64 (pt : Nat)] #[.int .i64 n, .slice A7 k c7, .int .i64 (pt : Nat)] rfl j u hu) (by rfl) rfl (by rfl) (by rfl) ?_; intro v5 w5 hown5 hgr5; have HN5 := Lib.hid hown5; have HG5 := Lib.hid hgr5; clear hown5 hgr5))
                go_roundw
                case rel =>
                  refine ⟨j + 1, _, by omega, by go_num, HN5.out, ?_, HG5.out.below (HBM.out.trans ((HBW2.out _).mono HBM.out.size)) (Nat.le_trans HBM.out.size (HBW2.out _).size) HO3.out.ge⟩
                  rw [HTJ.out, HMX.out]
                  have hs := HS7.out
                  rw [HTK.out] at hs
                  exact ((HM3.out.below (HBW2.out _)).snoc (x := ((cr.map (fndN T6n), pt), n)) ⟨_, rfl, (hs.below (below1 wd _)).mono (Nat.le_trans HBM.out.size HB9.out.size)⟩).kept HG5.out.1 (HO3W.out _).bt (by decide)
                case measure => simp [intOf]; omega
        · have hjl : j = css2.length := by omega
          have HTK := Lib.hid (show C.take j = C from List.take_of_length_le (by rw [hjl, HCL.out]; exact Nat.le_refl _))
          clear hjl ho3 hm3 hb
          obtain ⟨Ao, co, rfl, -, -⟩ := HO3.out.open_
          have HBT := Lib.hid (HB3.out.trans (HBM.out.mono HB3.out.size))
          have HYC := Lib.hid (HY.out.below HBT.out)
          go_wp2_with (at_builtin; go_loud (refine wpList_app1 T_7l (W := wm) (u := .slice Ao css3.length co) HYC.out (by omega) (Nat.le_trans HBQ.out.size HBT.out.size) (by cases Ao <;> rfl) rfl (by rfl) (by rfl) (by rfl) ?_; intro v6 w6 hown6 hgr6; have HN6 := Lib.hid hown6; have HG6 := Lib.hid hgr6; clear hown6 hgr6))
          go_roundw
          case rel =>
            have g6 := HG6.out.1
            have hml : M7L w6 w1.heap.size (.slice Ao css3.length co) (CTab.getD i []) := by
              have hm3 := HM3.out
              rw [HTK.out, HLM.out] at hm3
              have h : M7L wm w3.heap.size (.slice Ao css3.length co) (CTab.getD i []) := ⟨css3, HO3.out, hm3⟩
              obtain ⟨css, k1, k2⟩ := h.kept g6 HYC.out.bt (by decide) (by decide)
              have hle := Nat.le_trans HBQ.out.size HB3.out.size
              exact ⟨css, k1.mono hle, k2.mono hle⟩
            have hm0 := ((HM.out.below HBT.out).kept g6 HYC.out.bt (by decide) (by decide)).snoc hml
            rw [← HTS.out] at hm0
            exact ⟨i + 1, us ++ [.slice Ao css3.length co], by omega, by go_num, HN6.out, hm0, HG6.out.below (HBQ.out.trans (HBT.out.mono HBQ.out.size)) (Nat.le_trans HBQ.out.size HBT.out.size) HY.out.ge⟩
          case measure => simp [intOf]; omega
    · have hil : i = 37 := by omega
      have HTK := Lib.hid (show CTab.take i = CTab from List.take_of_length_le (by rw [hil, CTab_len]; exact Nat.le_refl _))
      clear hil
      go_wp2_with fail
      go_ret
      have h := HM.out
      rw [HTK.out] at h
      have h2 : C7 wq w1.heap.size _ := ⟨us, HY.out, h⟩
      obtain ⟨us', k1, k2⟩ := h2
      refine ⟨_, rfl, ⟨us', k1.mono HB1.out.size, k2.1, fun i u x hu hx => ?_⟩, HB1.out.trans (HBQ.out.mono HB1.out.size)⟩
      obtain ⟨css, m1, m2⟩ := k2.2 i u x hu hx
      exact ⟨css, m1.mono HB1.out.size, m2.mono HB1.out.size⟩
end Go.Proofs.YtdjhfeaimmpmhaaGreat

