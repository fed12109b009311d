/- Walk: l05Cuts of the reference. -/
import Derived.Test.YtngdpoeondnchaaGreatQ31
import Derived.Test.YtngdpoeondnchaaGreatQ20
import Derived.Deep.CutRange
import Derived.Deep.CutBlock
import Derived.Deep.DeepCutAuto
set_option maxRecDepth 100000
set_option linter.unusedVariables false
set_option linter.unusedSimpArgs false
namespace Go.Proofs.YtngdpoeondnchaaGreat
open Go.RowKit

set_option maxHeartbeats 32000000 in
theorem s_l05Cuts (w : World) (v : Value) (t : List Nat) (l : List SC) (ha : Ints w v (up t)) (h : tree5 9 t = some l) :
    Calls Tryz.prog 116 #[v] w fun e w' => ∃ x, e = .returned x ∧ SLs eCu tCu w' w.heap.size x (l.map cut5) ∧ Below w.heap.size w w' := by
  obtain ⟨-, c, ps, l0, l2, -, -, -, -, -, -, -, -, -, hrk, -⟩ := tree5_succ h
  obtain ⟨ll, lk⟩ := okL5_of hrk
  have HLK := Lib.hid lk
  have HTR := Lib.hid (s_l05Tree 9 w v t l ha h)
  clear ha h hrk lk
  go_enter Tryz.func116, Tryz.ntmps116
  go_wp2_with (go_at_call 149; go_loud (refine HTR.out.mono ?_; rintro e w1 ⟨x1, rfl, ho1, hb1⟩; obtain ⟨csl, hol, hel⟩ := ho1; obtain ⟨Al, cl, rfl, -, -⟩ := hol.open_; have hcsl : csl.length ≤ 100 := (by rw [hel.1]; exact ll); have HLL := Lib.hid hel.1; have HOL := Lib.hid hol; have HEL := Lib.hid hel; have HB1 := Lib.hid hb1; clear hol hel hb1))
  have OL := Lib.hid (show OwnK (w1.alloc (.cells #[] tCu)) w1.heap.size tCu 3 (.slice (some ⟨w1.heap.size, 0, none⟩) 0 0) [] from OwnK.lit w1 tCu 3 [] (fun c hc => by simp at hc) (by simp [maxLen]) #[] rfl)
  go_loopw [4, 5] (fun o i wr => ∃ (k : Nat) (css3 : List (List Value)), k ≤ csl.length ∧ i = .int .i64 k ∧ OwnK wr w1.heap.size tCu 3 o css3 ∧ Elts eCu wr w.heap.size css3 ((l.take k).map cut5) ∧ Below w1.heap.size w1 wr) (fun _ i _ => csl.length - (intOf i).toNat)
  case atStart => exact ⟨0, [], Nat.zero_le _, rfl, OL.out, Elts.nil _ _ _, below1 _ _⟩
  case round =>
    obtain ⟨k, css3, hk, rfl, ho, he, hb⟩ := hrel
    rename World => wm
    clear OL
    have HO := Lib.hid ho
    have HE := Lib.hid he
    have HBM := Lib.hid hb
    have HBW := Lib.hid (HB1.out.trans (hb.mono HB1.out.size))
    have hc3 : css3.length ≤ 100 := by rw [he.1, List.length_map, List.length_take]; omega
    by_cases hlt : k < csl.length
    · obtain ⟨x, hx⟩ : ∃ x, l[k]? = some x := ⟨_, List.getElem?_eq_getElem (by rw [← HLL.out]; exact hlt)⟩
      have hkx := okC5_of (HLK.out x (List.mem_of_getElem? hx))
      have HTS := Lib.hid (show (l.take (k + 1)).map cut5 = (l.take k).map cut5 ++ [cut5 x] from by rw [List.take_add_one, hx, List.map_append]; rfl)
      obtain ⟨go, Au, cu, As, cs, rfl, -, hxu0, hxs0, p0, p1, p2⟩ := sc_parts HOL.out HEL.out hx
      obtain ⟨⟨x1, x2⟩, xn⟩ := x
      obtain ⟨⟨sx1, sx2⟩, bx1, bx2, nx⟩ := hkx
      have hxu : fldF.P wm w.heap.size (.slice Au x1.length cu) x1 := fldF.below hxu0 hb
      have hxs : fldF.P wm w.heap.size (.slice As x2.length cs) x2 := fldF.below hxs0 hb
      have hxs1 : LL wm w.heap.size (.slice As x2.length cs) (x2.map up) := hxs.1
      have p0 : w1.cell? ⟨go, k * 3, none⟩ = some (.slice Au x1.length cu) := p0
      have p1 : w1.cell? ⟨go, k * 3 + 1, none⟩ = some (.slice As x2.length cs) := p1
      have p2 : w1.cell? ⟨go, k * 3 + 2, none⟩ = some (.int .i64 (xn : Nat)) := p2
      have q1 := keepCell hb p1
      have QQ := Lib.hid (fun W (h : Below w1.heap.size w1 W) => show W.cell? ⟨go, k * 3, none⟩ = some (.slice Au x1.length cu) ∧ W.cell? ⟨go, k * 3 + 2, none⟩ = some (.int .i64 (xn : Nat)) from ⟨keepCell h p0, keepCell h p2⟩)
      have bx2 : ∀ b ∈ x2, b.length ≤ 50 ∧ ∀ l ∈ b, l ≤ 1000 := bx2
      have HXF := Lib.hid (show x1.length ≤ 1000000 ∧ ndN x1 ≤ 1000000 from hxu.2)
      have HOW := Lib.hid (fun W (h : Below wm.heap.size wm W) => s_l01Own2T W _ x1 ((show LL wm w.heap.size _ (x1.map up) from hxu.1).rows.below h) (by have h2 : x1.length ≤ 19 := sx1.1; omega) (fun b hb => by have := (bx1 b hb).1; omega))
      have hkk : (k : Int) < (csl.length : Int) := by omega
      obtain ⟨W1, hW1⟩ : ∃ W, W = wm.alloc (.cells #[] tI) := ⟨_, rfl⟩
      have hbw1 : Below wm.heap.size wm W1 := by rw [hW1]; exact below1 wm _
      have HBW1 := Lib.hid hbw1
      have HEM := Lib.hid (show OwnInts W1 wm.heap.size tI (.slice (some ⟨wm.heap.size, 0, none⟩) 0 0) (up []) from by rw [hW1]; exact ⟨own_lit wm tI [] (by simp [maxLen]), fun z hz => by simp [up] at hz⟩)
      have z1 : W1.cell? ⟨go, k * 3 + 1, none⟩ = some (.slice As x2.length cs) := keepCell hbw1 q1
      have HSR := Lib.hid (hxs1.rows.below hbw1)
      have HB2K := Lib.hid bx2
      clear p0 p1 p2 q1 hxu hxs hxs1 hxu0 hxs0 bx1 bx2 sx1 sx2 hx ho he hb hbw1
      go_upto_region 6 with fail
      rw [← hW1]
      clear hW1
      go_upto_if 23 with fail
      go_cut [6] from 10 to 47 (fun tv wx => ∃ At ct, tv = .slice At (x2.headD []).length ct ∧ OwnInts wx wm.heap.size tI (.slice At (x2.headD []).length ct) (up (x2.headD [])) ∧ Below W1.heap.size W1 wx)
      case first =>
        cases x2 with
        | nil =>
          have hd : decide ((0 : Int) < 0) = false := rfl
          go_wp2_with fail
          go_meet
          exact ⟨_, _, rfl, HEM.out, Below.refl _ _⟩
        | cons t1 tr =>
          obtain ⟨A', c', he, -, -, h3⟩ := rowsAt HSR.out
          simp only [Value.slice.injEq, true_and] at he
          obtain ⟨rfl, rfl⟩ := he
          obtain ⟨adt, q, A7, c7, rfl, hq, hqi, hqc⟩ := h3 0 (by simp)
          simp at hq
          subst hq
          have hqc : W1.cell? adt = some (.slice A7 t1.length c7) := by simpa [Addr.add] using hqc
          have HQI := Lib.hid hqi
          have ht1 : t1.length ≤ 50 := (HB2K.out t1 (by simp)).1
          have hlp : 0 < (t1 :: tr).length := by simp
          have hli : (0 : Int) < ((t1 :: tr).length : Int) := by omega
          have hd : decide ((0 : Int) < ((t1 :: tr).length : Int)) = true := decide_eq_true hli
          generalize (t1 :: tr).length = n2 at *
          clear h3 hqi
          go_wp2_with (go_at_call 150; go_loud (refine (s_l01OwnT _ _ (up t1) HQI.out (by rw [up_len]; omega)).mono ?_; rintro e w3 ⟨x3, rfl, ho3, hb3⟩; obtain ⟨A3, c3, rfl, -, -, -⟩ := ho3.ints.open_; rw [up_len] at ho3; rw [up_len]; have HO3 := Lib.hid ho3; have HB3 := Lib.hid hb3; clear ho3 hb3))
          go_meet
          exact ⟨_, _, rfl, HO3.out.mono HBW1.out.size, HB3.out⟩
      case rest =>
        obtain ⟨At, ct, rfl, hot, hbt⟩ := hcut
        have HTT := Lib.hid hot
        have HBT := Lib.hid (HBW1.out.trans (hbt.mono HBW1.out.size))
        obtain ⟨tt, htt⟩ : ∃ tt, tt = x2.headD [] := ⟨_, rfl⟩
        have HTE := Lib.hid (show cut5 ((x1, x2), xn) = ((x1, tt), xn) from by rw [htt]; rfl)
        rw [← htt] at HTT ⊢
        obtain ⟨Ao, co, rfl, -, -⟩ := HO.out.open_
        clear hot hbt htt
        go_upto_region 8 with fail
        refine AnyT.begin (k := 15) (S := fun b w' => (w'.cell? ⟨go, k * 3, none⟩ = some (.slice Au x1.length cu) ∧ w'.cell? ⟨go, k * 3 + 2, none⟩ = some (.int .i64 (xn : Nat))) ∧ True) (by kernel_rfl) ?_
        have hS : (fun (b : Bool) (w' : World) => (w'.cell? ⟨go, k * 3, none⟩ = some (.slice Au x1.length cu) ∧ w'.cell? ⟨go, k * 3 + 2, none⟩ = some (.int .i64 (xn : Nat))) ∧ True) false wc.drew := ⟨QQ.out _ ((HBM.out.trans (HBT.out.mono HBM.out.size)).drew), trivial⟩
        refine AnyT.take0 (i := 0) (v := ?_) rfl (by kernel_rfl) (by kernel_rfl) (by kernel_rfl) (by decide) (fun _ _ _ h => h) hS (Or.inl ⟨by first | kernel_rfl | rfl, ?_⟩) ?_
        rotate_left
        · intro w' hw'; clear hw'; go_simp; try with_reducible rfl
        try simp only [Act.put, List.setIfInBounds_toArray, List.set_cons_zero, List.set_cons_succ]
        refine AnyT.take0 (i := 1) (v := ?_) rfl (by kernel_rfl) (by kernel_rfl) (by kernel_rfl) (by decide) (fun _ _ _ h => h) hS (Or.inl ⟨by first | kernel_rfl | rfl, ?_⟩) ?_
        rotate_left
        · intro w' hw'; clear hw'; go_simp; try with_reducible rfl
        try simp only [Act.put, List.setIfInBounds_toArray, List.set_cons_zero, List.set_cons_succ]
        refine AnyT.take0 (i := 2) (v := ?_) rfl (by kernel_rfl) (by kernel_rfl) (by kernel_rfl) (by decide) (fun _ _ _ h => h) hS (Or.inl ⟨by first | kernel_rfl | rfl, ?_⟩) ?_
        rotate_left
        · intro w' hw'; clear hw'; go_simp; try with_reducible rfl
        try simp only [Act.put, List.setIfInBounds_toArray, List.set_cons_zero, List.set_cons_succ]
        refine AnyT.take0 (i := 3) (v := ?_) rfl (by kernel_rfl) (by kernel_rfl) (by kernel_rfl) (by decide) (fun _ _ _ h => h) hS (Or.inl ⟨by first | kernel_rfl | rfl, ?_⟩) ?_
        rotate_left
        · intro w' hw'; clear hw'; go_simp; try with_reducible rfl
        try simp only [Act.put, List.setIfInBounds_toArray, List.set_cons_zero, List.set_cons_succ]
        refine AnyT.take0 (i := 4) (v := ?_) rfl (by kernel_rfl) (by kernel_rfl) (by kernel_rfl) (by decide) (fun _ _ _ h => h) hS (Or.inl ⟨by first | kernel_rfl | rfl, ?_⟩) ?_
        rotate_left
        · intro w' hw'; clear hw'; go_simp; try with_reducible rfl
        try simp only [Act.put, List.setIfInBounds_toArray, List.set_cons_zero, List.set_cons_succ]
        refine AnyT.take0 (i := 5) (v := ?_) rfl (by kernel_rfl) (by kernel_rfl) (by kernel_rfl) (by decide) (fun _ _ _ h => h) hS (Or.inl ⟨by first | kernel_rfl | rfl, ?_⟩) ?_
        rotate_left
        · rintro w' ⟨b, hw'⟩; obtain ⟨hw1, -⟩ := hw'; (try (obtain ⟨hw1, hw2⟩ := hw1)); (try (obtain ⟨hw2, hw3⟩ := hw2)); (try (obtain ⟨hw3, hw4⟩ := hw3)); go_simp; try with_reducible rfl
        try simp only [Act.put, List.setIfInBounds_toArray, List.set_cons_zero, List.set_cons_succ]
        refine AnyT.take0 (i := 7) (v := ?_) rfl (by kernel_rfl) (by kernel_rfl) (by kernel_rfl) (by decide) (fun _ _ _ h => h) hS (Or.inl ⟨by first | kernel_rfl | rfl, ?_⟩) ?_
        rotate_left
        · intro w' hw'; clear hw'; go_simp; try with_reducible rfl
        try simp only [Act.put, List.setIfInBounds_toArray, List.set_cons_zero, List.set_cons_succ]
        refine AnyT.take0 (i := 8) (v := ?_) rfl (by kernel_rfl) (by kernel_rfl) (by kernel_rfl) (by decide) (fun _ _ _ h => h) hS (Or.inl ⟨by first | kernel_rfl | rfl, ?_⟩) ?_
        rotate_left
        · intro w' hw'; clear hw'; go_simp; try with_reducible rfl
        try simp only [Act.put, List.setIfInBounds_toArray, List.set_cons_zero, List.set_cons_succ]
        refine AnyT.take0 (i := 9) (v := ?_) rfl (by kernel_rfl) (by kernel_rfl) (by kernel_rfl) (by decide) (fun _ _ _ h => h) hS (Or.inl ⟨by first | kernel_rfl | rfl, ?_⟩) ?_
        rotate_left
        · intro w' hw'; clear hw'; go_simp; try with_reducible rfl
        try simp only [Act.put, List.setIfInBounds_toArray, List.set_cons_zero, List.set_cons_succ]
        refine AnyT.take0 (i := 10) (v := ?_) rfl (by kernel_rfl) (by kernel_rfl) (by kernel_rfl) (by decide) (fun _ _ _ h => h) hS (Or.inl ⟨by first | kernel_rfl | rfl, ?_⟩) ?_
        rotate_left
        · intro w' hw'; clear hw'; go_simp; try with_reducible rfl
        try simp only [Act.put, List.setIfInBounds_toArray, List.set_cons_zero, List.set_cons_succ]
        refine AnyT.take0 (i := 11) (v := ?_) rfl (by kernel_rfl) (by kernel_rfl) (by kernel_rfl) (by decide) (fun _ _ _ h => h) hS (Or.inl ⟨by first | kernel_rfl | rfl, ?_⟩) ?_
        rotate_left
        · intro w' hw'; clear hw'; go_simp; try with_reducible rfl
        try simp only [Act.put, List.setIfInBounds_toArray, List.set_cons_zero, List.set_cons_succ]
        refine AnyT.take0 (i := 12) (v := ?_) rfl (by kernel_rfl) (by kernel_rfl) (by kernel_rfl) (by decide) (fun _ _ _ h => h) hS (Or.inl ⟨by first | kernel_rfl | rfl, ?_⟩) ?_
        rotate_left
        · rintro w' ⟨b, hw'⟩; obtain ⟨hw1, -⟩ := hw'; (try (obtain ⟨hw1, hw2⟩ := hw1)); (try (obtain ⟨hw2, hw3⟩ := hw2)); (try (obtain ⟨hw3, hw4⟩ := hw3)); go_simp; try with_reducible rfl
        try simp only [Act.put, List.setIfInBounds_toArray, List.set_cons_zero, List.set_cons_succ]
        refine AnyT.go (rs := [6]) (by kernel_rfl) (by simp) ?_
        refine AllT.cons rfl (fun K hK => ?_) AllT.nil
        go_simp
        refine (HOW.out wc.drew HBT.out.drew).mono ?_
        rintro e w5 ⟨u5, rfl, ho5, hb5'⟩
        obtain ⟨A5, c5, he5, -, -, -⟩ := ho5.rows.open_
        rw [List.length_map] at he5
        subst he5
        have hb5 : Below wc.heap.size wc w5 := by exact below_of_drew hb5'
        have HU5 := Lib.hid (show LL w5 wc.heap.size (.slice A5 x1.length c5) (x1.map up) from ho5)
        have HB5 := Lib.hid (HBT.out.trans (hb5.mono HBT.out.size))
        have HB5C := Lib.hid hb5
        refine hK.out _ _ ⟨QQ.out _ (HBM.out.trans (HB5.out.mono HBM.out.size)), trivial⟩ (fun hS => ?_)
        clear hK ho5 hb5' hb5
        try simp only [Act.put, List.setIfInBounds_toArray, List.set_cons_zero, List.set_cons_succ]
        refine AnyT.take0 (i := 13) (v := ?_) rfl (by kernel_rfl) (by kernel_rfl) (by kernel_rfl) (by decide) (fun _ _ _ h => h) hS (Or.inl ⟨by first | kernel_rfl | rfl, ?_⟩) ?_
        rotate_left
        · intro w' hw'; clear hw'; go_simp; try with_reducible rfl
        try simp only [Act.put, List.setIfInBounds_toArray, List.set_cons_zero, List.set_cons_succ]
        refine AnyT.go (rs := [14]) (by kernel_rfl) (by simp) ?_
        refine AllT.cons rfl (fun K hK => ?_) AllT.nil
        go_simp
        have hb6 : Below wm.heap.size wm (w5.alloc (.cells #[.slice A5 x1.length c5, .slice At tt.length ct, .int .i64 (xn : Nat)] tCu)) := HB5.out.trans ((below1 w5 _).mono HB5.out.size)
        have HB6 := Lib.hid hb6
        refine hK.out _ _ ⟨QQ.out _ (HBM.out.trans (hb6.mono HBM.out.size)), trivial⟩ (fun hS => ?_)
        clear hK hb6
        try simp only [Act.put, List.setIfInBounds_toArray, List.set_cons_zero, List.set_cons_succ]
        refine AnyT.go (rs := [15]) (by kernel_rfl) (by simp) ?_
        refine AllT.cons rfl (fun K hK => ?_) AllT.nil
        have HOX := Lib.hid (HO.out.below HB6.out)
        refine step_app1K T_cut (ad := ⟨w5.heap.size, 0, none⟩) (W := w5.alloc (.cells #[.slice A5 x1.length c5, .slice At tt.length ct, .int .i64 (xn : Nat)] tCu)) (c := [.slice A5 x1.length c5, .slice At tt.length ct, .int .i64 (xn : Nat)]) HOX.out (by omega) (Nat.le_trans HBM.out.size HB6.out.size) rfl (by intro u hu; simp at hu; rcases hu with rfl | rfl | rfl <;> rfl) (lit_cells _ _ _ _ rfl) (by rfl) rfl (by rfl) (by rfl) ?_
        intro v7 w7 hown7 hgr7
        have HN7 := Lib.hid hown7
        have HG7 := Lib.hid hgr7
        have HB7 := Lib.hid (hgr7.below (HBM.out.trans (HB6.out.mono HBM.out.size)) (Nat.le_trans HBM.out.size HB6.out.size) HO.out.ge)
        refine hK.out _ _ ⟨QQ.out _ HB7.out, trivial⟩ (fun hS => ?_)
        clear hK hown7 hgr7
        try simp only [Act.put, List.setIfInBounds_toArray, List.set_cons_zero, List.set_cons_succ]
        refine AnyT.take0 (i := 16) (v := ?_) rfl (by kernel_rfl) (by kernel_rfl) (by kernel_rfl) (by decide) (fun _ _ _ h => h) hS (Or.inl ⟨by first | kernel_rfl | rfl, ?_⟩) ?_
        rotate_left
        · intro w' hw'; clear hw'; go_simp; try with_reducible rfl
        try simp only [Act.put, List.setIfInBounds_toArray, List.set_cons_zero, List.set_cons_succ]
        clear hS
        refine AnyT.done (by kernel_rfl) ?_ _
        go_wp2_with fail
        go_roundw
        case rel =>
          refine ⟨k + 1, _, by omega, by go_num, HN7.out, ?_, HB7.out⟩
          rw [HTS.out, HTE.out]
          exact ((HE.out.below HB6.out).snoc (x := ((x1, tt), xn)) ⟨_, _, rfl, ⟨(HU5.out.mono (Nat.le_trans HBW.out.size HBT.out.size)).below (below1 w5 _), HXF.out⟩, (((HTT.out.below HB5C.out).mono HBW.out.size).below (below1 w5 _))⟩).kept HG7.out.1 HOX.out.bt (by decide) (by decide)
        case measure => simp [intOf]; omega
    · have hil : l.take k = l := List.take_of_length_le (by rw [← HLL.out]; omega)
      rw [hil] at HE
      clear hil
      go_wp2_with fail
      go_ret
      exact ⟨_, rfl, ⟨css3, HO.out.mono HB1.out.size, HE.out⟩, HBW.out⟩
end Go.Proofs.YtngdpoeondnchaaGreat

