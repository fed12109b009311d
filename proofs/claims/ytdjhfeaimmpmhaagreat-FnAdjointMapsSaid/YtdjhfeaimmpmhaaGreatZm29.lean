/- Walk: l05Times of the reference. -/
import Derived.Test.YtdjhfeaimmpmhaaGreatZm27
import Derived.Test.YtdjhfeaimmpmhaaGreatZm28
import Derived.Test.YtdjhfeaimmpmhaaGreatZm11
set_option maxRecDepth 100000
set_option linter.unusedVariables false
set_option linter.unusedSimpArgs false
namespace Go.Proofs.YtdjhfeaimmpmhaaGreat
open Go.RowKit

theorem ndN_le50 {f : List (List Nat)} (h : ∀ b ∈ f, b.length ≤ 50) : ndN f ≤ f.length * 50 := by
  induction f with
  | nil => simp [ndN]
  | cons x xs ih =>
    have h1 := h x (by simp)
    have h2 := ih fun b hb => h b (by simp [hb])
    simp only [ndN, List.length_cons]
    omega
theorem fldF_srt {w : World} {B : Nat} {u : Value} {f : List (List Nat)} (h : LA w B u ((srtB f).map up)) (hl : f.length ≤ 100) (hb : ∀ b ∈ f, b.length ≤ 50) : fldF.P w B u (srtB f) := by
  have hp := srtB_perm f
  have h1 : (srtB f).length ≤ 100 := by rw [hp.length_eq]; exact hl
  have h2 := ndN_le50 (f := srtB f) fun b hb' => hb b (hp.mem_iff.1 hb')
  exact ⟨h.ll, by omega, by omega⟩
set_option maxHeartbeats 32000000 in
theorem s_l05Times (w : World) (va vb : Value) (a b : List SC) (B : Nat) (hB : B ≤ w.heap.size) (ha : SLs eSc tSp w B va a) (hb : SLs eSc tSp w B vb b) (oka : okL5 a = true) (okb : okL5 b = true) :
    Calls Tryz.prog 237 #[va, vb] w fun e w' => ∃ x, e = .returned x ∧ SLs eSc tSp w' w.heap.size x (times5 a b) ∧ Below w.heap.size w w' := by
  obtain ⟨csa, hoa, hea⟩ := ha
  obtain ⟨csb, hob, heb⟩ := hb
  obtain ⟨Aa, ca, rfl, -, -⟩ := hoa.open_
  obtain ⟨Ab, cb, rfl, -, -⟩ := hob.open_
  have HOA := Lib.hid hoa
  have HEA := Lib.hid hea
  have HOB := Lib.hid hob
  have HEB := Lib.hid heb
  have HLA := Lib.hid hea.1
  have HLB := Lib.hid heb.1
  obtain ⟨la, ka⟩ := okL5_of oka
  obtain ⟨lb, kb⟩ := okL5_of okb
  have hla : csa.length ≤ 100 := by rw [hea.1]; exact la
  have hlb : csb.length ≤ 100 := by rw [heb.1]; exact lb
  have HKA := Lib.hid ka
  have HKB := Lib.hid kb
  have HBT := Lib.hid (fun i (hi : i ≤ a.length) => times5_bd (b := b) (L := 100) (fun y hy => (okC5_of (kb y hy)).2.2.2) i (a.take i) (K := 100) (fun x hx => (okC5_of (ka x (List.mem_of_mem_take hx))).2.2.2) (by rw [List.length_take]; omega))
  have HRB := Lib.hid (fun i (hi : i ≤ a.length) (x : SC) (hx : x ∈ a) k => row5_bd (x := x) (out := times5 (a.take i) b) (K := 100) (L := 100) ((times5_bd (b := b) (L := 100) (fun y hy => (okC5_of (kb y hy)).2.2.2) i (a.take i) (K := 100) (fun x hx => (okC5_of (ka x (List.mem_of_mem_take hx))).2.2.2) (by rw [List.length_take]; omega))) (okC5_of (ka x hx)).2.2.2 (b.take k) (fun y hy => (okC5_of (kb y (List.mem_of_mem_take hy))).2.2.2))
  have hlbb : b.length ≤ 100 := lb
  have hlaa : a.length ≤ 100 := la
  have OL := Lib.hid (show SLs eSc tSp (w.alloc (.cells #[] tSp)) w.heap.size (.slice (some ⟨w.heap.size, 0, none⟩) 0 0) [] from ⟨[], OwnK.lit w tSp 3 [] (fun c hc => by simp at hc) (by simp [maxLen]) #[] rfl, Elts.nil _ _ _⟩)
  clear hoa hea hob heb la lb ka kb oka okb
  go_enter Tryz.func237, Tryz.ntmps237
  go_wp2_with fail
  go_loopw [5, 6] (fun o i wr => ∃ k : Nat, k ≤ csa.length ∧ i = .int .i64 k ∧ SLs eSc tSp wr w.heap.size o (times5 (a.take k) b) ∧ Below w.heap.size w wr) (fun _ i _ => csa.length - (intOf i).toNat)
  case atStart => exact ⟨0, Nat.zero_le _, rfl, OL.out, below1 _ _⟩
  case round =>
    obtain ⟨i, hi, rfl, ho, hb⟩ := hrel
    rename World => wq
    clear OL
    have HO := Lib.hid ho
    have HBQ := Lib.hid hb
    clear ho hb
    by_cases hlt : i < csa.length
    · obtain ⟨x, hx⟩ : ∃ x, a[i]? = some x := ⟨_, List.getElem?_eq_getElem (by rw [← HLA.out]; exact hlt)⟩
      have HX := Lib.hid hx
      have HTA := Lib.hid (show times5 (a.take (i + 1)) b = row5 b x (times5 (a.take i) b) from by rw [List.take_add_one, hx]; exact times5_snoc _ _ _)
      have HRX := Lib.hid (fun k => HRB.out i (by rw [← HLA.out]; omega) x (List.mem_of_getElem? hx) k)
      have hkx := okC5_of (HKA.out x (List.mem_of_getElem? hx))
      have HKX := Lib.hid hkx
      have hii : (i : Int) < (csa.length : Int) := by omega
      clear hx hkx
      obtain ⟨⟨x1, x2⟩, xn⟩ := x
      go_wp2_with fail
      go_loopw [5, 7] (fun o j wr => ∃ k : Nat, k ≤ csb.length ∧ j = .int .i64 k ∧ SLs eSc tSp wr w.heap.size o (row5 (b.take k) ((x1, x2), xn) (times5 (a.take i) b)) ∧ Below w.heap.size w wr) (fun _ j _ => csb.length - (intOf j).toNat)
      case atStart => exact ⟨0, Nat.zero_le _, rfl, by simpa [row5] using HO.out, HBQ.out⟩
      case round =>
        obtain ⟨j, hj, rfl, ho, hb⟩ := hrel
        rename World => wc
        clear HO
        have HO := Lib.hid ho
        have HBC := Lib.hid hb
        by_cases hlj : j < csb.length
        · obtain ⟨y, hy⟩ : ∃ y, b[j]? = some y := ⟨_, List.getElem?_eq_getElem (by rw [← HLB.out]; exact hlj)⟩
          have hky := okC5_of (HKB.out y (List.mem_of_getElem? hy))
          have HTB := Lib.hid (show row5 (b.take (j + 1)) ((x1, x2), xn) (times5 (a.take i) b) = put5 (row5 (b.take j) ((x1, x2), xn) (times5 (a.take i) b)) (tim5 ((x1, x2), xn) y) from by rw [List.take_add_one, hy]; exact row5_snoc _ _ _ _)
          have hbd := HRX.out j
          have hbj : (b.take j).length ≤ 100 := Nat.le_trans (List.length_take_le _ _) (by omega)
          generalize row5 (b.take j) ((x1, x2), xn) (times5 (a.take i) b) = R at *
          obtain ⟨go, Au, cu, As, cs, rfl, -, hxu, hxs, q0, q1, q2⟩ := sc_parts (HOA.out.below hb) (HEA.out.below hb) HX.out
          obtain ⟨go2, Au2, cu2, As2, cs2, rfl, -, hyu, hys, r0, r1, r2⟩ := sc_parts (HOB.out.below hb) (HEB.out.below hb) hy
          obtain ⟨⟨y1, y2⟩, yn⟩ := y
          obtain ⟨⟨sx1, sx2⟩, bx1, bx2, nx⟩ := HKX.out
          obtain ⟨⟨sy1, sy2⟩, by1, by2, ny⟩ := hky
          have hxu : fldF.P wc B (.slice Au x1.length cu) x1 := hxu
          have hxs : fldF.P wc B (.slice As x2.length cs) x2 := hxs
          have hyu : fldF.P wc B (.slice Au2 y1.length cu2) y1 := hyu
          have hys : fldF.P wc B (.slice As2 y2.length cs2) y2 := hys
          have q0 : wc.cell? ⟨go, i * 3, none⟩ = some (.slice Au x1.length cu) := q0
          have q1 : wc.cell? ⟨go, i * 3 + 1, none⟩ = some (.slice As x2.length cs) := q1
          have q2 : wc.cell? ⟨go, i * 3 + 2, none⟩ = some (.int .i64 (xn : Nat)) := q2
          have r0 : wc.cell? ⟨go2, j * 3, none⟩ = some (.slice Au2 y1.length cu2) := r0
          have r1 : wc.cell? ⟨go2, j * 3 + 1, none⟩ = some (.slice As2 y2.length cs2) := r1
          have r2 : wc.cell? ⟨go2, j * 3 + 2, none⟩ = some (.int .i64 (yn : Nat)) := r2
          have nx : xn ≤ 100 := nx
          have ny : yn ≤ 100 := ny
          have sx1 : x1.length ≤ 19 := sx1.1
          have sx2 : x2.length ≤ 19 := sx2.1
          have sy1 : y1.length ≤ 19 := sy1.1
          have sy2 : y2.length ≤ 19 := sy2.1
          have HT1 := Lib.hid (fun W (h : Below wc.heap.size wc W) => s_l03Times W _ _ x1 y1 ((show LL wc B _ (x1.map up) from hxu.1).rows.below h) ((show LL wc B _ (y1.map up) from hyu.1).rows.below h) (by omega) (by omega) (fun b hb => by have := (bx1 b hb).1; omega) (fun b hb => by have := (by1 b hb).1; omega))
          have HT2 := Lib.hid (fun W (h : Below wc.heap.size wc W) => s_l03Times W _ _ x2 y2 ((show LL wc B _ (x2.map up) from hxs.1).rows.below h) ((show LL wc B _ (y2.map up) from hys.1).rows.below h) (by omega) (by omega) (fun b hb => by have := (bx2 b hb).1; omega) (fun b hb => by have := (by2 b hb).1; omega))
          have HF1 := Lib.hid (fun W B0 u (h : LA W B0 u ((srtB (x1 ++ y1)).map up)) => fldF_srt h (by rw [List.length_append]; omega) (fun b hb => by rcases List.mem_append.1 hb with h | h; exact (bx1 b h).1; exact (by1 b h).1))
          have HF2 := Lib.hid (fun W B0 u (h : LA W B0 u ((srtB (x2 ++ y2)).map up)) => fldF_srt h (by rw [List.length_append]; omega) (fun b hb => by rcases List.mem_append.1 hb with h | h; exact (bx2 b h).1; exact (by2 b h).1))
          have hmul : (0 : Int) ≤ (xn : Int) * (yn : Int) ∧ (xn : Int) * (yn : Int) ≤ 10000 := by
            have h := mul_bd 100 100 (show (0 : Int) ≤ (xn : Int) by omega) (show (xn : Int) ≤ 100 by omega) (show (0 : Int) ≤ (yn : Int) by omega) (show (yn : Int) ≤ 100 by omega)
            omega
          have hws : IntKind.i64.wrap ((xn : Int) * (yn : Int)) = (xn : Int) * (yn : Int) := IntWalk.i64_in _ (by omega)
          have hmn : xn * yn ≤ 10000 := Nat.mul_le_mul nx ny
          have hjj : (j : Int) < (csb.length : Int) := by omega
          have Q := Lib.hid (show wc.cell? ⟨go, i * 3, none⟩ = some (.slice Au x1.length cu) ∧ wc.cell? ⟨go, i * 3 + 1, none⟩ = some (.slice As x2.length cs) ∧ wc.cell? ⟨go, i * 3 + 2, none⟩ = some (.int .i64 (xn : Nat)) ∧ wc.cell? ⟨go2, j * 3, none⟩ = some (.slice Au2 y1.length cu2) ∧ wc.cell? ⟨go2, j * 3 + 1, none⟩ = some (.slice As2 y2.length cs2) ∧ wc.cell? ⟨go2, j * 3 + 2, none⟩ = some (.int .i64 (yn : Nat)) from ⟨q0, q1, q2, r0, r1, r2⟩)
          have QQ := Lib.hid (fun W (h : Below wc.heap.size wc W) => show W.cell? ⟨go, i * 3, none⟩ = some (.slice Au x1.length cu) ∧ W.cell? ⟨go, i * 3 + 1, none⟩ = some (.slice As x2.length cs) ∧ W.cell? ⟨go, i * 3 + 2, none⟩ = some (.int .i64 (xn : Nat)) ∧ W.cell? ⟨go2, j * 3, none⟩ = some (.slice Au2 y1.length cu2) ∧ W.cell? ⟨go2, j * 3 + 1, none⟩ = some (.slice As2 y2.length cs2) ∧ W.cell? ⟨go2, j * 3 + 2, none⟩ = some (.int .i64 (yn : Nat)) from ⟨keepCell h Q.out.1, keepCell h Q.out.2.1, keepCell h Q.out.2.2.1, keepCell h Q.out.2.2.2.1, keepCell h Q.out.2.2.2.2.1, keepCell h Q.out.2.2.2.2.2⟩)
          obtain ⟨csr, hor, her⟩ := HO.out
          obtain ⟨Ar, cr, rfl, -, -⟩ := hor.open_
          have HOR := Lib.hid hor
          have HER := Lib.hid her
          have HBD := Lib.hid hbd
          have hrl : R.length ≤ 20000 := by
            have := hbd.1
            have h2 : i * b.length ≤ 100 * 100 := Nat.mul_le_mul (by omega) (by omega)
            omega
          have HRM := Lib.hid (show ∀ z ∈ R, z.2 ≤ 200000000 from fun z hz => by
            have h1 := hbd.2 z hz
            have h2 : i * (b.length * (100 * 100)) ≤ 100 * (100 * (100 * 100)) := Nat.mul_le_mul (by omega) (Nat.mul_le_mul (by omega) (Nat.le_refl _))
            have h3 : (b.take j).length * (100 * 100) ≤ 100 * (100 * 100) := Nat.mul_le_mul hbj (Nat.le_refl _)
            omega)
          clear q0 q1 q2 r0 r1 r2 hxu hxs hyu hys hor her hbd ho hb hy bx1 bx2 by1 by2 hbj
          go_upto_region 8 with fail
          refine AnyT.begin (k := 35) (S := fun b w' => (w'.cell? ⟨go, i * 3, none⟩ = some (.slice Au x1.length cu) ∧ w'.cell? ⟨go, i * 3 + 1, none⟩ = some (.slice As x2.length cs) ∧ w'.cell? ⟨go, i * 3 + 2, none⟩ = some (.int .i64 (xn : Nat)) ∧ w'.cell? ⟨go2, j * 3, none⟩ = some (.slice Au2 y1.length cu2) ∧ w'.cell? ⟨go2, j * 3 + 1, none⟩ = some (.slice As2 y2.length cs2) ∧ w'.cell? ⟨go2, j * 3 + 2, none⟩ = some (.int .i64 (yn : Nat))) ∧ True) (by kernel_rfl) ?_
          have hS : (fun (b : Bool) (w' : World) => (w'.cell? ⟨go, i * 3, none⟩ = some (.slice Au x1.length cu) ∧ w'.cell? ⟨go, i * 3 + 1, none⟩ = some (.slice As x2.length cs) ∧ w'.cell? ⟨go, i * 3 + 2, none⟩ = some (.int .i64 (xn : Nat)) ∧ w'.cell? ⟨go2, j * 3, none⟩ = some (.slice Au2 y1.length cu2) ∧ w'.cell? ⟨go2, j * 3 + 1, none⟩ = some (.slice As2 y2.length cs2) ∧ w'.cell? ⟨go2, j * 3 + 2, none⟩ = some (.int .i64 (yn : Nat))) ∧ True) false wc.drew := ⟨Q.out, trivial⟩
          refine AnyT.take0 (i := 0) (v := ?_) rfl (by kernel_rfl) (by kernel_rfl) (by kernel_rfl) (by decide) (fun _ _ _ h => h) hS (Or.inl ⟨by first | kernel_rfl | rfl, ?_⟩) ?_
          rotate_left
          · intro w' hw'; clear hw'; go_simp; try with_reducible rfl
          try simp only [Act.put, List.setIfInBounds_toArray, List.set_cons_zero, List.set_cons_succ]
          refine AnyT.take0 (i := 1) (v := ?_) rfl (by kernel_rfl) (by kernel_rfl) (by kernel_rfl) (by decide) (fun _ _ _ h => h) hS (Or.inl ⟨by first | kernel_rfl | rfl, ?_⟩) ?_
          rotate_left
          · intro w' hw'; clear hw'; go_simp; try with_reducible rfl
          try simp only [Act.put, List.setIfInBounds_toArray, List.set_cons_zero, List.set_cons_succ]
          refine AnyT.take0 (i := 2) (v := ?_) rfl (by kernel_rfl) (by kernel_rfl) (by kernel_rfl) (by decide) (fun _ _ _ h => h) hS (Or.inl ⟨by first | kernel_rfl | rfl, ?_⟩) ?_
          rotate_left
          · intro w' hw'; clear hw'; go_simp; try with_reducible rfl
          try simp only [Act.put, List.setIfInBounds_toArray, List.set_cons_zero, List.set_cons_succ]
          refine AnyT.take0 (i := 3) (v := ?_) rfl (by kernel_rfl) (by kernel_rfl) (by kernel_rfl) (by decide) (fun _ _ _ h => h) hS (Or.inl ⟨by first | kernel_rfl | rfl, ?_⟩) ?_
          rotate_left
          · intro w' hw'; clear hw'; go_simp; try with_reducible rfl
          try simp only [Act.put, List.setIfInBounds_toArray, List.set_cons_zero, List.set_cons_succ]
          refine AnyT.take0 (i := 4) (v := ?_) rfl (by kernel_rfl) (by kernel_rfl) (by kernel_rfl) (by decide) (fun _ _ _ h => h) hS (Or.inl ⟨by first | kernel_rfl | rfl, ?_⟩) ?_
          rotate_left
          · intro w' hw'; clear hw'; go_simp; try with_reducible rfl
          try simp only [Act.put, List.setIfInBounds_toArray, List.set_cons_zero, List.set_cons_succ]
          refine AnyT.take0 (i := 5) (v := ?_) rfl (by kernel_rfl) (by kernel_rfl) (by kernel_rfl) (by decide) (fun _ _ _ h => h) hS (Or.inl ⟨by first | kernel_rfl | rfl, ?_⟩) ?_
          rotate_left
          · rintro w' ⟨b, hw'⟩; obtain ⟨hw1, -⟩ := hw'; (try (obtain ⟨hw1, hw2⟩ := hw1)); (try (obtain ⟨hw2, hw3⟩ := hw2)); (try (obtain ⟨hw3, hw4⟩ := hw3)); go_simp; try with_reducible rfl
          try simp only [Act.put, List.setIfInBounds_toArray, List.set_cons_zero, List.set_cons_succ]
          refine AnyT.take0 (i := 6) (v := ?_) rfl (by kernel_rfl) (by kernel_rfl) (by kernel_rfl) (by decide) (fun _ _ _ h => h) hS (Or.inl ⟨by first | kernel_rfl | rfl, ?_⟩) ?_
          rotate_left
          · intro w' hw'; clear hw'; go_simp; try with_reducible rfl
          try simp only [Act.put, List.setIfInBounds_toArray, List.set_cons_zero, List.set_cons_succ]
          refine AnyT.take0 (i := 7) (v := ?_) rfl (by kernel_rfl) (by kernel_rfl) (by kernel_rfl) (by decide) (fun _ _ _ h => h) hS (Or.inl ⟨by first | kernel_rfl | rfl, ?_⟩) ?_
          rotate_left
          · intro w' hw'; clear hw'; go_simp; try with_reducible rfl
          try simp only [Act.put, List.setIfInBounds_toArray, List.set_cons_zero, List.set_cons_succ]
          refine AnyT.take0 (i := 8) (v := ?_) rfl (by kernel_rfl) (by kernel_rfl) (by kernel_rfl) (by decide) (fun _ _ _ h => h) hS (Or.inl ⟨by first | kernel_rfl | rfl, ?_⟩) ?_
          rotate_left
          · intro w' hw'; clear hw'; go_simp; try with_reducible rfl
          try simp only [Act.put, List.setIfInBounds_toArray, List.set_cons_zero, List.set_cons_succ]
          refine AnyT.take0 (i := 9) (v := ?_) rfl (by kernel_rfl) (by kernel_rfl) (by kernel_rfl) (by decide) (fun _ _ _ h => h) hS (Or.inl ⟨by first | kernel_rfl | rfl, ?_⟩) ?_
          rotate_left
          · intro w' hw'; clear hw'; go_simp; try with_reducible rfl
          try simp only [Act.put, List.setIfInBounds_toArray, List.set_cons_zero, List.set_cons_succ]
          refine AnyT.take0 (i := 10) (v := ?_) rfl (by kernel_rfl) (by kernel_rfl) (by kernel_rfl) (by decide) (fun _ _ _ h => h) hS (Or.inl ⟨by first | kernel_rfl | rfl, ?_⟩) ?_
          rotate_left
          · rintro w' ⟨b, hw'⟩; obtain ⟨hw1, -⟩ := hw'; (try (obtain ⟨hw1, hw2⟩ := hw1)); (try (obtain ⟨hw2, hw3⟩ := hw2)); (try (obtain ⟨hw3, hw4⟩ := hw3)); go_simp; try with_reducible rfl
          try simp only [Act.put, List.setIfInBounds_toArray, List.set_cons_zero, List.set_cons_succ]
          refine AnyT.take0 (i := 12) (v := ?_) rfl (by kernel_rfl) (by kernel_rfl) (by kernel_rfl) (by decide) (fun _ _ _ h => h) hS (Or.inl ⟨by first | kernel_rfl | rfl, ?_⟩) ?_
          rotate_left
          · intro w' hw'; clear hw'; go_simp; try with_reducible rfl
          try simp only [Act.put, List.setIfInBounds_toArray, List.set_cons_zero, List.set_cons_succ]
          refine AnyT.take0 (i := 13) (v := ?_) rfl (by kernel_rfl) (by kernel_rfl) (by kernel_rfl) (by decide) (fun _ _ _ h => h) hS (Or.inl ⟨by first | kernel_rfl | rfl, ?_⟩) ?_
          rotate_left
          · intro w' hw'; clear hw'; go_simp; try with_reducible rfl
          try simp only [Act.put, List.setIfInBounds_toArray, List.set_cons_zero, List.set_cons_succ]
          refine AnyT.take0 (i := 14) (v := ?_) rfl (by kernel_rfl) (by kernel_rfl) (by kernel_rfl) (by decide) (fun _ _ _ h => h) hS (Or.inl ⟨by first | kernel_rfl | rfl, ?_⟩) ?_
          rotate_left
          · intro w' hw'; clear hw'; go_simp; try with_reducible rfl
          try simp only [Act.put, List.setIfInBounds_toArray, List.set_cons_zero, List.set_cons_succ]
          refine AnyT.take0 (i := 15) (v := ?_) rfl (by kernel_rfl) (by kernel_rfl) (by kernel_rfl) (by decide) (fun _ _ _ h => h) hS (Or.inl ⟨by first | kernel_rfl | rfl, ?_⟩) ?_
          rotate_left
          · intro w' hw'; clear hw'; go_simp; try with_reducible rfl
          try simp only [Act.put, List.setIfInBounds_toArray, List.set_cons_zero, List.set_cons_succ]
          refine AnyT.take0 (i := 16) (v := ?_) rfl (by kernel_rfl) (by kernel_rfl) (by kernel_rfl) (by decide) (fun _ _ _ h => h) hS (Or.inl ⟨by first | kernel_rfl | rfl, ?_⟩) ?_
          rotate_left
          · rintro w' ⟨b, hw'⟩; obtain ⟨hw1, -⟩ := hw'; (try (obtain ⟨hw1, hw2⟩ := hw1)); (try (obtain ⟨hw2, hw3⟩ := hw2)); (try (obtain ⟨hw3, hw4⟩ := hw3)); go_simp; try with_reducible rfl
          try simp only [Act.put, List.setIfInBounds_toArray, List.set_cons_zero, List.set_cons_succ]
          refine AnyT.take0 (i := 17) (v := ?_) rfl (by kernel_rfl) (by kernel_rfl) (by kernel_rfl) (by decide) (fun _ _ _ h => h) hS (Or.inl ⟨by first | kernel_rfl | rfl, ?_⟩) ?_
          rotate_left
          · intro w' hw'; clear hw'; go_simp; try with_reducible rfl
          try simp only [Act.put, List.setIfInBounds_toArray, List.set_cons_zero, List.set_cons_succ]
          refine AnyT.take0 (i := 18) (v := ?_) rfl (by kernel_rfl) (by kernel_rfl) (by kernel_rfl) (by decide) (fun _ _ _ h => h) hS (Or.inl ⟨by first | kernel_rfl | rfl, ?_⟩) ?_
          rotate_left
          · intro w' hw'; clear hw'; go_simp; try with_reducible rfl
          try simp only [Act.put, List.setIfInBounds_toArray, List.set_cons_zero, List.set_cons_succ]
          refine AnyT.take0 (i := 19) (v := ?_) rfl (by kernel_rfl) (by kernel_rfl) (by kernel_rfl) (by decide) (fun _ _ _ h => h) hS (Or.inl ⟨by first | kernel_rfl | rfl, ?_⟩) ?_
          rotate_left
          · intro w' hw'; clear hw'; go_simp; try with_reducible rfl
          try simp only [Act.put, List.setIfInBounds_toArray, List.set_cons_zero, List.set_cons_succ]
          refine AnyT.take0 (i := 20) (v := ?_) rfl (by kernel_rfl) (by kernel_rfl) (by kernel_rfl) (by decide) (fun _ _ _ h => h) hS (Or.inl ⟨by first | kernel_rfl | rfl, ?_⟩) ?_
          rotate_left
          · intro w' hw'; clear hw'; go_simp; try with_reducible rfl
          try simp only [Act.put, List.setIfInBounds_toArray, List.set_cons_zero, List.set_cons_succ]
          refine AnyT.take0 (i := 21) (v := ?_) rfl (by kernel_rfl) (by kernel_rfl) (by kernel_rfl) (by decide) (fun _ _ _ h => h) hS (Or.inl ⟨by first | kernel_rfl | rfl, ?_⟩) ?_
          rotate_left
          · rintro w' ⟨b, hw'⟩; obtain ⟨hw1, -⟩ := hw'; (try (obtain ⟨hw1, hw2⟩ := hw1)); (try (obtain ⟨hw2, hw3⟩ := hw2)); (try (obtain ⟨hw3, hw4⟩ := hw3)); go_simp; try with_reducible rfl
          try simp only [Act.put, List.setIfInBounds_toArray, List.set_cons_zero, List.set_cons_succ]
          refine AnyT.take0 (i := 23) (v := ?_) rfl (by kernel_rfl) (by kernel_rfl) (by kernel_rfl) (by decide) (fun _ _ _ h => h) hS (Or.inl ⟨by first | kernel_rfl | rfl, ?_⟩) ?_
          rotate_left
          · intro w' hw'; clear hw'; go_simp; try with_reducible rfl
          try simp only [Act.put, List.setIfInBounds_toArray, List.set_cons_zero, List.set_cons_succ]
          refine AnyT.take0 (i := 24) (v := ?_) rfl (by kernel_rfl) (by kernel_rfl) (by kernel_rfl) (by decide) (fun _ _ _ h => h) hS (Or.inl ⟨by first | kernel_rfl | rfl, ?_⟩) ?_
          rotate_left
          · intro w' hw'; clear hw'; go_simp; try with_reducible rfl
          try simp only [Act.put, List.setIfInBounds_toArray, List.set_cons_zero, List.set_cons_succ]
          refine AnyT.take0 (i := 25) (v := ?_) rfl (by kernel_rfl) (by kernel_rfl) (by kernel_rfl) (by decide) (fun _ _ _ h => h) hS (Or.inl ⟨by first | kernel_rfl | rfl, ?_⟩) ?_
          rotate_left
          · intro w' hw'; clear hw'; go_simp; try with_reducible rfl
          try simp only [Act.put, List.setIfInBounds_toArray, List.set_cons_zero, List.set_cons_succ]
          refine AnyT.take0 (i := 26) (v := ?_) rfl (by kernel_rfl) (by kernel_rfl) (by kernel_rfl) (by decide) (fun _ _ _ h => h) hS (Or.inl ⟨by first | kernel_rfl | rfl, ?_⟩) ?_
          rotate_left
          · intro w' hw'; clear hw'; go_simp; try with_reducible rfl
          try simp only [Act.put, List.setIfInBounds_toArray, List.set_cons_zero, List.set_cons_succ]
          refine AnyT.take0 (i := 27) (v := ?_) rfl (by kernel_rfl) (by kernel_rfl) (by kernel_rfl) (by decide) (fun _ _ _ h => h) hS (Or.inl ⟨by first | kernel_rfl | rfl, ?_⟩) ?_
          rotate_left
          · rintro w' ⟨b, hw'⟩; obtain ⟨hw1, -⟩ := hw'; (try (obtain ⟨hw1, hw2⟩ := hw1)); (try (obtain ⟨hw2, hw3⟩ := hw2)); (try (obtain ⟨hw3, hw4⟩ := hw3)); go_simp; try with_reducible rfl
          try simp only [Act.put, List.setIfInBounds_toArray, List.set_cons_zero, List.set_cons_succ]
          refine AnyT.take0 (i := 28) (v := ?_) rfl (by kernel_rfl) (by kernel_rfl) (by kernel_rfl) (by decide) (fun _ _ _ h => h) hS (Or.inl ⟨by first | kernel_rfl | rfl, ?_⟩) ?_
          rotate_left
          · intro w' hw'; clear hw'; go_simp; try with_reducible rfl
          try simp only [Act.put, List.setIfInBounds_toArray, List.set_cons_zero, List.set_cons_succ]
          refine AnyT.take0 (i := 29) (v := ?_) rfl (by kernel_rfl) (by kernel_rfl) (by kernel_rfl) (by decide) (fun _ _ _ h => h) hS (Or.inl ⟨by first | kernel_rfl | rfl, ?_⟩) ?_
          rotate_left
          · intro w' hw'; clear hw'; go_simp; try with_reducible rfl
          try simp only [Act.put, List.setIfInBounds_toArray, List.set_cons_zero, List.set_cons_succ]
          refine AnyT.take0 (i := 30) (v := ?_) rfl (by kernel_rfl) (by kernel_rfl) (by kernel_rfl) (by decide) (fun _ _ _ h => h) hS (Or.inl ⟨by first | kernel_rfl | rfl, ?_⟩) ?_
          rotate_left
          · intro w' hw'; clear hw'; go_simp; try with_reducible rfl
          try simp only [Act.put, List.setIfInBounds_toArray, List.set_cons_zero, List.set_cons_succ]
          refine AnyT.take0 (i := 31) (v := ?_) rfl (by kernel_rfl) (by kernel_rfl) (by kernel_rfl) (by decide) (fun _ _ _ h => h) hS (Or.inl ⟨by first | kernel_rfl | rfl, ?_⟩) ?_
          rotate_left
          · intro w' hw'; clear hw'; go_simp; try with_reducible rfl
          try simp only [Act.put, List.setIfInBounds_toArray, List.set_cons_zero, List.set_cons_succ]
          refine AnyT.take0 (i := 32) (v := ?_) rfl (by kernel_rfl) (by kernel_rfl) (by kernel_rfl) (by decide) (fun _ _ _ h => h) hS (Or.inl ⟨by first | kernel_rfl | rfl, ?_⟩) ?_
          rotate_left
          · rintro w' ⟨b, hw'⟩; obtain ⟨hw1, -⟩ := hw'; (try (obtain ⟨hw1, hw2⟩ := hw1)); (try (obtain ⟨hw2, hw3⟩ := hw2)); (try (obtain ⟨hw3, hw4⟩ := hw3)); go_simp; try with_reducible rfl
          try simp only [Act.put, List.setIfInBounds_toArray, List.set_cons_zero, List.set_cons_succ]
          refine AnyT.take0 (i := 33) (v := ?_) rfl (by kernel_rfl) (by kernel_rfl) (by kernel_rfl) (by decide) (fun _ _ _ h => h) hS (Or.inl ⟨by first | kernel_rfl | rfl, ?_⟩) ?_
          rotate_left
          · intro w' hw'; clear hw'; go_simp; try with_reducible rfl
          try simp only [Act.put, List.setIfInBounds_toArray, List.set_cons_zero, List.set_cons_succ]
          refine AnyT.go (rs := [11]) (by kernel_rfl) (by simp) ?_
          refine AllT.cons rfl (fun K hK => ?_) AllT.nil
          go_simp
          refine (HT1.out wc.drew (Below.refl wc.heap.size wc).drew).mono ?_
          rintro e w5 ⟨u5, rfl, ho5, hb5'⟩
          obtain ⟨A5, c5, he5, -, -, -⟩ := ho5.rows.open_
          obtain ⟨n5, hn5⟩ : ∃ n, n = ((srtB (x1 ++ y1)).map up).length := ⟨_, rfl⟩
          rw [← hn5] at he5
          subst he5
          clear hn5
          have hb5 : Below wc.heap.size wc w5 := by exact below_of_drew hb5'
          have HU5 := Lib.hid (show LA w5 wc.heap.size (.slice A5 n5 c5) ((srtB (x1 ++ y1)).map up) from ho5)
          have HB5 := Lib.hid hb5
          refine hK.out _ _ ⟨QQ.out _ hb5, trivial⟩ (fun hS => ?_)
          clear hK ho5 hb5' hb5
          try simp only [Act.put, List.setIfInBounds_toArray, List.set_cons_zero, List.set_cons_succ]
          refine AnyT.go (rs := [22]) (by kernel_rfl) (by simp) ?_
          refine AllT.cons rfl (fun K hK => ?_) AllT.nil
          go_simp
          refine (HT2.out w5 HB5.out).mono ?_
          rintro e w6 ⟨u6, rfl, ho6, hb6⟩
          obtain ⟨A6, c6, he6, -, -, -⟩ := ho6.rows.open_
          obtain ⟨n6, hn6⟩ : ∃ n, n = ((srtB (x2 ++ y2)).map up).length := ⟨_, rfl⟩
          rw [← hn6] at he6
          subst he6
          clear hn6
          have HU6 := Lib.hid (ho6.mono HB5.out.size)
          have HB6 := Lib.hid (HB5.out.trans (hb6.mono HB5.out.size))
          have HB56 := Lib.hid hb6
          refine hK.out _ _ ⟨QQ.out _ HB6.out, trivial⟩ (fun hS => ?_)
          clear hK ho6 hb6
          try simp only [Act.put, List.setIfInBounds_toArray, List.set_cons_zero, List.set_cons_succ]
          refine AnyT.take0 (i := 34) (v := ?_) rfl (by kernel_rfl) (by kernel_rfl) (by kernel_rfl) (by decide) (fun _ _ _ h => h) hS (Or.inl ⟨by first | kernel_rfl | rfl, ?_⟩) ?_
          rotate_left
          · intro w' hw'; clear hw'; go_simp; try with_reducible rfl
          try simp only [Act.put, List.setIfInBounds_toArray, List.set_cons_zero, List.set_cons_succ]
          refine AnyT.go (rs := [35]) (by kernel_rfl) (by simp) ?_
          refine AllT.cons rfl (fun K hK => ?_) AllT.nil
          go_simp
          have hc6 : eSc.D w6 w.heap.size [.slice A5 n5 c5, .slice A6 n6 c6, .int .i64 ((xn : Int) * (yn : Int))] (tim5 ((x1, x2), xn) ((y1, y2), yn)) := ⟨_, _, rfl, HF1.out _ _ _ ((HU5.out.below HB56.out).mono HBC.out.size), HF2.out _ _ _ (HU6.out.mono HBC.out.size)⟩
          refine (s_l05Put w6 (.slice Ar csr.length cr) [.slice A5 n5 c5, .slice A6 n6 c6, .int .i64 ((xn : Int) * (yn : Int))] R _ w.heap.size 200000000 (Nat.le_trans HBC.out.size HB6.out.size) ⟨csr, HOR.out.below HB6.out, HER.out.below HB6.out⟩ hc6 (by omega) HRM.out (by show 200000000 + xn * yn ≤ 1000000000; omega)).mono ?_
          rintro e w7 ⟨x7, rfl, ho7, hb7⟩
          have HO7 := Lib.hid ho7
          have HB7 := Lib.hid hb7
          refine hK.out _ _ ⟨QQ.out _ (HB6.out.trans (HB7.out.mono HB6.out.size)), trivial⟩ (fun hS => ?_)
          clear hK hc6 ho7 hb7
          try simp only [Act.put, List.setIfInBounds_toArray, List.set_cons_zero, List.set_cons_succ]
          refine AnyT.take0 (i := 36) (v := ?_) rfl (by kernel_rfl) (by kernel_rfl) (by kernel_rfl) (by decide) (fun _ _ _ h => h) hS (Or.inl ⟨by first | kernel_rfl | rfl, ?_⟩) ?_
          rotate_left
          · intro w' hw'; clear hw'; go_simp; try with_reducible rfl
          try simp only [Act.put, List.setIfInBounds_toArray, List.set_cons_zero, List.set_cons_succ]
          clear hS
          refine AnyT.done (by kernel_rfl) ?_ _
          go_wp2_with fail
          go_roundw
          case rel => exact ⟨j + 1, by omega, by go_num, by rw [HTB.out]; exact HO7.out, HBC.out.trans ((HB6.out.trans (HB7.out.mono HB6.out.size)).mono HBC.out.size)⟩
          case measure => simp [intOf]; omega
        · have hjl : b.take j = b := List.take_of_length_le (by rw [← HLB.out]; omega)
          rw [hjl, ← HTA.out] at ho
          have HOF := Lib.hid ho
          clear hjl ho hb
          go_wp2_with fail
          go_roundw
          case rel => exact ⟨i + 1, by omega, by go_num, HOF.out, HBC.out⟩
          case measure => simp [intOf]; omega
    · have hil : a.take i = a := List.take_of_length_le (by rw [← HLA.out]; omega)
      rw [hil] at HO
      clear hil
      go_wp2_with fail
      go_ret
      exact ⟨_, rfl, HO.out, HBQ.out⟩
end Go.Proofs.YtdjhfeaimmpmhaaGreat

