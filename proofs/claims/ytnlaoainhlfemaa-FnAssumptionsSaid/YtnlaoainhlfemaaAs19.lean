/- Walks: draws of nodes and of tableaus of nodes (l11DrawNodes, l11Draw of the reference). | Walks: l11Draw and DrawImpliedOrder of the reference. | Walk: stageWeights of tableaus. -/
import Derived.Test.YtnlaoainhlfemaaAs15
import Derived.Test.YtnlaoainhlfemaaAs18
import Derived.Test.YtnlaoainhlfemaaAs11
import Derived.Test.YtnlaoainhlfemaaAs10
import Derived.Test.YtnlaoainhlfemaaAs12
import Derived.Test.YtnlaoainhlfemaaAs5
set_option maxRecDepth 100000
set_option linter.unusedVariables false
set_option linter.unusedSimpArgs false
namespace Go.Proofs.Ytnlaoainhlfemaa
open Go.RowKit

theorem lit_drawn {w0 W : World} {B p : Nat} (hg : w0.grownBy W (some p)) (hs : Src W B tSc p) (zs : List Int) (hn : Nums zs) (hl : zs.length ≤ 10) :
    OwnInts (W.alloc (.cells (ints zs).toArray tI)) w0.heap.size tI (.slice (some ⟨W.heap.size, 0, none⟩) zs.length zs.length) zs ∧ w0.grownBy (W.alloc (.cells (ints zs).toArray tI)) (some p) ∧ Src (W.alloc (.cells (ints zs).toArray tI)) B tSc p := by
  have h := own_lit W tI (ints zs) (by rw [ints_len]; simp [maxLen]; omega)
  rw [ints_len] at h
  exact ⟨⟨h.mono hg.size, nums_in hn⟩, gtrans hg (gof (below1 W _)), hs.below (below1 W _)⟩
theorem nums_two {a b : Int} (ha : 0 ≤ a ∧ a ≤ 10006) (hb : 0 ≤ b ∧ b ≤ 10006) : Nums [a, b] := by
  intro z hz
  simp only [List.mem_cons, List.not_mem_nil, or_false] at hz
  rcases hz with rfl | rfl
  · exact ha
  · exact hb
theorem nums_three {a b c : Int} (ha : 0 ≤ a ∧ a ≤ 10006) (hb : 0 ≤ b ∧ b ≤ 10006) (hc : 0 ≤ c ∧ c ≤ 10006) : Nums [a, b, c] := by
  intro z hz
  simp only [List.mem_cons, List.not_mem_nil, or_false] at hz
  rcases hz with rfl | rfl | rfl
  · exact ha
  · exact hb
  · exact hc
theorem nums_append {a b : List Int} (ha : Nums a) (hb : Nums b) : Nums (a ++ b) := fun z hz => by
  rcases List.mem_append.1 hz with h | h
  · exact ha z h
  · exact hb z h
theorem rows0D {w : World} {a b : Value} {A : List (List Int)} {Bs : List Int} (h : TabArg w (.agg #[a, b]) A Bs) : Rows w a A := by
  obtain ⟨va, vb, he, h1, h2⟩ := h
  have : a = va ∧ b = vb := by simpa using he
  obtain ⟨rfl, rfl⟩ := this
  exact h1
theorem run_fieldA (A : Option Addr) (n c : Nat) (b : Value) (W : World) : Sem.run Try.prog (Instr.field tTb (.agg #[.slice A n c, b]) 0) W = .ok (.slice A n c) W := by
  have h := Try.underlying27
  have h2 := Try.underlying24
  simp [Instr.field, Go.part, go_sem, h, h2, isAgg, underlying, asAgg]
/-- what a draw of nodes hands on -/
def DrN (w w' : World) (B p : Nat) (x : Value) : Prop := ∃ zs, OwnInts w' w.heap.size tI x zs ∧ Nums zs ∧ (1 ≤ zs.length ∧ zs.length ≤ 5) ∧ w.grownBy w' (some p) ∧ Src w' B tSc p
set_option maxHeartbeats 8000000 in
theorem s_l11DrawList (w w1 : World) (B p : Nat) (hg1 : w.grownBy w1 (some p)) (hs1 : Src w1 B tSc p) :
    Calls Try.prog 88 #[at0 p, .int .i64 4] w1 fun e w2 => ∃ m : Nat, m ≤ 3 ∧ e = .returned (.int .i64 m) ∧ Calls Try.prog 139 #[at0 p, .int .i64 (1 + (m : Int))] w2 fun e w3 => ∃ x, e = .returned x ∧ DrN w w3 B p x := by
  refine (s_l01Next w1 B p 4 hs1 (by omega) (by omega)).mono ?_
  rintro e w2 ⟨x, rfl, x0, x1, hg, hs⟩
  obtain ⟨m, rfl⟩ : ∃ m : Nat, x = m := ⟨x.toNat, by omega⟩
  refine ⟨m, by omega, rfl, ?_⟩
  have h := s_l01List w2 B p (1 + m) hs (by omega)
  rw [show ((1 + m : Nat) : Int) = 1 + (m : Int) by omega] at h
  refine h.mono ?_
  rintro e w3 ⟨x3, rfl, zs, ho, hl, hn, hg3, hs3⟩
  exact ⟨_, rfl, zs, ho.mono (gtrans hg1 hg).size, hn, by omega, gtrans (gtrans hg1 hg) hg3, hs3⟩
set_option maxHeartbeats 16000000 in
theorem s_l11DrawNodes (w : World) (B p : Nat) (h : Src w B tSc p) :
    Calls Try.prog 106 #[at0 p] w fun e w' => ∃ x, e = .returned x ∧ DrN w w' B p x := by
  have hpl := h.lt
  have HN := Lib.hid (s_l01Next w B p 8 h (by omega) (by omega))
  clear h
  go_enter Try.func106, Try.ntmps106
  go_upto_region 2 with (go_at_call 88; go_loud (refine HN.out.mono ?_; rintro e w1 ⟨x, rfl, x0, x1, hg, hs⟩; have HG1 := Lib.hid hg; have HS1 := Lib.hid hs; clear hg hs x0 x1))
  clear HN
  by_cases hx0 : x = 0
  · have hd0 : (x == 0) = true := by simp [hx0]
    clear hx0
    go_wp2_with (first
      | (go_at_call 138; go_loud (refine (s_l09NamedG2 _ _ (by decide +kernel)).mono ?_; rintro e w2 ⟨v, rfl, hd2, hb2⟩; obtain ⟨A, Bs, hot, hsq, hnl⟩ := hd2; obtain ⟨Aa, ca, Ab, cb, hve⟩ := hot.open_; subst hve; have hr2 := rows0D hot.arg; rw [hsq.1] at hr2 ⊢; have hfa := run_fieldA Aa 2 ca (.slice Ab Bs.length cb); have HR2 := Lib.hid hr2; have HSQ := Lib.hid hsq; have HB2 := Lib.hid hb2; clear hot hr2 hsq hnl hb2))
      | (go_at_call 155; go_loud (refine (s_l09Ones _ 2 (by omega)).mono ?_; rintro e w3 ⟨x3, rfl, ho3, hb3⟩; have HO3 := Lib.hid ho3.ints; have HR3 := Lib.hid (HR2.out.below hb3); have HB3 := Lib.hid (HB2.out.trans (hb3.mono HB2.out.size)); clear ho3 hb3))
      | (go_at_call 154; go_loud (refine (s_l09TimesOnes _ _ _ A 2 HR3.out HO3.out (fun zs hz => ⟨(HSQ.out.2 zs hz).2, by rw [(HSQ.out.2 zs hz).1]; exact Nat.le_refl _⟩) (by rw [HSQ.out.1]; omega) (by omega)).mono ?_; rintro e w4 ⟨x4, rfl, ho4, hb4⟩; have HO4 := Lib.hid ho4; have HB4 := Lib.hid (HB3.out.trans (hb4.mono HB3.out.size)); have HB43 := Lib.hid HB3.out.size; clear ho4 hb4)))
    go_ret
    exact ⟨_, rfl, _, HO4.out.mono (Nat.le_trans HG1.out.size HB43.out), nodesOf_nums _, by rw [nodesOf_len, HSQ.out.1]; omega, gtrans HG1.out (gof HB4.out), HS1.out.below HB4.out⟩
  · have hd0 : (x == 0) = false := by simp [hx0]
    by_cases hx1 : x = 1
    · have hd1 : (x == 1) = true := by simp [hx1]
      clear hx0 hx1
      go_upto_region 6 with (first
        | (go_at_call 156; (with_reducible refine (s_l01Number w1 B p HS1.out).mono ?_); go_loud (rintro e w2 ⟨c, rfl, hc, hg, hs⟩; have HC := Lib.hid hc; have HG2 := Lib.hid (gtrans HG1.out hg); have HS2 := Lib.hid hs; clear hc hg hs))
        | (go_at_call 156; (with_reducible refine (s_l01Number w2 B p HS2.out).mono ?_); go_loud (rintro e w3 ⟨d, rfl, hd, hg, hs⟩; have HD := Lib.hid hd; have HG3 := Lib.hid (gtrans HG2.out hg); have HS3 := Lib.hid hs; clear hd hg hs)))
      have hcb := HC.out
      have hdb := HD.out
      have HSC := Lib.hid (fun X => s_l01Sub 1 c X (by omega) (by omega) (by omega) (by omega))
      have HSD := Lib.hid (fun X => s_l01Sub 1 d X (by omega) (by omega) (by omega) (by omega))
      have hcm := nume_bd (1 - c)
      have hdm := nume_bd (1 - d)
      generalize (1 - c) % 10007 = c1 at *
      generalize (1 - d) % 10007 = d1 at *
      go_upto_region 7 with (first
        | (go_at_call 157; go_loud (refine (s_l01FracZ _ 1 2 (by omega) (by omega) (by omega) (by omega)).mono ?_; rintro e w4 ⟨z, rfl, hz, rfl⟩; have HZ := Lib.hid hz; clear hz))
        | (go_at_call 141; refine (HSC.out _).mono ?_; rintro e w4 ⟨rfl, rfl⟩))
      have hN3 := nums_three hcb HZ.out hcm
      obtain ⟨W4, hW4⟩ : ∃ W4, W4 = w3.alloc (.cells #[.int .i64 c, .int .i64 z, .int .i64 c1] tI) := ⟨_, rfl⟩
      obtain ⟨ho4, hg4, hs4⟩ := lit_drawn HG3.out HS3.out [c, z, c1] hN3 (by simp)
      rw [show w3.alloc (.cells (ints [c, z, c1]).toArray tI) = W4 from hW4.symm] at ho4 hg4 hs4
      have HO4 := Lib.hid (show OwnInts W4 w.heap.size tI (.slice (some ⟨w3.heap.size, 0, none⟩) 3 3) [c, z, c1] from ho4)
      have HG4 := Lib.hid hg4
      have HS4 := Lib.hid hs4
      have HN3 := Lib.hid hN3
      rw [← hW4]
      clear hW4 ho4 hg4 hs4 hN3
      go_upto_if 29 with (go_at_call 88; go_loud (refine (s_l01Next _ B p 2 HS4.out (by omega) (by omega)).mono ?_; rintro e w5 ⟨y, rfl, y0, y1, hg, hs⟩; have HG5 := Lib.hid (gtrans HG4.out hg); have HS5 := Lib.hid hs; have HO5 := Lib.hid (show OwnInts w5 w.heap.size tI (.slice (some ⟨w3.heap.size, 0, none⟩) 3 3) [c, z, c1] from ⟨HO4.out.1.src hpl hg, HO4.out.2⟩); clear hg hs y0 y1))
      generalize (y == 0) = cc at *
      clear HO4
      cases cc with
      | true =>
        have hN2 := nums_two hdb hdm
        have HN2 := Lib.hid hN2
        have hl2 := own_lit w5 tI (ints [d, d1]) (by simp [maxLen, ints])
        have HY := Lib.hid (show Cells (w5.alloc (.cells #[.int .i64 d, .int .i64 d1] tI)) (.slice (some ⟨w5.heap.size, 0, none⟩) 2 2) (ints [d, d1]) from hl2.cells)
        have HO6 := Lib.hid (show Own (w5.alloc (.cells #[.int .i64 d, .int .i64 d1] tI)) w.heap.size tI (.slice (some ⟨w3.heap.size, 0, none⟩) 3 3) (ints [c, z, c1]) from (HO5.out.below (below1 w5 _)).1)
        have HG6 := Lib.hid (gtrans HG5.out (gof (below1 w5 (.cells #[.int .i64 d, .int .i64 d1] tI))))
        have HS6 := Lib.hid (HS5.out.below (below1 w5 (.cells #[.int .i64 d, .int .i64 d1] tI)))
        clear hl2 hN2
        go_wp2_with (first
          | (go_at_call 141; refine (HSD.out _).mono ?_; rintro e w4 ⟨rfl, rfl⟩)
          | (at_builtin; go_loud (refine wpList_appN T_int HO6.out HY.out (by simp [ints]) HG6.out.size (fun u hu => by simp only [ints, List.mem_map] at hu; obtain ⟨z, -, rfl⟩ := hu; rfl) (by rfl) rfl (by rfl) (by rfl) ?_; intro v3 w7 hown3 hgr3; have HN7 := Lib.hid hown3; have HR7 := Lib.hid hgr3; clear hown3 hgr3)))
        go_ret
        refine ⟨_, rfl, [c, z, c1] ++ [d, d1], ⟨by rw [show ints ([c, z, c1] ++ [d, d1]) = ints [c, z, c1] ++ ints [d, d1] from by simp [ints]]; exact HN7.out, nums_in (nums_append HN3.out HN2.out)⟩, nums_append HN3.out HN2.out, by simp, gthen HG6.out HR7.out.1 HO6.out.ge, HS6.out.kept HR7.out.1 (fun e => by have := HO6.out.ge _ e; omega) (fun b hb => ?_)⟩
        exact Nat.le_trans (Nat.le_trans HS6.out.ge (Nat.le_of_lt hpl)) (HO6.out.ge b hb)
      | false =>
        go_wp2_with fail
        go_ret
        exact ⟨_, rfl, _, HO5.out, HN3.out, by simp, HG5.out, HS5.out⟩
    · have hd1 : (x == 1) = false := by simp [hx1]
      by_cases hx2 : x = 2
      · have hd2 : (x == 2) = true := by simp [hx2]
        clear hx0 hx1 hx2
        go_upto_region 12 with (go_at_call 156; go_loud (refine (s_l01Number w1 B p HS1.out).mono ?_; rintro e w2 ⟨c, rfl, hc, hg, hs⟩; have HC := Lib.hid hc; have HG2 := Lib.hid (gtrans HG1.out hg); have HS2 := Lib.hid hs; clear hc hg hs))
        have hcb := HC.out
        go_upto_region 13 with (first
          | (go_at_call 157; go_loud (refine (s_l01FracZ _ 1 2 (by omega) (by omega) (by omega) (by omega)).mono ?_; rintro e w4 ⟨z, rfl, hz, rfl⟩; obtain ⟨z0, z1⟩ := hz; have HSC := Lib.hid (fun X => s_l01Sub c z X (by omega) (by omega) (by omega) (by omega)); have hbm := nume_bd (c - z); generalize (c - z) % 10007 = bl at *))
          | (go_at_call 141; refine (HSC.out _).mono ?_; rintro e w4 ⟨rfl, rfl⟩))
        have HL := Lib.hid (s_l11DrawList w w2 B p HG2.out HS2.out)
        by_cases hbz : bl = 0
        · have hbb : (bl != 0) = false := by simp [hbz]
          clear hbz
          go_wp2_with (first
            | (go_at_call 88; go_loud (refine HL.out.mono ?_; rintro e w4 ⟨m, hm, rfl, hcl⟩; have HCL := Lib.hid hcl; have hwm : wrap64 (1 + (m : Int)) = 1 + (m : Int) := w64_dr _ (by omega); clear hcl))
            | (go_at_call 139; go_loud (refine HCL.out.mono ?_; rintro e w5 ⟨x5, rfl, hd⟩; have HD5 := Lib.hid hd; clear hd)))
          go_ret
          exact ⟨_, rfl, HD5.out⟩
        · have hbb : (bl != 0) = true := by simp [hbz]
          have HIV := Lib.hid (fun X => s_l01Inv bl X (by omega) (by omega))
          have hiv := pw_bd bl 10005
          generalize pw bl 10005 = iv at *
          clear hbz HL
          go_wp2_with (first
            | (go_at_call 157; (with_reducible refine (s_l01FracZ _ 1 2 (by omega) (by omega) (by omega) (by omega)).mono ?_); go_loud (rintro e w4 ⟨y, rfl, hy, rfl⟩; obtain ⟨y0, y1⟩ := hy; have HMU := Lib.hid (fun X => s_l01Mul c y X (by omega) (by omega) (by omega) (by omega)); have hmb := nume_bd (c * y); generalize c * y % 10007 = m1 at *))
            | (go_at_call 147; (with_reducible refine (HMU.out _).mono ?_); rintro e w4 ⟨rfl, rfl⟩)
            | (go_at_call 157; (with_reducible refine (s_l01FracZ _ 1 3 (by omega) (by omega) (by omega) (by omega)).mono ?_); go_loud (rintro e w4 ⟨u, rfl, hu, rfl⟩; obtain ⟨u0, u1⟩ := hu; have HSU := Lib.hid (fun X => s_l01Sub m1 u X (by omega) (by omega) (by omega) (by omega)); have hsb := nume_bd (m1 - u); generalize (m1 - u) % 10007 = s1 at *; have HMV := Lib.hid (fun X => s_l01Mul s1 iv X (by omega) (by omega) (by omega) (by omega)); have hmv := nume_bd (s1 * iv); generalize s1 * iv % 10007 = m2 at *))
            | (go_at_call 141; (with_reducible refine (HSU.out _).mono ?_); rintro e w4 ⟨rfl, rfl⟩)
            | (go_at_call 158; refine (HIV.out _).mono ?_; rintro e w4 ⟨rfl, rfl⟩)
            | (go_at_call 147; (with_reducible refine (HMV.out _).mono ?_); rintro e w4 ⟨rfl, rfl⟩))
          go_ret
          obtain ⟨ho4, hg4, hs4⟩ := lit_drawn HG2.out HS2.out [c, m2] (nums_two hcb hmv) (by simp)
          exact ⟨_, rfl, [c, m2], ho4, nums_two hcb hmv, by simp, hg4, hs4⟩
      · have hd2 : (x == 2) = false := by simp [hx2]
        by_cases hx3 : x = 3
        · have hd3 : (x == 3) = true := by simp [hx3]
          clear hx0 hx1 hx2 hx3
          go_wp2_with (go_at_call 157; go_loud (refine (s_l01FracZ _ 1 2 (by omega) (by omega) (by omega) (by omega)).mono ?_; rintro e w4 ⟨z, rfl, hz, rfl⟩; have HZ := Lib.hid hz; clear hz))
          go_ret
          have hN3 := nums_three (a := 0) (c := 1) (by omega) HZ.out (by omega)
          obtain ⟨ho4, hg4, hs4⟩ := lit_drawn HG1.out HS1.out [0, z, 1] hN3 (by simp)
          exact ⟨_, rfl, [0, z, 1], ho4, hN3, by simp, hg4, hs4⟩
        · have hd3 : (x == 3) = false := by simp [hx3]
          have HL := Lib.hid (s_l11DrawList w w1 B p HG1.out HS1.out)
          clear hx0 hx1 hx2 hx3
          go_wp2_with (first
            | (go_at_call 88; go_loud (refine HL.out.mono ?_; rintro e w4 ⟨m, hm, rfl, hcl⟩; have HCL := Lib.hid hcl; have hwm : wrap64 (1 + (m : Int)) = 1 + (m : Int) := w64_dr _ (by omega); clear hcl))
            | (go_at_call 139; go_loud (refine HCL.out.mono ?_; rintro e w5 ⟨x5, rfl, hd⟩; have HD5 := Lib.hid hd; clear hd)))
          go_ret
          exact ⟨_, rfl, HD5.out⟩
end Go.Proofs.Ytnlaoainhlfemaa

set_option maxRecDepth 100000
set_option linter.unusedVariables false
set_option linter.unusedSimpArgs false
namespace Go.Proofs.Ytnlaoainhlfemaa
open Go.RowKit

theorem stab_fin {w0 w : World} {p B : Nat} {va vb : Value} {A : List (List Int)} {Bs : List Int} (h1 : Stab w (w0.heap.size + 1) (.agg #[va, vb]) A Bs) (hg : w0.grownBy w (some p)) (hs : Src w B tSc p) (hp : p < w0.heap.size) :
    (∃ A Bs, Stab ((w.setCell ⟨w0.heap.size, 0, none⟩ va).setCell ⟨w0.heap.size, 1, none⟩ vb) w0.heap.size (.agg #[va, vb]) A Bs) ∧ w0.grownBy ((w.setCell ⟨w0.heap.size, 0, none⟩ va).setCell ⟨w0.heap.size, 1, none⟩ vb) (some p) ∧ Src ((w.setCell ⟨w0.heap.size, 0, none⟩ va).setCell ⟨w0.heap.size, 1, none⟩ vb) B tSc p := by
  have c2 := ((Chg.refl 0 (w0.heap.size + 1) w).setCell (p := ⟨w0.heap.size, 0, none⟩) (Nat.zero_le _) (by simp) va).setCell (p := ⟨w0.heap.size, 1, none⟩) (Nat.zero_le _) (by simp) vb
  have g1 := gthen hg (gset w w0.heap.size 0 va) (by rintro b ⟨⟩; omega)
  have g2 := gthen g1 (gset _ w0.heap.size 1 vb) (by rintro b ⟨⟩; omega)
  have s1 := hs.kept (gset w w0.heap.size 0 va) (by intro e; injection e with e; omega) (by rintro b ⟨⟩; have := hs.ge; omega)
  have s2 := s1.kept (gset _ w0.heap.size 1 vb) (by intro e; injection e with e; omega) (by rintro b ⟨⟩; have := hs.ge; omega)
  exact ⟨⟨A, Bs, (h1.step c2).mono (Nat.le_succ _)⟩, g2, s2⟩
theorem ot_stab {w : World} {C : Nat} {v : Value} {A : List (List Int)} {Bs : List Int} (h : OT w C w.heap.size v A Bs) : Stab w C v A Bs := fun W hW => (h.kept hW (.inr (Nat.le_refl _))).arg
set_option maxHeartbeats 8000000 in
theorem s_l11Draw (w : World) (B p : Nat) (h : Src w B tSc p) :
    Calls Try.prog 60 #[at0 p] w fun e w' => ∃ v, e = .returned v ∧ (∃ A Bs, Stab w' w.heap.size v A Bs) ∧ w.grownBy w' (some p) ∧ Src w' B tSc p := by
  have hpl := h.lt
  obtain ⟨W, hW⟩ : ∃ W, W = w.alloc (.cells #[.slice none 0 0, .slice none 0 0] tTb) := ⟨_, rfl⟩
  have HSW := Lib.hid (show W.heap.size = w.heap.size + 1 from by rw [hW]; simp)
  have HG0 := Lib.hid (show w.grownBy W (some p) from by rw [hW]; exact gof (below1 w _))
  have HK0 := Lib.hid (show Blk W w.heap.size tTb #[.slice none 0 0, .slice none 0 0] from by rw [hW]; exact Blk.new _ _ _)
  have HN := Lib.hid (s_l11DrawNodes W B p (by rw [hW]; exact h.below (below1 w _)))
  clear h
  go_enter Try.func60, Try.ntmps60
  go_upto_region 1 with fail
  rw [← hW]
  clear hW
  go_upto_region 2 with (go_at_call 106; go_loud (refine HN.out.mono ?_; rintro e w1 ⟨x1, rfl, zs, ho, hn, hl, hg, hs⟩; have hz := ho.ints; obtain ⟨Az, cz, rfl, -, -, -⟩ := hz.open_; have HO1 := Lib.hid ho; have HZ := Lib.hid hz; have HNZ := Lib.hid hn; have HLZ := Lib.hid hl; have HG1 := Lib.hid (gtrans HG0.out hg); have HS1 := Lib.hid hs; have HK1 := Lib.hid (HK0.out.srcD hg (by omega)); have HSZ1 := Lib.hid (show w.heap.size + 1 ≤ w1.heap.size from by rw [← HSW.out]; exact hg.size); clear ho hn hl hg hs hz))
  have HCN := Lib.hid (s_l11Nodes w1 _ zs HZ.out)
  have HSP := Lib.hid (fun X (hg : w1.grownBy X (some p)) (hs : Src X B tSc p) => s_l09Spoil X B p 4 hs (by omega) (by omega))
  have HFIN := Lib.hid (fun (X w5 : World) (va vb : Value) (A : List (List Int)) (Bs : List Int) (hg1 : w1.grownBy X (some p)) (hg2 : X.grownBy w5 (some p)) (hst : Stab w5 X.heap.size (.agg #[va, vb]) A Bs) (hs : Src w5 B tSc p) => stab_fin (w0 := w) (hst.mono (Nat.le_trans HSZ1.out hg1.size)) (gtrans HG1.out (gtrans hg1 hg2)) hs hpl)
  have HKF := Lib.hid (fun (X : World) (hg1 : w1.grownBy X (some p)) => (HK1.out.srcD hg1 (by omega) : Blk X w.heap.size tTb #[.slice none 0 0, .slice none 0 0]))
  by_cases hnc : nodesC zs = 0
  · rw [hnc] at HCN
    clear hnc
    go_upto_if 13 with (first
      | (go_at_call 107; go_loud (refine HCN.out.mono ?_; rintro e w2 ⟨rfl, n2, rfl⟩; have HS2 := Lib.hid (show Src (w1.drewN n2) B tSc p from HS1.out.below (below_drewN (Below.refl _ _) _)); have HG2 := Lib.hid (show w1.grownBy (w1.drewN n2) (some p) from gof (below_drewN (Below.refl _ _) _))))
      | (go_at_call 88; go_loud (refine (s_l01Next _ B p 3 HS2.out (by omega) (by omega)).mono ?_; rintro e w3 ⟨y, rfl, y0, y1, hg, hs⟩; have HG3 := Lib.hid (gtrans HG2.out hg); have HS3 := Lib.hid hs; clear hg hs y0 y1)))
    generalize (y == 0) = cc at *
    cases cc with
    | true =>
      have HI3 := Lib.hid ((show OwnInts w3 W.heap.size tI (.slice Az zs.length cz) zs from ⟨HO1.out.1.kept HG3.out (by
        cases hb : (Value.slice Az zs.length cz).ownBlock with
        | none => exact .inl rfl
        | some b => exact .inr fun e => by injection e with e; have := HO1.out.1.ge b hb; have := HSW.out; omega), HO1.out.2⟩).ints)
      go_wp2_with (go_at_call 108; go_loud (refine (s_l11Collocation w3 _ zs HI3.out HNZ.out (by have := HLZ.out; omega)).mono ?_; rintro e w5 ⟨r, rfl, hot, hb⟩; obtain ⟨Aa, ca, Ab, cb, rfl⟩ := hot.open_; have HST := Lib.hid (ot_stab hot); have HG5 := Lib.hid (show w3.grownBy w5 (some p) from gof hb); have HS5 := Lib.hid (HS3.out.below hb); have HK5 := Lib.hid (HKF.out w5 (gtrans HG3.out HG5.out)); have f0 : w5.cell? ⟨w.heap.size, 0, none⟩ = some (.slice none 0 0) := HK5.out.cell 0; have f1 : w5.cell? ⟨w.heap.size, 1, none⟩ = some (.slice none 0 0) := HK5.out.cell 1; have f2 := HK5.out.frozen 0; have f3 := HK5.out.frozen 1; clear hot hb))
      have hf := HFIN.out w3 w5 _ _ _ _ HG3.out HG5.out HST.out HS5.out
      have HBLK := Lib.hid (show Blk ((w5.setCell ⟨w.heap.size, 0, none⟩ (.slice Aa (colA zs zs.length).length ca)).setCell ⟨w.heap.size, 1, none⟩ (.slice Ab (colB zs zs.length).length cb)) w.heap.size tTb #[.slice Aa (colA zs zs.length).length ca, .slice Ab (colB zs zs.length).length cb] from by have h := (HK5.out.set_ 0 (.slice Aa (colA zs zs.length).length ca)).set_ 1 (.slice Ab (colB zs zs.length).length cb); simpa using h)
      have g0 := HBLK.out.cell 0
      have g1 := HBLK.out.cell 1
      simp only [List.getElem?_toArray, List.getElem?_cons_zero, List.getElem?_cons_succ] at g0 g1
      exact bodyPost_ret (v := .agg #[.slice Aa (colA zs zs.length).length ca, .slice Ab (colB zs zs.length).length cb]) (by simp [results, Try.results60, go_sem, g0, g1]) rfl ⟨_, rfl, hf.1, hf.2.1, hf.2.2⟩
    | false =>
      go_wp2_with (go_at_call 48; go_loud (refine (HSP.out w3 HG3.out HS3.out).mono ?_; rintro e w5 ⟨v, rfl, ⟨X, Bs, hst⟩, hg, hs⟩; obtain ⟨Aa, ca, Ab, cb, rfl⟩ := hst.arg.open_; have HST := Lib.hid hst; have HG5 := Lib.hid hg; have HS5 := Lib.hid hs; have HK5 := Lib.hid (HKF.out w5 (gtrans HG3.out HG5.out)); have f0 : w5.cell? ⟨w.heap.size, 0, none⟩ = some (.slice none 0 0) := HK5.out.cell 0; have f1 : w5.cell? ⟨w.heap.size, 1, none⟩ = some (.slice none 0 0) := HK5.out.cell 1; have f2 := HK5.out.frozen 0; have f3 := HK5.out.frozen 1; clear hst hg hs))
      have hf := HFIN.out w3 w5 _ _ _ _ HG3.out HG5.out HST.out HS5.out
      have HBLK := Lib.hid (show Blk ((w5.setCell ⟨w.heap.size, 0, none⟩ (.slice Aa X.length ca)).setCell ⟨w.heap.size, 1, none⟩ (.slice Ab Bs.length cb)) w.heap.size tTb #[.slice Aa X.length ca, .slice Ab Bs.length cb] from by have h := (HK5.out.set_ 0 (.slice Aa X.length ca)).set_ 1 (.slice Ab Bs.length cb); simpa using h)
      have g0 := HBLK.out.cell 0
      have g1 := HBLK.out.cell 1
      simp only [List.getElem?_toArray, List.getElem?_cons_zero, List.getElem?_cons_succ] at g0 g1
      exact bodyPost_ret (v := .agg #[.slice Aa X.length ca, .slice Ab Bs.length cb]) (by simp [results, Try.results60, go_sem, g0, g1]) rfl ⟨_, rfl, hf.1, hf.2.1, hf.2.2⟩
  · have hcn : (nodesC zs == 0) = false := by simp [hnc]
    generalize nodesC zs = nc at *
    clear hnc
    go_upto_if 13 with (go_at_call 107; go_loud (refine HCN.out.mono ?_; rintro e w2 ⟨rfl, n2, rfl⟩; have HS3 := Lib.hid (show Src (w1.drewN n2) B tSc p from HS1.out.below (below_drewN (Below.refl _ _) _)); have HG3 := Lib.hid (show w1.grownBy (w1.drewN n2) (some p) from gof (below_drewN (Below.refl _ _) _))))
    generalize w1.drewN n2 = w3 at *
    go_wp2_with (go_at_call 48; go_loud (refine (HSP.out w3 HG3.out HS3.out).mono ?_; rintro e w5 ⟨v, rfl, ⟨X, Bs, hst⟩, hg, hs⟩; obtain ⟨Aa, ca, Ab, cb, rfl⟩ := hst.arg.open_; have HST := Lib.hid hst; have HG5 := Lib.hid hg; have HS5 := Lib.hid hs; have HK5 := Lib.hid (HKF.out w5 (gtrans HG3.out HG5.out)); have f0 : w5.cell? ⟨w.heap.size, 0, none⟩ = some (.slice none 0 0) := HK5.out.cell 0; have f1 : w5.cell? ⟨w.heap.size, 1, none⟩ = some (.slice none 0 0) := HK5.out.cell 1; have f2 := HK5.out.frozen 0; have f3 := HK5.out.frozen 1; clear hst hg hs))
    have hf := HFIN.out w3 w5 _ _ _ _ HG3.out HG5.out HST.out HS5.out
    have HBLK := Lib.hid (show Blk ((w5.setCell ⟨w.heap.size, 0, none⟩ (.slice Aa X.length ca)).setCell ⟨w.heap.size, 1, none⟩ (.slice Ab Bs.length cb)) w.heap.size tTb #[.slice Aa X.length ca, .slice Ab Bs.length cb] from by have h := (HK5.out.set_ 0 (.slice Aa X.length ca)).set_ 1 (.slice Ab Bs.length cb); simpa using h)
    have g0 := HBLK.out.cell 0
    have g1 := HBLK.out.cell 1
    simp only [List.getElem?_toArray, List.getElem?_cons_zero, List.getElem?_cons_succ] at g0 g1
    exact bodyPost_ret (v := .agg #[.slice Aa X.length ca, .slice Ab Bs.length cb]) (by simp [results, Try.results60, go_sem, g0, g1]) rfl ⟨_, rfl, hf.1, hf.2.1, hf.2.2⟩
set_option maxHeartbeats 8000000 in
theorem s_DrawImpliedOrder (w : World) (A : Option Addr) (N c : Nat) (hb : ByB w w.heap.size A N) (hN : N ≤ 4096) :
    Calls Try.prog 16 #[.slice A N c] w fun e w' => ∃ v, e = .returned v ∧ (∃ X Bs, TabArg w' v X Bs) ∧ Below w.heap.size w w' := by
  obtain ⟨W, hW⟩ : ∃ W, W = w.alloc (.cells #[.slice none 0 0, .slice none 0 0] tTb) := ⟨_, rfl⟩
  have HSW := Lib.hid (show W.heap.size = w.heap.size + 1 from by rw [hW]; simp)
  have HBW := Lib.hid (show Below w.heap.size w W from by rw [hW]; exact below1 w _)
  have HKR := Lib.hid (show Blk W w.heap.size tTb #[.slice none 0 0, .slice none 0 0] from by rw [hW]; exact Blk.new _ _ _)
  have HFR := Lib.hid (s_l01From W A N c ((hb.belowS (Nat.le_refl _) HBW.out).monoS HBW.out.size) hN)
  clear hb
  go_enter Try.func16, Try.ntmps16
  go_upto_region 1 with fail
  rw [← hW]
  clear hW
  go_wp2_with (first
    | (go_at_call 47; go_loud (refine HFR.out.mono ?_; rintro e w1 ⟨p, rfl, hs1, hb1⟩; have HS1 := Lib.hid hs1; have HB1 := Lib.hid (HBW.out.trans (hb1.mono HBW.out.size)); have HK1 := Lib.hid (HKR.out.below hb1 HKR.out.lt); have hpg := hs1.ge; have hpl := hs1.lt; have HPW := Lib.hid (show w.heap.size < p from by have := HSW.out; omega); clear hs1 hb1))
    | (go_at_call 60; go_loud (refine (s_l11Draw w1 W.heap.size p HS1.out).mono ?_; rintro e w2 ⟨v, rfl, ⟨X, Bs, hst⟩, hg, hs⟩; obtain ⟨Aa, ca, Ab, cb, rfl⟩ := hst.arg.open_; have HST := Lib.hid hst; have HG2 := Lib.hid hg; have HK2 := Lib.hid (HK1.out.srcD hg (by have := HPW.out; omega)); have f0 : w2.cell? ⟨w.heap.size, 0, none⟩ = some (.slice none 0 0) := HK2.out.cell 0; have f1 : w2.cell? ⟨w.heap.size, 1, none⟩ = some (.slice none 0 0) := HK2.out.cell 1; have f2 := HK2.out.frozen 0; have f3 := HK2.out.frozen 1; clear hst hg hs)))
  have HBLK := Lib.hid (show Blk ((w2.setCell ⟨w.heap.size, 0, none⟩ (.slice Aa X.length ca)).setCell ⟨w.heap.size, 1, none⟩ (.slice Ab Bs.length cb)) w.heap.size tTb #[.slice Aa X.length ca, .slice Ab Bs.length cb] from by have h := (HK2.out.set_ 0 (.slice Aa X.length ca)).set_ 1 (.slice Ab Bs.length cb); simpa using h)
  have c2 := ((Chg.refl 0 w1.heap.size w2).setCell (p := ⟨w.heap.size, 0, none⟩) (Nat.zero_le _) (by have := HPW.out; simp; omega) (.slice Aa X.length ca)).setCell (p := ⟨w.heap.size, 1, none⟩) (Nat.zero_le _) (by have := HPW.out; simp; omega) (.slice Ab Bs.length cb)
  have HT := Lib.hid (HST.out.step c2).arg
  have HB := Lib.hid (((HB1.out.grown HG2.out (by have := HPW.out; omega) (fun b e => by injection e with e; have := HPW.out; omega)).setCell (p := ⟨w.heap.size, 0, none⟩) (Nat.le_refl _) (.slice Aa X.length ca)).setCell (p := ⟨w.heap.size, 1, none⟩) (Nat.le_refl _) (.slice Ab Bs.length cb))
  have g0 := HBLK.out.cell 0
  have g1 := HBLK.out.cell 1
  simp only [List.getElem?_toArray, List.getElem?_cons_zero, List.getElem?_cons_succ] at g0 g1
  exact bodyPost_ret (v := .agg #[.slice Aa X.length ca, .slice Ab Bs.length cb]) (by simp [results, Try.results16, go_sem, g0, g1]) rfl ⟨_, rfl, ⟨X, Bs, HT.out⟩, HB.out⟩
end Go.Proofs.Ytnlaoainhlfemaa

set_option maxRecDepth 100000
set_option linter.unusedVariables false
set_option linter.unusedSimpArgs false
namespace Go.Proofs.Ytnlaoainhlfemaa
open Go.RowKit

theorem mod_num' (x : Int) : 0 ≤ x % 10007 ∧ x % 10007 ≤ 10006 := by omega
theorem sgtrans {w w1 w2 : World} {b : Option Nat} (h : w.grownBy w1 b) (h' : w1.grownBy w2 b) : w.grownBy w2 b :=
  ⟨h'.os.trans h.os, h'.tape.trans h.tape, h'.output.trans h.output, Nat.le_trans h.size h'.size, fun k hk hne => (h'.block k (Nat.lt_of_lt_of_le hk h.size) hne).trans (h.block k hk hne)⟩
theorem sgof {w w' : World} {r : Option Nat} (h : Below w.heap.size w w') : w.grownBy w' r := ⟨h.os, h.tape, h.output, h.size, fun k hk _ => h.block k hk⟩
theorem Own.keptLt {w w' : World} {B g : Nat} {e : TypeId} {v : Value} {vs : List Value} (h : Own w B e v vs) (hg : w.grownBy w' (some g)) (hlt : g < B) : Own w' B e v vs := h.kept hg (by
  cases hb : v.ownBlock with
  | none => exact .inl rfl
  | some b => exact .inr fun e => by injection e with e; have := h.ge b hb; omega)
theorem LL.keptLt {w w' : World} {B g : Nat} {v : Value} {xss : List (List Int)} (h : LL w B v xss) (hg : w.grownBy w' (some g)) (hlt : g < B) : LL w' B v xss := by
  obtain ⟨vs, h1, h2⟩ := h
  exact ⟨vs, h1.keptLt hg hlt, h2.1, fun k u zs hu hz => ⟨(h2.2 k u zs hu hz).1.keptLt hg hlt, (h2.2 k u zs hu hz).2⟩⟩
/-- a row of a list of trees -/
theorem Rows.treeB {w : World} {A : Option Addr} {n c : Nat} {F : List (List Nat)} (h : Rows w (.slice A n c) (F.map up)) {i : Nat} (hi : i < n) :
    ∃ ad At ct t, A = some ad ∧ F[i]? = some t ∧ Ints w (.slice At t.length ct) (up t) ∧ w.cell? (ad.add i) = some (.slice At t.length ct) := by
  obtain ⟨A', c', he, -, -, h3⟩ := h.open_
  simp only [Value.slice.injEq] at he
  obtain ⟨rfl, hn, rfl⟩ := he
  obtain ⟨ad, u, zs, hA, hz, hu, hc⟩ := h3 i (by omega)
  rw [List.getElem?_map] at hz
  cases ht : F[i]? with
  | none => rw [ht] at hz; cases hz
  | some t =>
    rw [ht] at hz
    injection hz with hz
    subst hz
    obtain ⟨Au, cu, rfl, -, -, -⟩ := hu.open_
    rw [up_len] at hu hc
    exact ⟨ad, Au, cu, t, hA, rfl, hu, hc⟩
def okTl (n : Nat) : Bool := Nat.ble (tr n).length 6 && (tr n).all fun l => Nat.ble l 6
theorem tl1 : (List.range 37).all okTl = true := by decide +kernel
theorem tl_at {n : Nat} (h : n < 37) : (tr n).length ≤ 6 ∧ ∀ l ∈ tr n, l ≤ 1000000 := by
  have h1 := tl1
  rw [List.all_eq_true] at h1
  have h2 := h1 n (List.mem_range.2 h)
  unfold okTl at h2
  rw [Bool.and_eq_true, List.all_eq_true] at h2
  exact ⟨Nat.le_of_ble_eq_true h2.1, fun l hl => by have := Nat.le_of_ble_eq_true (h2.2 l hl); omega⟩
set_option maxHeartbeats 32000000 in
theorem im_stageWeights {A : List (List Int)} {Bs : List Int} (hT : SqT A Bs Bs.length) (h1 : 1 ≤ Bs.length) (h8 : Bs.length ≤ 8) : ∀ (m n : Nat), n < m → n < 37 → ∀ (w : World) (va vt : Value), TabArg w va A Bs → Ints w vt (up (tr n)) →
    Calls Try.prog 188 #[va, vt] w fun e w' => ∃ x, e = .returned x ∧ OwnInts w' w.heap.size tI x (stL A Bs.length (n + 1)) ∧ Below w.heap.size w w' := by
  intro m
  induction m with
  | zero => intro n h; omega
  | succ m ih =>
    intro n hnm hn37 w va vt ha ht
    have IH := Lib.hid ih
    obtain ⟨bs, hbr, hball, hbt⟩ := br_bt hn37
    obtain ⟨htl, hlv⟩ := tl_at hn37
    have HSE := Lib.hid (stB_end A Bs.length hn37 hbt)
    have HBL := Lib.hid hball
    have HTT := Lib.hid hT
    obtain ⟨va1, vb1, rfl, ha1, ha2⟩ := ha
    obtain ⟨A1, c1, rfl, -, -, -⟩ := ha1.open_
    obtain ⟨A2, c2, rfl, -, -, -⟩ := ha2.open_
    obtain ⟨At, ct, rfl, -, -, -⟩ := ht.open_
    have HAL := Lib.hid (show A.length ≤ 1000 from by rw [hT.la]; omega)
    rw [up_len] at ht ⊢
    obtain ⟨W, hW⟩ : ∃ W, W = w.alloc (.cells #[.slice A1 A.length c1, .slice A2 Bs.length c2] 27) := ⟨_, rfl⟩
    have hbw : Below w.heap.size w W := by rw [hW]; exact below1 w _
    have HSZW := Lib.hid (show W.heap.size = w.heap.size + 1 from by rw [hW]; simp)
    have HBW := Lib.hid hbw
    have HK := Lib.hid (show Blk W w.heap.size 27 #[.slice A1 A.length c1, .slice A2 Bs.length c2] from by rw [hW]; exact Blk.new _ _ _)
    have HTA := Lib.hid (show TabArg W (.agg #[.slice A1 A.length c1, .slice A2 Bs.length c2]) A Bs from ⟨_, _, rfl, ha1.below hbw, ha2.below hbw⟩)
    have HTR := Lib.hid (ht.below hbw)
    have k0 : ∀ o, (W.alloc o).cell? ⟨w.heap.size, 0, none⟩ = some (.slice A1 A.length c1) := fun o => (HK.out.alloc o).cell 0
    have k1 : ∀ o, (W.alloc o).cell? ⟨w.heap.size, 1, none⟩ = some (.slice A2 Bs.length c2) := fun o => (HK.out.alloc o).cell 1
    clear ha1 ha2 ht ih hbt hball hT hbw
    go_enter Try.func188, Try.ntmps188
    go_upto_region 1 with fail
    rw [← hW]
    clear hW
    have HL1 := Lib.hid (show Ints (W.alloc (.cells #[.int .i64 1] tI)) (.slice (some ⟨W.heap.size, 0, none⟩) 1 1) [1] from ⟨(own_lit W tI [.int .i64 1] (by simp [maxLen])).cells, fun z hz => by simp at hz; subst hz; unfold In64; omega⟩)
    have HB1 := Lib.hid (below1 W (.cells #[.int .i64 1] tI))
    go_upto_region 3 with (first
      | (go_at_call 58; go_loud ((with_reducible refine (im_stages _ _ A Bs (HTA.out.below HB1.out)).mono ?_); rintro e w2 ⟨rfl, hb2⟩; have HB2 := Lib.hid (HB1.out.trans (hb2.mono HB1.out.size)); have HL2 := Lib.hid (HL1.out.below hb2); clear hb2))
      | (go_at_call 215; go_loud ((with_reducible refine (lib_Repeat1 _ _ 1 Bs.length HL2.out h1 h8).mono ?_); rintro e w3 ⟨x3, rfl, ho3, hb3⟩; rcases ho3.1.cases with ⟨-, he⟩ | ⟨g, cap, cur, he, hga, hgb, -⟩; (· have h5 := congrArg List.length he; rw [ints_len, List.length_replicate, List.length_nil] at h5; omega); rw [ints_len, List.length_replicate] at he; subst he; have HO3 := Lib.hid ho3; have HB3 := Lib.hid (HB2.out.trans (hb3.mono HB2.out.size)); have HB23 := Lib.hid hb3; clear ho3 hb3))
      | (go_at_call 122; go_loud ((with_reducible refine (i_branchesOf _ _ (tr n) bs (HTR.out.below HB3.out) hbr (by omega) hlv).mono ?_); rintro e w4 ⟨x4, rfl, hl4, hb4⟩; obtain ⟨A4, c4, he4, -, -, -⟩ := hl4.rows.open_; rw [List.length_map] at he4; subst he4; have HL4 := Lib.hid hl4; have HO4 := Lib.hid (HO3.out.below hb4); have HB4 := Lib.hid (HB3.out.trans (hb4.mono HB3.out.size)); have HB24 := Lib.hid (HB23.out.trans (hb4.mono HB23.out.size)); have hg3 : g < w3.heap.size := hgb; have hg4 : g < w4.heap.size := (Nat.lt_of_lt_of_le hgb hb4.size); clear hl4 hb4)))
    have hWg : W.heap.size ≤ g := Nat.le_trans HB2.out.size hga
    have HT2 := Lib.hid (HTA.out.below HB2.out)
    have HK2 := Lib.hid (HK.out.below HB2.out (by have := HSZW.out; omega))
    have HO0 := Lib.hid (show OwnInts w4 w2.heap.size tI (.slice (some ⟨g, 0, none⟩) Bs.length cap) (stB A Bs.length ((bs.map (idxN T6n)).take 0)) from by rw [List.take_zero, stB_nil]; exact HO4.out)
    clear k0 k1 HL1 HL2 HO3 HO4 hgb HTR
    have HBS := Lib.hid (show bs.length ≤ 1000 from (brO_lens hbr (N := 1000) (by omega)).1)
    have hbs := HBS.out
    generalize hs : Bs.length = s at *
    have HS := Lib.hid hs
    clear hs
    go_loopw [17] (fun x wr => ∃ j : Nat, j ≤ bs.length ∧ x = .int .i64 j ∧ OwnInts wr w2.heap.size tI (.slice (some ⟨g, 0, none⟩) s cap) (stB A s ((bs.map (idxN T6n)).take j)) ∧ w4.grownBy wr (some g) ∧ Below w2.heap.size w2 wr) (fun x _ => bs.length - (intOf x).toNat)
    case atStart => exact ⟨0, Nat.zero_le _, rfl, HO0.out, World.grownBy.refl _ _, HB24.out⟩
    case round =>
      obtain ⟨j, hj, rfl, ho, hg, hb⟩ := hrel
      rename World => wq
      clear HO0 HB24
      have HO := Lib.hid ho
      have HG := Lib.hid hg
      have HB := Lib.hid hb
      clear ho hg hb
      by_cases hlt : j < bs.length
      · obtain ⟨ad, Ab, cb, b, rfl, hb, hbi, hcb⟩ := (HL4.out.keptLt HG.out hg3).rows.treeB hlt
        obtain ⟨e1, e2, e3⟩ := HBL.out b (List.mem_of_getElem? hb)
        obtain ⟨p, hp⟩ : ∃ p, idxN T6n b = p + 1 := ⟨idxN T6n b - 1, by omega⟩
        rw [hp] at e2 e3
        rw [Nat.add_sub_cancel] at e3
        have HQT := Lib.hid (show (bs.map (idxN T6n)).take (j + 1) = (bs.map (idxN T6n)).take j ++ [p + 1] from by rw [List.take_add_one, List.getElem?_map, hb, Option.map_some, hp]; rfl)
        have HROW := Lib.hid hbi
        have HTQ := Lib.hid (HT2.out.below HB.out)
        have HKQ := Lib.hid (HK2.out.below HB.out (by have := HB2.out.size; have := HSZW.out; omega))
        have HSW := Lib.hid (show ∀ X, Below wq.heap.size wq X → Calls Try.prog 188 #[.agg #[.slice A1 A.length c1, .slice A2 s c2], .slice Ab b.length cb] X (fun e w' => ∃ x, e = .returned x ∧ OwnInts w' wq.heap.size tI x (stL A s (p + 1)) ∧ Below wq.heap.size wq w') from fun X hX => by
          have h := IH.out p (by omega) (by omega) X (.agg #[.slice A1 A.length c1, .slice A2 s c2]) (.slice Ab b.length cb) (HTQ.out.below hX) (by rw [e3]; exact HROW.out.below hX)
          refine h.mono ?_
          rintro e w5 ⟨r5, rfl, ho5, hb5⟩
          exact ⟨r5, rfl, ho5.mono hX.size, hX.trans (hb5.mono hX.size)⟩)
        have HAP := Lib.hid (show ∀ X r, Below wq.heap.size wq X → Ints X r (stL A s (p + 1)) → Calls Try.prog 216 #[.agg #[.slice A1 A.length c1, .slice A2 s c2], r] X (fun e w' => ∃ x, e = .returned x ∧ OwnInts w' wq.heap.size tI x (apL A s (p + 1)) ∧ Below wq.heap.size wq w') from fun X r hX hr => by
          have h := im_applied X (.agg #[.slice A1 A.length c1, .slice A2 s c2]) r A Bs (stL A s (p + 1)) (HTQ.out.below hX) hr (fun r hr => ⟨(HTT.out.rows r hr).1, by rw [stL_len, (HTT.out.rows r hr).2]; exact Nat.le_refl _⟩) (stL_nums _ _ _) HAL.out (by rw [stL_len]; omega)
          rw [mulR_st HTT.out (Nat.succ_pos p)] at h
          refine h.mono ?_
          rintro e w5 ⟨r5, rfl, ho5, hb5⟩
          exact ⟨r5, rfl, ho5.mono hX.size, hX.trans (hb5.mono hX.size)⟩)
        have hii : (j : Int) < (bs.length : Int) := by omega
        have q0 : wq.cell? ⟨w.heap.size, 0, none⟩ = some (.slice A1 A.length c1) := HKQ.out.cell 0
        have q1 : wq.cell? ⟨w.heap.size, 1, none⟩ = some (.slice A2 s c2) := HKQ.out.cell 1
        clear hb hbi e1 e2 e3 hp
        go_upto_region 5 with fail
        go_cut [25, 26, 27] (fun a b c wx => ((∃ A6 c6, a = .slice A6 s c6 ∧ OwnInts wx wq.heap.size tI (.slice A6 s c6) (apL A s (p + 1))) ∧ b = .int .i64 (s : Nat) ∧ c = .int .i64 0) ∧ Below wq.heap.size wq wx)
        case first =>
          go_region_law (first
            | (go_simp; go_at_call 188; (with_reducible refine ((HSW.out _ ?_).mono ?_)); (first | exact Below.refl _ _ | exact (Below.refl _ _).drew); go_loud (rintro e w5 ⟨r5, rfl, ho5, hb5⟩; have HO5 := Lib.hid ho5; have HB5 := Lib.hid hb5; have m1 : w5.cell? ⟨w.heap.size, 0, none⟩ = some (.slice A1 A.length c1) := (HKQ.out.below hb5 HKQ.out.lt).cell 0; have m2 : w5.cell? ⟨w.heap.size, 1, none⟩ = some (.slice A2 s c2) := (HKQ.out.below hb5 HKQ.out.lt).cell 1; clear ho5 hb5))
            | (go_simp; go_at_call 216; (with_reducible refine ((HAP.out _ _ ?_ ?_).mono ?_)); (first | exact HB5.out | exact HB5.out.drew); (exact HO5.out.ints); go_loud (rintro e w6 ⟨r6, rfl, ho6, hb6⟩; obtain ⟨A6, c6, he6, -, -, -⟩ := ho6.ints.open_; rw [apL_len] at he6; subst he6; have HB6 := Lib.hid hb6; have HO6 := Lib.hid ho6; clear ho6 hb6)))
          all_goals
            go_wp2_with fail
            go_meet
            exact ⟨⟨⟨_, _, rfl, HO6.out⟩, rfl, rfl⟩, HB6.out⟩
        case rest =>
          obtain ⟨⟨⟨A6, c6, rfl, ho6⟩, rfl, rfl⟩, hb6⟩ := hcut
          rename World => w6
          have HO6 := Lib.hid ho6
          have HB6 := Lib.hid hb6
          clear ho6 hb6
          obtain ⟨qs, hqs⟩ : ∃ qs, qs = (bs.map (idxN T6n)).take j := ⟨_, rfl⟩
          rw [← hqs] at HO HQT
          have HO7 := Lib.hid (show OwnInts w6 w2.heap.size tI (.slice (some ⟨g, 0, none⟩) s cap) (mxL A s qs (p + 1) 0) from by rw [mxL_zero]; exact HO.out.below HB6.out)
          have HG6 := Lib.hid (sgtrans HG.out (sgof (r := some g) HB6.out))
          have HB26 := Lib.hid (HB.out.trans (HB6.out.mono HB.out.size))
          have hgq : g < wq.heap.size := Nat.lt_of_lt_of_le hg4 HG.out.size
          clear hqs q0 q1
          go_wp2_with fail
          go_loopw [27] (fun x wr => ∃ i : Nat, i ≤ s ∧ x = .int .i64 i ∧ OwnInts wr w2.heap.size tI (.slice (some ⟨g, 0, none⟩) s cap) (mxL A s qs (p + 1) i) ∧ w6.grownBy wr (some g) ∧ Below w2.heap.size w2 wr) (fun x _ => s - (intOf x).toNat)
          case atStart => exact ⟨0, Nat.zero_le _, rfl, HO7.out, World.grownBy.refl _ _, HB26.out⟩
          case round =>
            obtain ⟨i, hi, rfl, ho, hg, hb⟩ := hrel
            rename World => wc
            clear HO7
            have HO8 := Lib.hid ho
            have HG8 := Lib.hid hg
            have HB8 := Lib.hid hb
            clear ho hg hb
            by_cases hli : i < s
            · obtain ⟨A6', c6', he, -, -, h6⟩ := (show Ints wc (.slice A6 s c6) (apL A s (p + 1)) from ⟨(HO6.out.1.keptLt HG8.out hgq).cells, HO6.out.2⟩).open_
              rw [apL_len] at he h6
              simp only [Value.slice.injEq, true_and] at he
              obtain ⟨rfl, rfl⟩ := he
              obtain ⟨a6, y, rfl, hy, -, hcy⟩ := h6 i hli
              rw [apL_get A s (p + 1) hli] at hy
              injection hy with hy
              have hxg := ints_get (mxL_get A s qs (p + 1) hli)
              obtain ⟨u0, hu0, hcg, hfg, -, -, hown', hgr⟩ := HO8.out.1.storeAt (k := i) (by rw [ints_len, mxL_len A s qs (p + 1) i (by omega)]; exact hli) (.int .i64 (pz (uV s (fT A) i) qs % 10007 * (uV s (fT A) i (p + 1) % 10007) % 10007))
              rw [hxg] at hu0
              injection hu0 with hu0
              have HST := Lib.hid (show OwnInts (wc.setCell ⟨g, i, none⟩ (.int .i64 (pz (uV s (fT A) i) qs % 10007 * (uV s (fT A) i (p + 1) % 10007) % 10007))) w2.heap.size tI (.slice (some ⟨g, 0, none⟩) s cap) (mxL A s qs (p + 1) (i + 1)) from by
                rw [← mxL_step A s qs (p + 1) hli]
                refine ⟨by rw [show (ints (mxL A s qs (p + 1) i)).set i (.int .i64 (pz (uV s (fT A) i) qs % 10007 * (uV s (fT A) i (p + 1) % 10007) % 10007)) = ints ((mxL A s qs (p + 1) i).set i (pz (uV s (fT A) i) qs % 10007 * (uV s (fT A) i (p + 1) % 10007) % 10007)) by simp [ints, List.map_set]] at hown'; exact hown', fun z hz => ?_⟩
                rcases List.mem_or_eq_of_mem_set hz with hz | rfl
                · exact HO8.out.2 z hz
                · unfold In64; omega)
              have HGR := Lib.hid hgr
              have hx := mod_num' (pz (uV s (fT A) i) qs)
              have hy2 := mod_num' (uV s (fT A) i (p + 1))
              rw [hy] at hy2 HST HGR
              clear hown' hgr hxg hy h6
              generalize pz (uV s (fT A) i) qs % 10007 = x at *
              subst hu0
              obtain ⟨m, hm⟩ : ∃ m, m = x * y := ⟨_, rfl⟩
              obtain ⟨p1, p2⟩ := mul_bd 10006 10006 hx.1 hx.2 hy2.1 hy2.2
              have hw1 : wrap64 (x * y) = m := by rw [← hm]; exact w64_in' _ (by omega)
              have hw2 : IntKind.i64.wrap (x * y) = m := by rw [← hm]; exact IntWalk.i64_in _ (by omega)
              rw [← hm] at HST HGR p1 p2
              have hii : (i : Int) < (s : Int) := by omega
              clear hm hx hy2
              go_wp2_with (go_at_call 148; refine (i_num m _ (by omega) (by omega)).mono ?_; rintro e w' ⟨rfl, rfl⟩)
              go_roundw
              case rel => exact ⟨i + 1, by omega, by go_num, HST.out, sgtrans HG8.out HGR.out, HB8.out.grown HGR.out HB8.out.size (by rintro b ⟨⟩; exact hga)⟩
              case measure => simp [intOf]; omega
            · have his : i = s := by omega
              subst his
              have hii : ¬ ((i : Int) < (i : Int)) := by omega
              rw [mxL_full, ← HQT.out] at HO8
              go_wp2_with fail
              go_roundw
              case rel => exact ⟨j + 1, by omega, by go_num, HO8.out, sgtrans HG6.out HG8.out, HB8.out⟩
              case measure => simp [intOf]; omega
      · have hjl : (bs.map (idxN T6n)).take j = bs.map (idxN T6n) := List.take_of_length_le (by rw [List.length_map]; omega)
        have hii : ¬ ((j : Int) < (bs.length : Int)) := by omega
        rw [hjl, HSE.out] at HO
        clear hjl
        go_wp2_with fail
        go_ret
        have hws : w.heap.size ≤ w2.heap.size := by have := HB2.out.size; have := HSZW.out; omega
        have hbz := HBW.out.trans ((HB2.out.trans (HB.out.mono HB2.out.size)).mono HBW.out.size)
        have hoz := HO.out.mono hws
        refine ⟨.slice (some ⟨g, 0, none⟩) s cap, ?_, ?_, hbz⟩
        · rfl
        · rw [HS.out]
          exact hoz
end Go.Proofs.Ytnlaoainhlfemaa

