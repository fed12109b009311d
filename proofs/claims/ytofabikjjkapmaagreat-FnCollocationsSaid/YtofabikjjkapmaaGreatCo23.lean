/- Spoilt tableaus (l09Spoil of the reference), in plain words of memory. No program in sight. | Walk: l09Spoil of the reference. | Walk: DrawRepeatTableau. | Walks: draws of nodes and of tableaus of nodes (l11DrawNodes, l11Draw of the reference). | Walks: maps that are drawn by the reference for substitutions. | Walks: maps that are drawn by the reference for substitutions: l16Draw and the draws of the laws. | Walk: scaleMap of the program. | Walks: ReducedOrder, FreeNumbersOf of the program. | Walk: l07Scale of the reference. | Walks: maps that are drawn by the reference (l07Draw, l07DrawAny, l08Draw). | Walks: NodesOf, NodePolynomial, OrthogonalTo of the program; l11DrawAny, DrawCollocationTableau of the reference. -/
import Derived.Test.YtofabikjjkapmaaGreatCo22
import Derived.Test.YtofabikjjkapmaaGreatCo15
import Derived.Test.YtofabikjjkapmaaGreatCo4
import Derived.Test.YtofabikjjkapmaaGreatCo14
import Derived.Test.YtofabikjjkapmaaGreatCo20
import Derived.Test.YtofabikjjkapmaaGreatCo9
import Derived.Test.YtofabikjjkapmaaGreatCo6
import Derived.Test.YtofabikjjkapmaaGreatCo8
import Derived.Test.YtofabikjjkapmaaGreatCo7
import Derived.Deep.CutRange
import Derived.Deep.CutBlock
import Derived.Deep.DeepCutAuto
import Derived.Test.YtofabikjjkapmaaGreatCo21
set_option linter.unusedVariables false
set_option linter.unusedSimpArgs false
namespace Go.Proofs.YtofabikjjkapmaaGreat
open Go.RowKit

section
variable {w w1 : World} {N g n cap : Nat} {vb r0 r1 : Value} {vs : List Value} {rows : List (List Int)} {zs0 Bs : List Int} {z : Int}
end
/-- a tableau that can be read as long as only blocks below N change -/
def Stab (w : World) (N : Nat) (v : Value) (A : List (List Int)) (Bs : List Int) : Prop := ∀ W, Chg 0 N w W → TabArg W v A Bs
section
variable {w w' : World} {N M : Nat} {v va vb : Value} {vs : List Value} {A : List (List Int)} {Bs : List Int}
theorem Stab.step (h : Stab w N v A Bs) (hc : Chg 0 N w w') : Stab w' N v A Bs := fun W hW => h W (hc.trans hW)
theorem Stab.mono (h : Stab w N v A Bs) (hm : M ≤ N) : Stab w M v A Bs := fun W hW => h W (hW.mono (Nat.le_refl _) hm)
theorem Stab.arg (h : Stab w N v A Bs) : TabArg w v A Bs := h w (Chg.refl _ _ _)
theorem Two.stab (h : Two w N va vb vs A Bs) : Stab w N (.agg #[va, vb]) A Bs := fun W hW => (h.kept hW (Nat.le_refl _)).tab.arg
end
/-- the state of a tableau that is spoilt -/
structure SpT (w0 w : World) (B p q : Nat) (va vb : Value) (vs : List Value) (A : List (List Int)) (Bs : List Int) : Prop where
  two : Two w (w0.heap.size + 1) va vb vs A Bs
  blk : Blk w q tTb #[va, vb]
  res : Blk w w0.heap.size tTb #[.slice none 0 0, .slice none 0 0]
  ge : w0.heap.size + 1 ≤ q
  gr : w0.grownBy w (some p)
  src : Src w B tSc p
/-- .. and at the end, where it is but read -/
structure SpS (w0 w : World) (B p q : Nat) (va vb : Value) : Prop where
  tab : ∃ A Bs, Stab w (w0.heap.size + 1) (.agg #[va, vb]) A Bs
  blk : Blk w q tTb #[va, vb]
  res : Blk w w0.heap.size tTb #[.slice none 0 0, .slice none 0 0]
  ge : w0.heap.size + 1 ≤ q
  gr : w0.grownBy w (some p)
  src : Src w B tSc p
section
variable {w0 w w5 w6 : World} {B p q : Nat} {va vb v1 r0 r1 : Value} {vs : List Value} {A : List (List Int)} {zs0 Bs : List Int} {z : Int}
theorem SpT.draw (h : SpT w0 w B p q va vb vs A Bs) (hp : p < w0.heap.size) (hg : w.grownBy w5 (some p)) (hs : Src w5 B tSc p) : SpT w0 w5 B p q va vb vs A Bs :=
  ⟨h.two.srcD hg (by omega), h.blk.srcD hg (by have := h.ge; omega), h.res.srcD hg (by omega), h.ge, gtrans h.gr hg, hs⟩
theorem SpT.below (h : SpT w0 w B p q va vb vs A Bs) (hp : p < w0.heap.size) (hb : Below w.heap.size w w5) : SpT w0 w5 B p q va vb vs A Bs := h.draw hp (gof hb) (h.src.below hb)
/-- the weights grow -/
theorem SpT.addB (h : SpT w0 w B p q va vb vs A Bs) (hp : p < w0.heap.size) (hz : In64 z) (hown : Own w6 (w0.heap.size + 1) tI v1 (ints Bs ++ [.int .i64 z])) (hgr : Grow w w6 vb v1) :
    Blk w6 q tTb #[va, vb] ∧ SpS w0 (w6.setCell ⟨q, 1, none⟩ v1) B p q va v1 := by
  have hnq : vb.ownBlock ≠ some q := h.two.ws.1.ne_blk h.blk (by decide)
  have hnr : vb.ownBlock ≠ some w0.heap.size := fun e => by have := h.two.ws.1.ge _ e; omega
  have hk := h.blk.grow hgr hnq
  have h6 := (h.two.addB hz hown hgr).storeAt hk (by decide) (by decide) 1 v1
  have hgo : ∀ b, vb.ownBlock = some b → w0.heap.size ≤ b := fun b hb => by have := h.two.ws.1.ge b hb; omega
  have g6 : w0.grownBy w6 (some p) := gthen h.gr hgr.1 hgo
  have s6 : Src w6 B tSc p := h.src.kept hgr.1 (fun e => by have := h.two.ws.1.ge _ e; omega) (fun b hb => by have := hgo b hb; have := h.src.ge; omega)
  refine ⟨hk, ⟨_, _, h6.stab⟩, by simpa using hk.set_ 1 v1, (h.res.grow hgr hnr).far (p := ⟨q, 1, none⟩) (by have := h.ge; simp; omega) v1, h.ge, gthen g6 (gset w6 q 1 v1) (by rintro b ⟨⟩; have := h.ge; omega), s6.kept (gset w6 q 1 v1) (by intro e; injection e with e; have := h.ge; omega) (by rintro b ⟨⟩; have := h.ge; have := h.src.ge; omega)⟩
end
end Go.Proofs.YtofabikjjkapmaaGreat

set_option maxRecDepth 100000
set_option linter.unusedVariables false
set_option linter.unusedSimpArgs false
namespace Go.Proofs.YtofabikjjkapmaaGreat
open Go.RowKit

end Go.Proofs.YtofabikjjkapmaaGreat

set_option maxRecDepth 100000
set_option linter.unusedVariables false
set_option linter.unusedSimpArgs false
namespace Go.Proofs.YtofabikjjkapmaaGreat
open Go.RowKit

end Go.Proofs.YtofabikjjkapmaaGreat

set_option maxRecDepth 100000
set_option linter.unusedVariables false
set_option linter.unusedSimpArgs false
namespace Go.Proofs.YtofabikjjkapmaaGreat
open Go.RowKit

theorem lit_drawn {w0 W : World} {B p : Nat} (hg : w0.grownBy W (some p)) (hs : Src W B tSc p) (zs : List Int) (hn : Nums zs) (hl : zs.length ≤ 10) :
    OwnInts (W.alloc (.cells (ints zs).toArray tI)) w0.heap.size tI (.slice (some ⟨W.heap.size, 0, none⟩) zs.length zs.length) zs ∧ w0.grownBy (W.alloc (.cells (ints zs).toArray tI)) (some p) ∧ Src (W.alloc (.cells (ints zs).toArray tI)) B tSc p := by
  have h := own_lit W tI (ints zs) (by rw [ints_len]; simp [maxLen]; omega)
  rw [ints_len] at h
  exact ⟨⟨h.mono hg.size, nums_in hn⟩, gtrans hg (gof (below1 W _)), hs.below (below1 W _)⟩
theorem nums_two {a b : Int} (ha : 0 ≤ a ∧ a ≤ 10006) (hb : 0 ≤ b ∧ b ≤ 10006) : Nums [a, b] := by
  intro z hz
  simp only [List.mem_cons, List.not_mem_nil, or_false] at hz
  rcases hz with rfl | rfl
  · exact ha
  · exact hb
theorem nums_three {a b c : Int} (ha : 0 ≤ a ∧ a ≤ 10006) (hb : 0 ≤ b ∧ b ≤ 10006) (hc : 0 ≤ c ∧ c ≤ 10006) : Nums [a, b, c] := by
  intro z hz
  simp only [List.mem_cons, List.not_mem_nil, or_false] at hz
  rcases hz with rfl | rfl | rfl
  · exact ha
  · exact hb
  · exact hc
theorem nums_append {a b : List Int} (ha : Nums a) (hb : Nums b) : Nums (a ++ b) := fun z hz => by
  rcases List.mem_append.1 hz with h | h
  · exact ha z h
  · exact hb z h
theorem rows0D {w : World} {a b : Value} {A : List (List Int)} {Bs : List Int} (h : TabArg w (.agg #[a, b]) A Bs) : Rows w a A := by
  obtain ⟨va, vb, he, h1, h2⟩ := h
  have : a = va ∧ b = vb := by simpa using he
  obtain ⟨rfl, rfl⟩ := this
  exact h1
theorem run_fieldA (A : Option Addr) (n c : Nat) (b : Value) (W : World) : Sem.run Tryz.prog (Instr.field tTb (.agg #[.slice A n c, b]) 0) W = .ok (.slice A n c) W := by
  have h := Tryz.underlying37
  have h2 := Tryz.underlying35
  simp [Instr.field, Go.part, go_sem, h, h2, isAgg, underlying, asAgg]
/-- what a draw of nodes hands on -/
def DrN (w w' : World) (B p : Nat) (x : Value) : Prop := ∃ zs, OwnInts w' w.heap.size tI x zs ∧ Nums zs ∧ (1 ≤ zs.length ∧ zs.length ≤ 5) ∧ w.grownBy w' (some p) ∧ Src w' B tSc p
set_option maxHeartbeats 8000000 in
theorem s_l11DrawList (w w1 : World) (B p : Nat) (hg1 : w.grownBy w1 (some p)) (hs1 : Src w1 B tSc p) :
    Calls Tryz.prog 111 #[at0 p, .int .i64 4] w1 fun e w2 => ∃ m : Nat, m ≤ 3 ∧ e = .returned (.int .i64 m) ∧ Calls Tryz.prog 125 #[at0 p, .int .i64 (1 + (m : Int))] w2 fun e w3 => ∃ x, e = .returned x ∧ DrN w w3 B p x := by
  refine (s_l01Next w1 B p 4 hs1 (by omega) (by omega)).mono ?_
  rintro e w2 ⟨x, rfl, x0, x1, hg, hs⟩
  obtain ⟨m, rfl⟩ : ∃ m : Nat, x = m := ⟨x.toNat, by omega⟩
  refine ⟨m, by omega, rfl, ?_⟩
  have h := s_l01List w2 B p (1 + m) hs (by omega)
  rw [show ((1 + m : Nat) : Int) = 1 + (m : Int) by omega] at h
  refine h.mono ?_
  rintro e w3 ⟨x3, rfl, zs, ho, hl, hn, hg3, hs3⟩
  exact ⟨_, rfl, zs, ho.mono (gtrans hg1 hg).size, hn, by omega, gtrans (gtrans hg1 hg) hg3, hs3⟩
set_option maxHeartbeats 16000000 in
theorem s_l11DrawNodes (w : World) (B p : Nat) (h : Src w B tSc p) :
    Calls Tryz.prog 124 #[at0 p] w fun e w' => ∃ x, e = .returned x ∧ DrN w w' B p x := by
  have hpl := h.lt
  have HN := Lib.hid (s_l01Next w B p 8 h (by omega) (by omega))
  clear h
  go_enter Tryz.func124, Tryz.ntmps124
  go_upto_region 2 with (go_at_call 111; go_loud (refine HN.out.mono ?_; rintro e w1 ⟨x, rfl, x0, x1, hg, hs⟩; have HG1 := Lib.hid hg; have HS1 := Lib.hid hs; clear hg hs x0 x1))
  clear HN
  by_cases hx0 : x = 0
  · have hd0 : (x == 0) = true := by simp [hx0]
    clear hx0
    go_wp2_with (first
      | (go_at_call 151; go_loud (refine (s_l09NamedG2 _ _ (by decide +kernel)).mono ?_; rintro e w2 ⟨v, rfl, hd2, hb2⟩; obtain ⟨A, Bs, hot, hsq, hnl⟩ := hd2; obtain ⟨Aa, ca, Ab, cb, hve⟩ := hot.open_; subst hve; have hr2 := rows0D hot.arg; rw [hsq.1] at hr2 ⊢; have hfa := run_fieldA Aa 2 ca (.slice Ab Bs.length cb); have HR2 := Lib.hid hr2; have HSQ := Lib.hid hsq; have HB2 := Lib.hid hb2; clear hot hr2 hsq hnl hb2))
      | (go_at_call 183; go_loud (refine (s_l09Ones _ 2 (by omega)).mono ?_; rintro e w3 ⟨x3, rfl, ho3, hb3⟩; have HO3 := Lib.hid ho3.ints; have HR3 := Lib.hid (HR2.out.below hb3); have HB3 := Lib.hid (HB2.out.trans (hb3.mono HB2.out.size)); clear ho3 hb3))
      | (go_at_call 182; go_loud (refine (s_l09TimesOnes _ _ _ A 2 HR3.out HO3.out (fun zs hz => ⟨(HSQ.out.2 zs hz).2, by rw [(HSQ.out.2 zs hz).1]; exact Nat.le_refl _⟩) (by rw [HSQ.out.1]; omega) (by omega)).mono ?_; rintro e w4 ⟨x4, rfl, ho4, hb4⟩; have HO4 := Lib.hid ho4; have HB4 := Lib.hid (HB3.out.trans (hb4.mono HB3.out.size)); have HB43 := Lib.hid HB3.out.size; clear ho4 hb4)))
    go_ret
    exact ⟨_, rfl, _, HO4.out.mono (Nat.le_trans HG1.out.size HB43.out), nodesOf_nums _, by rw [nodesOf_len, HSQ.out.1]; omega, gtrans HG1.out (gof HB4.out), HS1.out.below HB4.out⟩
  · have hd0 : (x == 0) = false := by simp [hx0]
    by_cases hx1 : x = 1
    · have hd1 : (x == 1) = true := by simp [hx1]
      clear hx0 hx1
      go_upto_region 6 with (first
        | (go_at_call 114; (with_reducible refine (s_l01Number w1 B p HS1.out).mono ?_); go_loud (rintro e w2 ⟨c, rfl, hc, hg, hs⟩; have HC := Lib.hid hc; have HG2 := Lib.hid (gtrans HG1.out hg); have HS2 := Lib.hid hs; clear hc hg hs))
        | (go_at_call 114; (with_reducible refine (s_l01Number w2 B p HS2.out).mono ?_); go_loud (rintro e w3 ⟨d, rfl, hd, hg, hs⟩; have HD := Lib.hid hd; have HG3 := Lib.hid (gtrans HG2.out hg); have HS3 := Lib.hid hs; clear hd hg hs)))
      have hcb := HC.out
      have hdb := HD.out
      have HSC := Lib.hid (fun X => s_l01Sub 1 c X (by omega) (by omega) (by omega) (by omega))
      have HSD := Lib.hid (fun X => s_l01Sub 1 d X (by omega) (by omega) (by omega) (by omega))
      have hcm := nume_bd (1 - c)
      have hdm := nume_bd (1 - d)
      generalize (1 - c) % 10007 = c1 at *
      generalize (1 - d) % 10007 = d1 at *
      go_upto_region 7 with (first
        | (go_at_call 119; go_loud (refine (s_l01FracZ _ 1 2 (by omega) (by omega) (by omega) (by omega)).mono ?_; rintro e w4 ⟨z, rfl, hz, rfl⟩; have HZ := Lib.hid hz; clear hz))
        | (go_at_call 184; refine (HSC.out _).mono ?_; rintro e w4 ⟨rfl, rfl⟩))
      have hN3 := nums_three hcb HZ.out hcm
      obtain ⟨W4, hW4⟩ : ∃ W4, W4 = w3.alloc (.cells #[.int .i64 c, .int .i64 z, .int .i64 c1] tI) := ⟨_, rfl⟩
      obtain ⟨ho4, hg4, hs4⟩ := lit_drawn HG3.out HS3.out [c, z, c1] hN3 (by simp)
      rw [show w3.alloc (.cells (ints [c, z, c1]).toArray tI) = W4 from hW4.symm] at ho4 hg4 hs4
      have HO4 := Lib.hid (show OwnInts W4 w.heap.size tI (.slice (some ⟨w3.heap.size, 0, none⟩) 3 3) [c, z, c1] from ho4)
      have HG4 := Lib.hid hg4
      have HS4 := Lib.hid hs4
      have HN3 := Lib.hid hN3
      rw [← hW4]
      clear hW4 ho4 hg4 hs4 hN3
      go_upto_if 29 with (go_at_call 111; go_loud (refine (s_l01Next _ B p 2 HS4.out (by omega) (by omega)).mono ?_; rintro e w5 ⟨y, rfl, y0, y1, hg, hs⟩; have HG5 := Lib.hid (gtrans HG4.out hg); have HS5 := Lib.hid hs; have HO5 := Lib.hid (show OwnInts w5 w.heap.size tI (.slice (some ⟨w3.heap.size, 0, none⟩) 3 3) [c, z, c1] from ⟨HO4.out.1.src hpl hg, HO4.out.2⟩); clear hg hs y0 y1))
      generalize (y == 0) = cc at *
      clear HO4
      cases cc with
      | true =>
        have hN2 := nums_two hdb hdm
        have HN2 := Lib.hid hN2
        have hl2 := own_lit w5 tI (ints [d, d1]) (by simp [maxLen, ints])
        have HY := Lib.hid (show Cells (w5.alloc (.cells #[.int .i64 d, .int .i64 d1] tI)) (.slice (some ⟨w5.heap.size, 0, none⟩) 2 2) (ints [d, d1]) from hl2.cells)
        have HO6 := Lib.hid (show Own (w5.alloc (.cells #[.int .i64 d, .int .i64 d1] tI)) w.heap.size tI (.slice (some ⟨w3.heap.size, 0, none⟩) 3 3) (ints [c, z, c1]) from (HO5.out.below (below1 w5 _)).1)
        have HG6 := Lib.hid (gtrans HG5.out (gof (below1 w5 (.cells #[.int .i64 d, .int .i64 d1] tI))))
        have HS6 := Lib.hid (HS5.out.below (below1 w5 (.cells #[.int .i64 d, .int .i64 d1] tI)))
        clear hl2 hN2
        go_wp2_with (first
          | (go_at_call 184; refine (HSD.out _).mono ?_; rintro e w4 ⟨rfl, rfl⟩)
          | (at_builtin; go_loud (refine wpList_appN T_int HO6.out HY.out (by simp [ints]) HG6.out.size (fun u hu => by simp only [ints, List.mem_map] at hu; obtain ⟨z, -, rfl⟩ := hu; rfl) (by rfl) rfl (by rfl) (by rfl) ?_; intro v3 w7 hown3 hgr3; have HN7 := Lib.hid hown3; have HR7 := Lib.hid hgr3; clear hown3 hgr3)))
        go_ret
        refine ⟨_, rfl, [c, z, c1] ++ [d, d1], ⟨by rw [show ints ([c, z, c1] ++ [d, d1]) = ints [c, z, c1] ++ ints [d, d1] from by simp [ints]]; exact HN7.out, nums_in (nums_append HN3.out HN2.out)⟩, nums_append HN3.out HN2.out, by simp, gthen HG6.out HR7.out.1 HO6.out.ge, HS6.out.kept HR7.out.1 (fun e => by have := HO6.out.ge _ e; omega) (fun b hb => ?_)⟩
        exact Nat.le_trans (Nat.le_trans HS6.out.ge (Nat.le_of_lt hpl)) (HO6.out.ge b hb)
      | false =>
        go_wp2_with fail
        go_ret
        exact ⟨_, rfl, _, HO5.out, HN3.out, by simp, HG5.out, HS5.out⟩
    · have hd1 : (x == 1) = false := by simp [hx1]
      by_cases hx2 : x = 2
      · have hd2 : (x == 2) = true := by simp [hx2]
        clear hx0 hx1 hx2
        go_upto_region 12 with (go_at_call 114; go_loud (refine (s_l01Number w1 B p HS1.out).mono ?_; rintro e w2 ⟨c, rfl, hc, hg, hs⟩; have HC := Lib.hid hc; have HG2 := Lib.hid (gtrans HG1.out hg); have HS2 := Lib.hid hs; clear hc hg hs))
        have hcb := HC.out
        go_upto_region 13 with (first
          | (go_at_call 119; go_loud (refine (s_l01FracZ _ 1 2 (by omega) (by omega) (by omega) (by omega)).mono ?_; rintro e w4 ⟨z, rfl, hz, rfl⟩; obtain ⟨z0, z1⟩ := hz; have HSC := Lib.hid (fun X => s_l01Sub c z X (by omega) (by omega) (by omega) (by omega)); have hbm := nume_bd (c - z); generalize (c - z) % 10007 = bl at *))
          | (go_at_call 184; refine (HSC.out _).mono ?_; rintro e w4 ⟨rfl, rfl⟩))
        have HL := Lib.hid (s_l11DrawList w w2 B p HG2.out HS2.out)
        by_cases hbz : bl = 0
        · have hbb : (bl != 0) = false := by simp [hbz]
          clear hbz
          go_wp2_with (first
            | (go_at_call 111; go_loud (refine HL.out.mono ?_; rintro e w4 ⟨m, hm, rfl, hcl⟩; have HCL := Lib.hid hcl; have hwm : wrap64 (1 + (m : Int)) = 1 + (m : Int) := w64_dr _ (by omega); clear hcl))
            | (go_at_call 125; go_loud (refine HCL.out.mono ?_; rintro e w5 ⟨x5, rfl, hd⟩; have HD5 := Lib.hid hd; clear hd)))
          go_ret
          exact ⟨_, rfl, HD5.out⟩
        · have hbb : (bl != 0) = true := by simp [hbz]
          have HIV := Lib.hid (fun X => s_l01Inv bl X (by omega) (by omega))
          have hiv := pw_bd bl 10005
          generalize pw bl 10005 = iv at *
          clear hbz HL
          go_wp2_with (first
            | (go_at_call 119; (with_reducible refine (s_l01FracZ _ 1 2 (by omega) (by omega) (by omega) (by omega)).mono ?_); go_loud (rintro e w4 ⟨y, rfl, hy, rfl⟩; obtain ⟨y0, y1⟩ := hy; have HMU := Lib.hid (fun X => s_l01Mul c y X (by omega) (by omega) (by omega) (by omega)); have hmb := nume_bd (c * y); generalize c * y % 10007 = m1 at *))
            | (go_at_call 176; (with_reducible refine (HMU.out _).mono ?_); rintro e w4 ⟨rfl, rfl⟩)
            | (go_at_call 119; (with_reducible refine (s_l01FracZ _ 1 3 (by omega) (by omega) (by omega) (by omega)).mono ?_); go_loud (rintro e w4 ⟨u, rfl, hu, rfl⟩; obtain ⟨u0, u1⟩ := hu; have HSU := Lib.hid (fun X => s_l01Sub m1 u X (by omega) (by omega) (by omega) (by omega)); have hsb := nume_bd (m1 - u); generalize (m1 - u) % 10007 = s1 at *; have HMV := Lib.hid (fun X => s_l01Mul s1 iv X (by omega) (by omega) (by omega) (by omega)); have hmv := nume_bd (s1 * iv); generalize s1 * iv % 10007 = m2 at *))
            | (go_at_call 184; (with_reducible refine (HSU.out _).mono ?_); rintro e w4 ⟨rfl, rfl⟩)
            | (go_at_call 178; refine (HIV.out _).mono ?_; rintro e w4 ⟨rfl, rfl⟩)
            | (go_at_call 176; (with_reducible refine (HMV.out _).mono ?_); rintro e w4 ⟨rfl, rfl⟩))
          go_ret
          obtain ⟨ho4, hg4, hs4⟩ := lit_drawn HG2.out HS2.out [c, m2] (nums_two hcb hmv) (by simp)
          exact ⟨_, rfl, [c, m2], ho4, nums_two hcb hmv, by simp, hg4, hs4⟩
      · have hd2 : (x == 2) = false := by simp [hx2]
        by_cases hx3 : x = 3
        · have hd3 : (x == 3) = true := by simp [hx3]
          clear hx0 hx1 hx2 hx3
          go_wp2_with (go_at_call 119; go_loud (refine (s_l01FracZ _ 1 2 (by omega) (by omega) (by omega) (by omega)).mono ?_; rintro e w4 ⟨z, rfl, hz, rfl⟩; have HZ := Lib.hid hz; clear hz))
          go_ret
          have hN3 := nums_three (a := 0) (c := 1) (by omega) HZ.out (by omega)
          obtain ⟨ho4, hg4, hs4⟩ := lit_drawn HG1.out HS1.out [0, z, 1] hN3 (by simp)
          exact ⟨_, rfl, [0, z, 1], ho4, hN3, by simp, hg4, hs4⟩
        · have hd3 : (x == 3) = false := by simp [hx3]
          have HL := Lib.hid (s_l11DrawList w w1 B p HG1.out HS1.out)
          clear hx0 hx1 hx2 hx3
          go_wp2_with (first
            | (go_at_call 111; go_loud (refine HL.out.mono ?_; rintro e w4 ⟨m, hm, rfl, hcl⟩; have HCL := Lib.hid hcl; have hwm : wrap64 (1 + (m : Int)) = 1 + (m : Int) := w64_dr _ (by omega); clear hcl))
            | (go_at_call 125; go_loud (refine HCL.out.mono ?_; rintro e w5 ⟨x5, rfl, hd⟩; have HD5 := Lib.hid hd; clear hd)))
          go_ret
          exact ⟨_, rfl, HD5.out⟩
end Go.Proofs.YtofabikjjkapmaaGreat

set_option maxRecDepth 100000
set_option linter.unusedVariables false
set_option linter.unusedSimpArgs false
namespace Go.Proofs.YtofabikjjkapmaaGreat
open Go.RowKit

theorem in64_n {z : Int} (h : 0 ≤ z ∧ z ≤ 10006) : In64 z := by unfold In64; omega
theorem ints_setD (zs : List Int) (k : Nat) (z : Int) : (ints zs).set k (.int .i64 z) = ints (zs.set k z) := by simp [ints, List.map_set]
theorem OwnInts.setAt {w : World} {C g cap k : Nat} {us : List Int} {n : Nat} (h : OwnInts w C tI (.slice (some ⟨g, 0, none⟩) n cap) us) (hk : k < us.length) {z : Int} (hz : In64 z) :
    (∃ u0, w.cell? ⟨g, k, none⟩ = some u0) ∧ w.frozen? ⟨g, k, none⟩ = false ∧ OwnInts (w.setCell ⟨g, k, none⟩ (.int .i64 z)) C tI (.slice (some ⟨g, 0, none⟩) n cap) (us.set k z) ∧ w.grownBy (w.setCell ⟨g, k, none⟩ (.int .i64 z)) (some g) := by
  obtain ⟨u0, hu0, hcg, hfg, hg2, hg1, hown', hgr⟩ := h.1.storeAt (k := k) (by rw [ints_len]; exact hk) (.int .i64 z)
  refine ⟨⟨u0, hcg⟩, hfg, ⟨by rw [ints_setD] at hown'; exact hown', fun y hy => ?_⟩, hgr⟩
  rcases List.mem_or_eq_of_mem_set hy with h1 | rfl
  · exact h.2 y h1
  · exact hz
end Go.Proofs.YtofabikjjkapmaaGreat

set_option maxRecDepth 100000
set_option linter.unusedVariables false
set_option linter.unusedSimpArgs false
namespace Go.Proofs.YtofabikjjkapmaaGreat
open Go.RowKit

/-- a drawn list: 38 numbers of one's own, or 37 of them -/
structure DrM (w : World) (C : Nat) (g d n m : Nat) : Prop where
  ex : ∃ cap us, OwnInts w C tI (.slice (some ⟨g, 0, none⟩) 38 cap) us ∧ us.length = 38 ∧ m + d = cap
  nd : n + d = 38
  dl : d ≤ 1
theorem DrM.src {w w' : World} {C p g d n m : Nat} (h : DrM w C g d n m) (hp : p < C) (hg : w.grownBy w' (some p)) : DrM w' C g d n m := by
  obtain ⟨⟨cap, us, h1, h2, h3⟩, h4, h5⟩ := h
  exact ⟨⟨cap, us, ⟨h1.1.src hp hg, h1.2⟩, h2, h3⟩, h4, h5⟩
theorem DrM.mono {w : World} {C C' g d n m : Nat} (h : DrM w C g d n m) (hC : C' ≤ C) : DrM w C' g d n m := by
  obtain ⟨⟨cap, us, h1, h2, h3⟩, h4, h5⟩ := h
  exact ⟨⟨cap, us, h1.mono hC, h2, h3⟩, h4, h5⟩
theorem DrM.ge {w : World} {C g d n m : Nat} (h : DrM w C g d n m) : C ≤ g := by
  obtain ⟨⟨cap, us, h1, h2, h3⟩, h4, h5⟩ := h
  exact h1.1.ge g rfl
theorem DrM.set_ {w : World} {C g d n m k : Nat} (h : DrM w C g d n m) (hk : k < n) {z : Int} (hz : In64 z) :
    (∃ u0, w.cell? ⟨g, d + k, none⟩ = some u0) ∧ w.frozen? ⟨g, d + k, none⟩ = false ∧ DrM (w.setCell ⟨g, d + k, none⟩ (.int .i64 z)) C g d n m ∧ w.grownBy (w.setCell ⟨g, d + k, none⟩ (.int .i64 z)) (some g) := by
  obtain ⟨⟨cap, us, h1, h2, h3⟩, h4, h5⟩ := h
  obtain ⟨hu, hf, ho, hg⟩ := h1.setAt (k := d + k) (by omega) hz
  exact ⟨hu, hf, ⟨⟨cap, _, ho, by rw [List.length_set]; exact h2, h3⟩, h4, h5⟩, hg⟩
end Go.Proofs.YtofabikjjkapmaaGreat

set_option maxRecDepth 100000
set_option linter.unusedVariables false
set_option linter.unusedSimpArgs false
namespace Go.Proofs.YtofabikjjkapmaaGreat
open Go.RowKit

end Go.Proofs.YtofabikjjkapmaaGreat

set_option maxRecDepth 100000
set_option linter.unusedVariables false
set_option linter.unusedSimpArgs false
namespace Go.Proofs.YtofabikjjkapmaaGreat
open Go.RowKit

theorem LA.keptLt' {w w' : World} {B g : Nat} {v : Value} {xss : List (List Int)} (h : LA w B v xss) (hg : w.grownBy w' (some g)) (hlt : g < B) : LA w' B v xss := by
  obtain ⟨vs, h1, h2, h3⟩ := h
  have ne : ∀ u : Value, (∀ b, u.ownBlock = some b → B ≤ b) → u.ownBlock = none ∨ u.ownBlock ≠ some g := fun u hu => by
    cases hb : u.ownBlock with
    | none => exact .inl rfl
    | some b => exact .inr fun e => by injection e with e; have := hu b hb; omega
  exact ⟨vs, h1.kept hg (ne v h1.ge), ⟨h2.1, fun k u zs hu hz => ⟨(h2.2 k u zs hu hz).1.kept hg (ne u (h2.2 k u zs hu hz).1.ge), (h2.2 k u zs hu hz).2⟩⟩, h3⟩

end Go.Proofs.YtofabikjjkapmaaGreat

set_option maxRecDepth 100000
set_option linter.unusedVariables false
set_option linter.unusedSimpArgs false
namespace Go.Proofs.YtofabikjjkapmaaGreat
open Go.RowKit

/-- rows that no growth of a slice's own block touches -/
def APR (w : World) (o x : Value) : Prop := ∃ vs, ∀ W', w.grownBy W' o.ownBlock → Cells W' x vs ∧ Rows W' x (T6n.map up)
theorem APR.rows {w : World} {o x : Value} (h : APR w o x) : Rows w x (T6n.map up) := by
  obtain ⟨vs, h⟩ := h
  exact (h w (World.grownBy.refl _ _)).2
theorem APR.step {w w' : World} {o o' x : Value} (h : APR w o x) (hg : Grow w w' o o') : APR w' o' x := by
  obtain ⟨vs, h⟩ := h
  refine ⟨vs, fun W hW => ?_⟩
  have g1 := hg.1
  refine h W ⟨hW.os.trans g1.os, hW.tape.trans g1.tape, hW.output.trans g1.output, Nat.le_trans g1.size hW.size, fun k hk hne => ?_⟩
  have e1 := g1.block k hk hne
  have e2 := hW.block k (Nat.lt_of_lt_of_le hk g1.size) (fun e => by
    rcases hg.2 with h2 | ⟨g, h2, h3⟩
    · exact hne (h2 ▸ e)
    · rw [h2] at e; injection e with e; omega)
  exact e2.trans e1
theorem APR.drew {w : World} {o x : Value} (h : APR w o x) : APR w.drew o x := by
  obtain ⟨vs, h⟩ := h
  exact ⟨vs, fun W hW => h { w with heap := W.heap } ⟨rfl, rfl, rfl, hW.size, hW.block⟩⟩
theorem APR.cell {w W : World} {o : Value} {ad : Addr} {c i : Nat} (h : APR w o (.slice (some ad) 37 c)) (hg : w.grownBy W o.ownBlock) (hi : i < 37) : W.cell? (ad.add i) = w.cell? (ad.add i) := by
  obtain ⟨vs, h⟩ := h
  have h1 := (h w (World.grownBy.refl _ _)).1
  have h2 := (h W hg).1
  obtain ⟨A, c', e, -, -⟩ := h1.open_
  simp only [Value.slice.injEq] at e
  obtain ⟨u, hv⟩ : ∃ u, vs[i]? = some u := ⟨_, List.getElem?_eq_getElem (by omega)⟩
  obtain ⟨a1, n1, c1, e1, k1⟩ := h1.at_ hv
  obtain ⟨a2, n2, c2, e2, k2⟩ := h2.at_ hv
  simp only [Value.slice.injEq, Option.some.injEq] at e1 e2
  rw [← e1.1] at k1
  rw [← e2.1] at k2
  rw [k1, k2]
theorem APR.after {w3 : World} {B : Nat} {x : Value} (h : LA w3 B x (T6n.map up)) (v : Value) (t : TypeId) : APR (w3.alloc (.cells #[v] t)) (.slice (some ⟨w3.heap.size, 0, none⟩) 1 1) x := by
  have h0 := h
  obtain ⟨vs, h1, -, -⟩ := h0
  refine ⟨vs, fun W hW => ?_⟩
  have hb : Below w3.heap.size w3 W := (below1 w3 (.cells #[v] t)).grown hW (by simp) (fun b hb => by simp [Value.ownBlock] at hb; omega)
  exact ⟨(h1.below hb).cells, (h.below hb).rows⟩
theorem APR.before {w3 : World} {B g : Nat} {x : Value} (h : LA w3 B x (T6n.map up)) (hg : g < B) : APR w3 (.slice (some ⟨g, 0, none⟩) 1 1) x := by
  have h0 := h
  obtain ⟨vs, h1, -, -⟩ := h0
  refine ⟨vs, fun W hW => ⟨(h1.kept hW ?_).cells, (h.keptLt' hW hg).rows⟩⟩
  cases hb : x.ownBlock with
  | none => exact .inl rfl
  | some b => exact .inr fun e => by injection e with e; have := h1.ge b hb; have e : b = g := e; omega
end Go.Proofs.YtofabikjjkapmaaGreat

set_option maxRecDepth 100000
set_option linter.unusedVariables false
set_option linter.unusedSimpArgs false
namespace Go.Proofs.YtofabikjjkapmaaGreat
open Go.RowKit

/-- 38 numbers of one's own -/
def M38 (w : World) (C g cap : Nat) : Prop := ∃ us, OwnInts w C tI (.slice (some ⟨g, 0, none⟩) 38 cap) us ∧ us.length = 38 ∧ Nums us
theorem M38.src {w w' : World} {C p g cap : Nat} (h : M38 w C g cap) (hp : p < C) (hg : w.grownBy w' (some p)) : M38 w' C g cap := by
  obtain ⟨us, h1, h2, h3⟩ := h
  exact ⟨us, ⟨h1.1.src hp hg, h1.2⟩, h2, h3⟩
theorem M38.below {w w' : World} {C g cap : Nat} (h : M38 w C g cap) (hb : Below w.heap.size w w') : M38 w' C g cap := by
  obtain ⟨us, h1, h2, h3⟩ := h
  exact ⟨us, h1.below hb, h2, h3⟩
theorem M38.mono {w : World} {C C' g cap : Nat} (h : M38 w C g cap) (hC : C' ≤ C) : M38 w C' g cap := by
  obtain ⟨us, h1, h2, h3⟩ := h
  exact ⟨us, h1.mono hC, h2, h3⟩
theorem M38.ge {w : World} {C g cap : Nat} (h : M38 w C g cap) : C ≤ g := by
  obtain ⟨us, h1, h2, h3⟩ := h
  exact h1.1.ge g rfl
theorem M38.cap {w : World} {C g cap : Nat} (h : M38 w C g cap) : 38 ≤ cap := by
  obtain ⟨us, h1, h2, h3⟩ := h
  obtain ⟨A', c', e, h5, -⟩ := h1.1.cells.open_
  rw [ints_len, h2] at e h5
  simp only [Value.slice.injEq] at e
  omega
theorem M38.of {w : World} {C : Nat} {v : Value} {us : List Int} (h : OwnInts w C tI v us) (hl : us.length = 38) (hn : Nums us) : ∃ g cap, v = .slice (some ⟨g, 0, none⟩) 38 cap ∧ M38 w C g cap := by
  rcases h.1.cases with ⟨-, he⟩ | ⟨g, cap, cur, he, -⟩
  · have h1 := congrArg List.length he; rw [ints_len, hl] at h1; cases h1
  · rw [ints_len, hl] at he; subst he; exact ⟨g, cap, rfl, us, h, hl, hn⟩
theorem nums_set {us : List Int} (h : Nums us) {z : Int} (hz : 0 ≤ z ∧ z ≤ 10006) (k : Nat) : Nums (us.set k z) := fun y hy => by
  rcases List.mem_or_eq_of_mem_set hy with h1 | rfl
  · exact h y h1
  · exact hz
theorem M38.set_ {w : World} {C g cap k : Nat} (h : M38 w C g cap) (hk : k < 38) {z : Int} (hz : 0 ≤ z ∧ z ≤ 10006) :
    (∃ u0, w.cell? ⟨g, k, none⟩ = some u0) ∧ w.frozen? ⟨g, k, none⟩ = false ∧ M38 (w.setCell ⟨g, k, none⟩ (.int .i64 z)) C g cap ∧ w.grownBy (w.setCell ⟨g, k, none⟩ (.int .i64 z)) (some g) := by
  obtain ⟨us, h1, h2, h3⟩ := h
  obtain ⟨hu, hf, ho, hg⟩ := h1.setAt (k := k) (by omega) (in64_n hz)
  exact ⟨hu, hf, ⟨_, ho, by rw [List.length_set]; exact h2, nums_set h3 hz k⟩, hg⟩
set_option maxHeartbeats 4000000 in
theorem s_l01Spoil (w : World) (B p : Nat) (h : Src w B tSc p) :
    Calls Tryz.prog 127 #[at0 p] w fun e w' => ∃ z, e = .returned (.int .i64 z) ∧ In64 z ∧ w.grownBy w' (some p) ∧ Src w' B tSc p := by
  have HN := Lib.hid (s_l01Next w B p 30 h (by omega) (by omega))
  have hpl := h.lt
  clear h
  go_enter Tryz.func127, Tryz.ntmps127
  go_upto_if 5 with (go_at_call 111; go_loud (refine HN.out.mono ?_; rintro e w1 ⟨x, rfl, x0, x1, hg, hs⟩; have HG := Lib.hid hg; have HS := Lib.hid hs; clear hg hs x0 x1))
  have hpl1 : p < w1.heap.size := Nat.lt_of_lt_of_le hpl HG.out.size
  by_cases hx : x = 0
  · have hd0 : (x == 0) = true := by simp [hx]
    rw [hd0]
    have HL := Lib.hid (lit_keep w1 p [-1, 10007, 1099511627776, -4611686018427387904] (by intro z hz; simp at hz; unfold In64; omega) (by simp) hpl1)
    have HSL := Lib.hid (HS.out.below (below1 w1 (.cells (ints [-1, 10007, 1099511627776, -4611686018427387904]).toArray tI)))
    have HPK := Lib.hid (s_l01Pick _ B p _ [-1, 10007, 1099511627776, -4611686018427387904] HSL.out HL.out (by simp) (by simp))
    clear hx hd0
    go_wp2_with (go_at_call 126; go_loud (refine HPK.out.mono ?_; rintro e w2 ⟨y, rfl, hy, hg, hs⟩; have HG2 := Lib.hid (gtrans (gtrans HG.out (gof (below1 w1 _))) hg); have HS2 := Lib.hid hs; have HY := Lib.hid hy; clear hg hs hy))
    go_ret
    exact ⟨_, rfl, by have := HY.out; simp at this; unfold In64; omega, HG2.out, HS2.out⟩
  · have hd0 : (x == 0) = false := by simp [hx]
    rw [hd0]
    clear hx hd0
    go_wp2_with (go_at_call 114; go_loud (refine (s_l01Number _ B p HS.out).mono ?_; rintro e w2 ⟨y, rfl, hy, hg, hs⟩; have HG2 := Lib.hid (gtrans HG.out hg); have HS2 := Lib.hid hs; have HY := Lib.hid hy; clear hg hs hy))
    go_ret
    exact ⟨_, rfl, in64_n HY.out, HG2.out, HS2.out⟩
end Go.Proofs.YtofabikjjkapmaaGreat

set_option maxRecDepth 100000
set_option linter.unusedVariables false
set_option linter.unusedSimpArgs false
namespace Go.Proofs.YtofabikjjkapmaaGreat
open Go.RowKit

set_option maxHeartbeats 2000000 in
theorem i_nodePolynomial (w : World) (v : Value) (zs : List Int) (ha : Ints w v zs) (hN : Nums zs) (hn : zs.length ≤ 900) :
    Calls Tryz.prog 76 #[v] w fun e w' => ∃ r, e = .returned r ∧ OwnInts w' w.heap.size tI r (ndP zs zs.length) ∧ Below w.heap.size w w' := by
  obtain ⟨A, c, rfl, l1, l2, h3⟩ := ha.open_
  have H3 := Lib.hid h3
  have HN := Lib.hid hN
  clear h3 ha hN
  have OL := Lib.hid (own_lit w tI [.int .i64 1] (by simp [maxLen]))
  go_enter Tryz.func76, Tryz.ntmps76
  go_wp2_with fail
  go_loopw [3, 9] (fun o k wi => ∃ m : Nat, m ≤ zs.length ∧ k = .int .i64 m ∧ OwnInts wi w.heap.size tI o (ndP zs m) ∧ Below w.heap.size w wi) (fun _ k _ => zs.length - (intOf k).toNat)
  case atStart => exact ⟨0, Nat.zero_le _, rfl, ⟨by simpa [ndP, ints] using OL.out, nums_in (ndP_nums _ _)⟩, below1 _ _⟩
  case round =>
    obtain ⟨m, hm, rfl, hown, hb⟩ := hrel
    rename World => wq
    clear OL
    have HO := Lib.hid hown
    have HB := Lib.hid hb
    clear hown hb
    by_cases hlt : m < zs.length
    · obtain ⟨ad, y, rfl, hy, -, hcy0⟩ := H3.out m hlt
      have hyn := HN.out y (List.mem_of_getElem? hy)
      have hcy : wq.cell? (ad.add m) = some (.int .i64 y) := by
        rw [HB.out.cell (by rw [block_add]; have := World.block_lt_of_cell? w _ hcy0; rwa [block_add] at this)]; exact hcy0
      have HL := Lib.hid (show ndP zs (m + 1) = tl (ndP zs m) y by rw [ndP, show zs.getD m 0 = y from by simp [List.getD, hy]])
      have hll : (ndP zs m).length ≤ 901 := by rw [ndP_len]; omega
      have HLN := Lib.hid (ndP_nums zs m)
      have hmi : (m : Int) < (zs.length : Int) := by omega
      clear hy hcy0
      generalize ndP zs m = P at HO HL hll HLN
      go_wp2_with (go_at_call 131; refine (i_timesLinear _ _ P y (by exact HO.out.ints) HLN.out (by omega) hyn.1 hyn.2).mono ?_; rintro e w5 ⟨r5, rfl, ho5, hb5⟩; have HO5 := Lib.hid (ho5.mono HB.out.size); have HB5 := Lib.hid (HB.out.trans (hb5.mono HB.out.size)); clear ho5 hb5)
      go_roundw
      case rel => exact ⟨m + 1, by omega, by go_num, by rw [HL.out]; exact HO5.out, HB5.out⟩
      case measure => simp [intOf]; omega
    · have : m = zs.length := by omega
      subst this
      go_wp2_with fail
      go_ret
      exact ⟨_, rfl, HO.out, HB.out⟩
set_option maxHeartbeats 1000000 in
theorem i_NodePolynomial0 (w : World) (v : Value) (zs : List Int) (ha : Ints w v zs) (hc : nodesC zs = 0) :
    Calls Tryz.prog 29 #[v] w fun e w' => ∃ r, e = .returned (.tuple #[r, .int .i64 0]) ∧ OwnInts w' w.heap.size tI r (ndP zs zs.length) ∧ Below w.heap.size w w' := by
  have HC := Lib.hid (i_checkNodesList w v zs ha)
  have hk := nodesC_ok hc
  have HP := Lib.hid (i_nodePolynomial w v zs ha hk.2.2 (by omega))
  rw [hc] at HC
  clear ha hc hk
  go_enter Tryz.func29, Tryz.ntmps29
  go_wp2_with (first
    | (go_at_call 69; refine HC.out.mono ?_; rintro e w0 ⟨rfl, rfl⟩)
    | (go_at_call 76; go_loud (refine HP.out.mono ?_; rintro e w1 ⟨r, rfl, ho, hb⟩; have HO := Lib.hid ho; have HB := Lib.hid hb; clear ho hb)))
  go_ret2
  exact ⟨_, rfl, HO.out, HB.out⟩
theorem rep_cons (t : Nat) (p : List Int) : [(0 : Int)] ++ (List.replicate t 0 ++ p) = List.replicate (t + 1) 0 ++ p := by rw [List.replicate_succ]; rfl
set_option maxHeartbeats 4000000 in
theorem i_OrthogonalTo0 (w : World) (v : Value) (zs : List Int) (ha : Ints w v zs) (hc : nodesC zs = 0) :
    Calls Tryz.prog 26 #[v] w fun e w' => ∃ m : Nat, e = .returned (.tuple #[.int .i64 (m : Nat), .int .i64 0]) ∧ OrtM zs m ∧ Below w.heap.size w w' := by
  have HC := Lib.hid (i_checkNodesList w v zs ha)
  have hk := nodesC_ok hc
  have HP := Lib.hid (i_nodePolynomial w v zs ha hk.2.2 (by omega))
  rw [hc] at HC
  have HLN := Lib.hid (show (ndP zs zs.length).length ≤ 9 ∧ Nums (ndP zs zs.length) from ⟨by rw [ndP_len]; omega, ndP_nums _ _⟩)
  obtain ⟨P, hP⟩ : ∃ P, P = ndP zs zs.length := ⟨_, rfl⟩
  have HPE := Lib.hid hP
  rw [← hP] at HP HLN
  clear ha hc hk hP
  go_enter Tryz.func26, Tryz.ntmps26
  go_wp2_with (first
    | (go_at_call 69; refine HC.out.mono ?_; rintro e w0 ⟨rfl, rfl⟩)
    | (go_at_call 76; go_loud (refine HP.out.mono ?_; rintro e w1 ⟨r, rfl, ho, hb⟩; have HO := Lib.hid ho; have HB := Lib.hid hb; clear ho hb)))
  clear HC HP
  go_loopw [5, 6] (fun o k wi => ∃ m : Nat, m ≤ 8 ∧ k = .int .i64 m ∧ OwnInts wi w.heap.size tI o (List.replicate m 0 ++ P) ∧ Hid (∀ t, t < m → integ (List.replicate t 0 ++ P) 1 = 0) ∧ Below w.heap.size w wi) (fun _ k _ => 8 - (intOf k).toNat)
  case atStart => exact ⟨0, Nat.zero_le _, rfl, HO.out, (fun t ht => by omega), HB.out⟩
  case round =>
    obtain ⟨m, hm, rfl, ho, HT, hb⟩ := hrel
    rename World => wq
    clear HO HB
    have HO := Lib.hid ho
    have HB := Lib.hid hb
    clear ho hb
    by_cases hlt : m < 8
    · have hmi : (m : Int) < 8 := by omega
      have hd : decide ((m : Int) < 8) = true := decide_eq_true hmi
      obtain ⟨Q, hQ⟩ : ∃ Q, Q = List.replicate m 0 ++ P := ⟨_, rfl⟩
      have HQ := Lib.hid hQ
      have hll : Q.length ≤ 20 := by rw [hQ, List.length_append, List.length_replicate]; have := HLN.out.1; omega
      have hnn : Nums Q := fun z hz => by
        rw [hQ] at hz
        rcases List.mem_append.1 hz with hz | hz
        · rw [List.eq_of_mem_replicate hz]; omega
        · exact HLN.out.2 z hz
      have HS := Lib.hid (show [(0 : Int)] ++ Q = List.replicate (m + 1) 0 ++ P from by rw [hQ]; exact rep_cons m P)
      rw [← hQ] at HO
      have HI := Lib.hid (i_integral wq _ _ 1 HO.out.ints hnn (by omega) (by omega) (by omega))
      clear hnn hQ
      by_cases hz : integ Q 1 = 0
      · have hz2 : (integ Q 1 == 0) = true := by simp [hz]
        have HZ := Lib.hid hz
        clear hz
        have OL := Lib.hid (own_lit wq tI [.int .i64 0] (by simp [maxLen]))
        have HB1 := Lib.hid (HB.out.trans ((below1 wq (.cells #[.int .i64 0] tI)).mono HB.out.size))
        have HOX := Lib.hid (HO.out.below (below1 wq (.cells #[.int .i64 0] tI))).ints
        go_wp2_with (first
          | (go_at_call 77; refine HI.out.mono ?_; rintro e w0 ⟨rfl, rfl⟩)
          | (at_builtin; go_loud (refine wpList_appN T_int OL.out HOX.out.1 (by rw [ints_len]; simp; omega) (by simp) (ints_one _) rfl (by rfl) (by rfl) (by rfl) ?_; intro v1 w1 hown1 hgr1; have HN1 := Lib.hid hown1; have HB2 := Lib.hid (hgr1.below HB1.out (Nat.le_trans HB.out.size (below1 wq (.cells #[.int .i64 0] tI)).size) (fun b hb => Nat.le_trans HB.out.size (OL.out.ge b hb))); clear hown1 hgr1)))
        go_roundw
        case rel =>
          refine ⟨m + 1, by omega, by go_num, ?_, (fun t ht => ?_), HB2.out⟩
          · rw [← HS.out]
            refine ⟨?_, fun z hz => ?_⟩
            · have h := HN1.out.mono HB.out.size
              simpa [ints] using h
            · rcases List.mem_append.1 hz with hz | hz
              · simp at hz; subst hz; unfold In64; omega
              · exact HOX.out.2 z hz
          · by_cases e : t = m
            · subst e; rw [← HQ.out]; exact HZ.out
            · exact HT.out t (by omega)
        case measure => simp [intOf]; omega
      · have hz2 : (integ Q 1 == 0) = false := by simp [hz]
        have HZ := Lib.hid hz
        clear hz
        go_wp2_with (go_at_call 77; refine HI.out.mono ?_; rintro e w0 ⟨rfl, rfl⟩)
        go_ret2
        exact ⟨m, rfl, ⟨hm, by rw [← HPE.out]; exact HT.out, .inr (by rw [← HPE.out, ← HQ.out]; exact HZ.out)⟩, HB.out⟩
    · have : m = 8 := by omega
      subst this
      go_wp2_with fail
      go_ret2
      refine ⟨8, rfl, ⟨Nat.le_refl _, ?_, .inl rfl⟩, HB.out⟩
      rw [← HPE.out]
      exact HT.out
set_option maxHeartbeats 2000000 in
theorem i_NodesOf0 (w : World) (v : Value) (A : List (List Int)) (Bs : List Int) (ha : TabArg w v A Bs) (hb : tabB A Bs = true) :
    Calls Tryz.prog 23 #[v] w fun e w' => ∃ x, e = .returned (.tuple #[x, .int .i64 0]) ∧ OwnInts w' w.heap.size tI x (nodesOf A) ∧ Below w.heap.size w w' := by
  obtain ⟨va1, vb1, rfl, ha1, ha2⟩ := ha
  obtain ⟨A1, c1, rfl, -, -, -⟩ := ha1.open_
  obtain ⟨A2, c2, rfl, -, -, -⟩ := ha2.open_
  obtain ⟨W, hW⟩ : ∃ W, W = w.alloc (.cells #[.slice A1 A.length c1, .slice A2 Bs.length c2] tTb) := ⟨_, rfl⟩
  have hbw : Below w.heap.size w W := by rw [hW]; exact below1 w _
  have HBW := Lib.hid hbw
  have HKF := Lib.hid (show Blk W w.heap.size tTb #[.slice A1 A.length c1, .slice A2 Bs.length c2] from by rw [hW]; exact Blk.new _ _ _)
  have HTA := Lib.hid (show TabArg W (.agg #[.slice A1 A.length c1, .slice A2 Bs.length c2]) A Bs from ⟨_, _, rfl, ha1.below hbw, ha2.below hbw⟩)
  have HIT := Lib.hid (i_IsTableau W _ A Bs HTA.out)
  rw [hb] at HIT
  have HO := Lib.hid (fun X (hX : TabArg X (.agg #[.slice A1 A.length c1, .slice A2 Bs.length c2]) A Bs) => im_nodes X _ A Bs hX (isTab_of hb).numTab)
  clear ha1 ha2 hbw hb
  have q0 : W.cell? ⟨w.heap.size, 0, none⟩ = some (.slice A1 A.length c1) := HKF.out.cell 0
  have q1 : W.cell? ⟨w.heap.size, 1, none⟩ = some (.slice A2 Bs.length c2) := HKF.out.cell 1
  go_enter Tryz.func23, Tryz.ntmps23
  go_upto_region 1 with fail
  rw [← hW]
  clear hW
  go_wp2_with (first
    | (go_at_call 73; go_loud (refine HIT.out.mono ?_; rintro e w2 ⟨rfl, hb2⟩; have HB2 := Lib.hid hb2; have m1 : w2.cell? ⟨w.heap.size, 0, none⟩ = some (.slice A1 A.length c1) := (HKF.out.below hb2 HKF.out.lt).cell 0; have m2 : w2.cell? ⟨w.heap.size, 1, none⟩ = some (.slice A2 Bs.length c2) := (HKF.out.below hb2 HKF.out.lt).cell 1; clear hb2))
    | (go_at_call 74; go_loud (refine (HO.out _ (HTA.out.below HB2.out)).mono ?_; rintro e w3 ⟨x3, rfl, ho3, hb3⟩; have HO3 := Lib.hid (ho3.mono (Nat.le_trans HBW.out.size HB2.out.size)); have HB3 := Lib.hid (HB2.out.trans (hb3.mono HB2.out.size)); clear ho3 hb3)))
  go_ret2
  exact ⟨_, rfl, HO3.out, HBW.out.trans (HB3.out.mono HBW.out.size)⟩
end Go.Proofs.YtofabikjjkapmaaGreat

