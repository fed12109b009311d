/- Walks: CollocationTableau of the program and of the reference. -/
import Derived.Test.YtgbfifcbbfhpmaaCol6
import Derived.Test.YtgbfifcbbfhpmaaTabN
set_option maxRecDepth 100000
set_option linter.unusedVariables false
set_option linter.unusedSimpArgs false
namespace Go.Proofs.Ytgbfifcbbfhpmaa
open Go.RowKit

def colTA (zs : List Int) : List (List Int) := if nodesC zs = 0 then colA zs zs.length else []
def colTB (zs : List Int) : List Int := if nodesC zs = 0 then colB zs zs.length else []
def IsCol (zs : List Int) (RA : List (List Int)) (RB : List Int) (c : Int) : Prop := RA = colTA zs ∧ RB = colTB zs ∧ c = nodesC zs
theorem IsCol.unique {zs : List Int} {RA RA' : List (List Int)} {RB RB' : List Int} {c c' : Int} (h : IsCol zs RA RB c) (h' : IsCol zs RA' RB' c') : RA = RA' ∧ RB = RB' ∧ c = c' := by
  obtain ⟨rfl, rfl, rfl⟩ := h
  obtain ⟨rfl, rfl, rfl⟩ := h'
  exact ⟨rfl, rfl, rfl⟩
theorem nodesC_ok {zs : List Int} (h : nodesC zs = 0) : 1 ≤ zs.length ∧ zs.length ≤ 8 ∧ Nums zs := by
  unfold nodesC at h
  cases ho : nodesOk zs with
  | false => rw [ho] at h; simp at h
  | true =>
    unfold nodesOk at ho
    simp only [Bool.and_eq_true] at ho
    have h1 := inR_iff.1 ho.1
    exact ⟨by omega, by omega, nums_iff.1 ho.2⟩
theorem nodesC_bd (zs : List Int) : 0 ≤ nodesC zs ∧ nodesC zs ≤ 5 := by
  unfold nodesC
  split
  · split <;> omega
  · omega
theorem IsCol.short {zs : List Int} {RA : List (List Int)} {RB : List Int} {c : Int} (h : IsCol zs RA RB c) : tot RA ≤ 1000 ∧ RB.length ≤ 1000 := by
  obtain ⟨rfl, rfl, rfl⟩ := h
  unfold colTA colTB
  by_cases hc : nodesC zs = 0
  · have hk := nodesC_ok hc
    rw [if_pos hc, if_pos hc]
    have h1 : tot (colA zs zs.length) ≤ (colA zs zs.length).length * 8 := tot_le fun r hr => by rw [(colA_rows zs zs.length r hr).2]; omega
    rw [colA_len] at h1
    rw [colB_len]
    omega
  · rw [if_neg hc, if_neg hc]
    simp [tot]

set_option maxHeartbeats 2000000 in
theorem i_CollocationTableau (w : World) (v : Value) (zs : List Int) (ha : Ints w v zs) :
    Calls Try.prog 20 #[v] w fun e w' => ∃ RA RB v' c, e = .returned (.tuple #[v', .int .i64 c]) ∧ IsCol zs RA RB c ∧ OT w' w.heap.size w'.heap.size v' RA RB ∧ Below w.heap.size w w' := by
  have HA := Lib.hid ha
  obtain ⟨A, cA, rfl, l1, l2, h3⟩ := ha.open_
  clear ha h3
  have B0 := Lib.hid (below1 w (.cells #[.slice none 0 0, .slice none 0 0] 27))
  have K0 := Lib.hid (Blk.new w #[.slice none 0 0, .slice none 0 0] 27)
  have hcb := nodesC_bd zs
  go_enter Try.func20, Try.ntmps20
  go_wp2_with fail
  have hs1 : (w.alloc (.cells #[.slice none 0 0, .slice none 0 0] 27)).heap.size = w.heap.size + 1 := by simp
  have HS1 := Lib.hid hs1
  clear hs1
  generalize (w.alloc (.cells #[.slice none 0 0, .slice none 0 0] 27)) = w1 at B0 K0 HS1 ⊢
  refine (i_checkNodesList _ _ _ (HA.out.below B0.out)).mono ?_
  rintro e w' ⟨rfl, rfl⟩
  by_cases hc : nodesC zs = 0
  · have HQ := Lib.hid hc
    have HK := Lib.hid (nodesC_ok hc)
    have hle := (nodesC_ok hc).2.1
    rw [hc]
    clear hc
    go_wp2_with fail
    refine (i_collocation _ _ zs (HA.out.below B0.out) HK.out.2.2 (by omega)).mono ?_
    rintro e w2 ⟨r, rfl, hot, hb2⟩
    obtain ⟨A3, c3, A4, c4, rfl⟩ := hot.open_
    rw [colA_len, colB_len] at hot ⊢
    have HO := Lib.hid hot
    have B2 := Lib.hid (B0.out.trans (hb2.mono B0.out.size))
    have X2 := Lib.hid (K0.out.below hb2 K0.out.lt)
    clear hot hb2
    have f0 : w2.cell? ⟨w.heap.size, 0, none⟩ = some (.slice none 0 0) := X2.out.cell 0
    have f1 : w2.cell? ⟨w.heap.size, 1, none⟩ = some (.slice none 0 0) := X2.out.cell 1
    have f2 := X2.out.frozen 0
    have f3 := X2.out.frozen 1
    go_wp2_with fail
    have c0 := Chg.refl w.heap.size (w.heap.size + 1) w2
    have c1' := c0.setCell (p := ⟨w.heap.size, 0, none⟩) (Nat.le_refl _) (by simp) (.slice A3 zs.length c3)
    have c2' := c1'.setCell (p := ⟨w.heap.size, 1, none⟩) (Nat.le_refl _) (by simp) (.slice A4 zs.length c4)
    refine bodyPost_ret (v := .tuple #[.agg #[.slice A3 zs.length c3, .slice A4 zs.length c4], .int .i64 0]) (by simp [results, Try.results20, go_sem, f0, f1]) rfl ⟨colA zs zs.length, colB zs zs.length, _, _, rfl, ⟨by simp [colTA, HQ.out], by simp [colTB, HQ.out], by rw [HQ.out]⟩, ?_, c2'.below B2.out (Nat.le_refl _) B2.out.size⟩
    have h9 := (HO.out.kept c2' (.inr (by rw [HS1.out]; exact Nat.le_refl _))).mono (B' := w.heap.size) (by rw [HS1.out]; omega) c2'.size
    exact h9
  · have HQ := Lib.hid hc
    have HG := Lib.hid (show colTA zs = [] ∧ colTB zs = [] from ⟨by simp [colTA, hc], by simp [colTB, hc]⟩)
    have HV := Lib.hid (rfl : nodesC zs = nodesC zs)
    have f0 : w1.cell? ⟨w.heap.size, 0, none⟩ = some (.slice none 0 0) := K0.out.cell 0
    have f1 : w1.cell? ⟨w.heap.size, 1, none⟩ = some (.slice none 0 0) := K0.out.cell 1
    have f2 := K0.out.frozen 0
    have f3 := K0.out.frozen 1
    go_wp2_with fail
    have c0 := Chg.refl w.heap.size (w.heap.size + 1) w1
    have c1' := c0.setCell (p := ⟨w.heap.size, 0, none⟩) (Nat.le_refl _) (by simp) (.slice none 0 0)
    have c2' := c1'.setCell (p := ⟨w.heap.size, 1, none⟩) (Nat.le_refl _) (by simp) (.slice none 0 0)
    refine bodyPost_ret (v := .tuple #[.agg #[.slice none 0 0, .slice none 0 0], .int .i64 (nodesC zs)]) (by simp [results, Try.results20, go_sem, f0, f1]) rfl ⟨[], [], _, _, rfl, ⟨HG.out.1.symm, HG.out.2.symm, rfl⟩, OT.nil _ _ _, c2'.below B0.out (Nat.le_refl _) B0.out.size⟩

set_option maxHeartbeats 2000000 in
theorem s_CollocationTableau (w : World) (v : Value) (zs : List Int) (ha : Ints w v zs) :
    Calls Try.prog 18 #[v] w fun e w' => ∃ RA RB v' c, e = .returned (.tuple #[v', .int .i64 c]) ∧ IsCol zs RA RB c ∧ OT w' w.heap.size w'.heap.size v' RA RB ∧ Below w.heap.size w w' := by
  have HA := Lib.hid ha
  obtain ⟨A, cA, rfl, l1, l2, h3⟩ := ha.open_
  clear ha h3
  have B0 := Lib.hid (below1 w (.cells #[.slice none 0 0, .slice none 0 0] 27))
  have K0 := Lib.hid (Blk.new w #[.slice none 0 0, .slice none 0 0] 27)
  have hcb := nodesC_bd zs
  go_enter Try.func18, Try.ntmps18
  go_wp2_with fail
  have hs1 : (w.alloc (.cells #[.slice none 0 0, .slice none 0 0] 27)).heap.size = w.heap.size + 1 := by simp
  have HS1 := Lib.hid hs1
  clear hs1
  generalize (w.alloc (.cells #[.slice none 0 0, .slice none 0 0] 27)) = w0 at B0 K0 HS1 ⊢
  refine (s_l11Nodes _ _ _ (HA.out.below B0.out)).mono ?_
  rintro e w' ⟨rfl, n, rfl⟩
  have B1 := Lib.hid (below_drewN B0.out n)
  have K1 := Lib.hid (K0.out.drewN n)
  have HS2 : Hid ((w0.drewN n).heap.size = w.heap.size + 1) := HS1
  clear B0 K0 HS1
  generalize w0.drewN n = w1 at B1 K1 HS2 ⊢
  by_cases hc : nodesC zs = 0
  · have HQ := Lib.hid hc
    have HK := Lib.hid (nodesC_ok hc)
    have hle := (nodesC_ok hc).2.1
    rw [hc]
    clear hc
    go_wp2_with fail
    refine (s_l11Collocation _ _ zs (HA.out.below B1.out) HK.out.2.2 (by omega)).mono ?_
    rintro e w2 ⟨r, rfl, hot, hb2⟩
    obtain ⟨A3, c3, A4, c4, rfl⟩ := hot.open_
    rw [colA_len, colB_len] at hot ⊢
    have HO := Lib.hid hot
    have B2 := Lib.hid (B1.out.trans (hb2.mono B1.out.size))
    have X2 := Lib.hid (K1.out.below hb2 K1.out.lt)
    clear hot hb2
    have f0 : w2.cell? ⟨w.heap.size, 0, none⟩ = some (.slice none 0 0) := X2.out.cell 0
    have f1 : w2.cell? ⟨w.heap.size, 1, none⟩ = some (.slice none 0 0) := X2.out.cell 1
    have f2 := X2.out.frozen 0
    have f3 := X2.out.frozen 1
    go_wp2_with fail
    have c0 := Chg.refl w.heap.size (w.heap.size + 1) w2
    have c1' := c0.setCell (p := ⟨w.heap.size, 0, none⟩) (Nat.le_refl _) (by simp) (.slice A3 zs.length c3)
    have c2' := c1'.setCell (p := ⟨w.heap.size, 1, none⟩) (Nat.le_refl _) (by simp) (.slice A4 zs.length c4)
    refine bodyPost_ret (v := .tuple #[.agg #[.slice A3 zs.length c3, .slice A4 zs.length c4], .int .i64 0]) (by simp [results, Try.results18, go_sem, f0, f1]) rfl ⟨colA zs zs.length, colB zs zs.length, _, _, rfl, ⟨by simp [colTA, HQ.out], by simp [colTB, HQ.out], by rw [HQ.out]⟩, ?_, c2'.below B2.out (Nat.le_refl _) B2.out.size⟩
    have h9 := (HO.out.kept c2' (.inr (by rw [HS2.out]; exact Nat.le_refl _))).mono (B' := w.heap.size) (by rw [HS2.out]; omega) c2'.size
    exact h9
  · have HQ := Lib.hid hc
    have HG := Lib.hid (show colTA zs = [] ∧ colTB zs = [] from ⟨by simp [colTA, hc], by simp [colTB, hc]⟩)
    have f0 : w1.cell? ⟨w.heap.size, 0, none⟩ = some (.slice none 0 0) := K1.out.cell 0
    have f1 : w1.cell? ⟨w.heap.size, 1, none⟩ = some (.slice none 0 0) := K1.out.cell 1
    have f2 := K1.out.frozen 0
    have f3 := K1.out.frozen 1
    go_wp2_with fail
    have c0 := Chg.refl w.heap.size (w.heap.size + 1) w1
    have c1' := c0.setCell (p := ⟨w.heap.size, 0, none⟩) (Nat.le_refl _) (by simp) (.slice none 0 0)
    have c2' := c1'.setCell (p := ⟨w.heap.size, 1, none⟩) (Nat.le_refl _) (by simp) (.slice none 0 0)
    refine bodyPost_ret (v := .tuple #[.agg #[.slice none 0 0, .slice none 0 0], .int .i64 (nodesC zs)]) (by simp [results, Try.results18, go_sem, f0, f1]) rfl ⟨[], [], _, _, rfl, ⟨HG.out.1.symm, HG.out.2.symm, rfl⟩, OT.nil _ _ _, c2'.below B1.out (Nat.le_refl _) B1.out.size⟩
end Go.Proofs.Ytgbfifcbbfhpmaa
