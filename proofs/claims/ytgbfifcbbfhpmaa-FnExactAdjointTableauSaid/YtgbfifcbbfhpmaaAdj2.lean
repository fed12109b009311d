/- Walks: AdjointTableau of the program and of the reference. -/
import Derived.Test.YtgbfifcbbfhpmaaAdj
set_option linter.unusedVariables false
set_option linter.unusedSimpArgs false
namespace Go.Proofs.Ytgbfifcbbfhpmaa
open Go.RowKit

def adjTA (A : List (List Int)) (Bs : List Int) : List (List Int) := if tabB A Bs then adjA A Bs else []
def adjTB (A : List (List Int)) (Bs : List Int) : List Int := if tabB A Bs then adjB Bs else []
def adjTC (A : List (List Int)) (Bs : List Int) : Int := if tabB A Bs then 0 else 1
def IsAdj (A : List (List Int)) (Bs : List Int) (RA : List (List Int)) (RB : List Int) (c : Int) : Prop := RA = adjTA A Bs ∧ RB = adjTB A Bs ∧ c = adjTC A Bs
theorem IsAdj.unique {A : List (List Int)} {Bs : List Int} {RA RA' : List (List Int)} {RB RB' : List Int} {c c' : Int} (h : IsAdj A Bs RA RB c) (h' : IsAdj A Bs RA' RB' c') : RA = RA' ∧ RB = RB' ∧ c = c' := by
  obtain ⟨rfl, rfl, rfl⟩ := h
  obtain ⟨rfl, rfl, rfl⟩ := h'
  exact ⟨rfl, rfl, rfl⟩
theorem IsAdj.short {A : List (List Int)} {Bs : List Int} {RA : List (List Int)} {RB : List Int} {c : Int} (h : IsAdj A Bs RA RB c) : tot RA ≤ 1000 ∧ RB.length ≤ 1000 := by
  obtain ⟨rfl, rfl, rfl⟩ := h
  unfold adjTA adjTB
  cases ht : tabB A Bs with
  | false => simp [tot]
  | true =>
    have hI := isTab_of ht
    have h1 : tot (adjA A Bs) ≤ (adjA A Bs).length * 8 := tot_le fun zs hz => by
      obtain ⟨a, ha, rfl⟩ := List.mem_map.1 hz
      have := hI.hi
      simp [pRow, dn_len]
      omega
    have := hI.hi
    rw [adjA_len] at h1
    simp only [if_true]
    rw [adjB_len]
    omega

set_option maxRecDepth 100000 in
set_option maxHeartbeats 2000000 in
theorem i_AdjointTableau (w : World) (v : Value) (A : List (List Int)) (Bs : List Int) (ha : TabArg w v A Bs) :
    Calls Try.prog 14 #[v] w fun e w' => ∃ RA RB v' c, e = .returned (.tuple #[v', .int .i64 c]) ∧ IsAdj A Bs RA RB c ∧ OT w' w.heap.size w'.heap.size v' RA RB ∧ Below w.heap.size w w' := by
  have HT := Lib.hid ha
  obtain ⟨Aa, ca, Ab, cb, rfl⟩ := ha.open_
  have B0 := Lib.hid (below2 w (.cells #[.slice Aa A.length ca, .slice Ab Bs.length cb] 27) (.cells #[.slice none 0 0, .slice none 0 0] 27))
  have K0 := Lib.hid ((Blk.new w #[.slice Aa A.length ca, .slice Ab Bs.length cb] 27).alloc (.cells #[.slice none 0 0, .slice none 0 0] 27))
  have K1 := Lib.hid (Blk.new1 w (.cells #[.slice Aa A.length ca, .slice Ab Bs.length cb] 27) #[.slice none 0 0, .slice none 0 0] 27)
  clear ha
  go_enter Try.func14, Try.ntmps14
  go_wp2_with fail
  refine (i_IsTableau _ _ _ _ (HT.out.below B0.out)).mono ?_
  rintro e w1 ⟨rfl, hb1⟩
  have B1 := Lib.hid (B0.out.trans (hb1.mono B0.out.size))
  have X0 := Lib.hid (K0.out.below hb1 K0.out.lt)
  have X1 := Lib.hid (K1.out.below hb1 K1.out.lt)
  have hs1 := hb1.size
  simp only [size_alloc'] at hs1
  have HS1 := Lib.hid hs1
  have g0 : w1.cell? ⟨w.heap.size, 0, none⟩ = some (.slice Aa A.length ca) := X0.out.cell 0
  have g1 : w1.cell? ⟨w.heap.size, 1, none⟩ = some (.slice Ab Bs.length cb) := X0.out.cell 1
  have f0 : w1.cell? ⟨w.heap.size + 1, 0, none⟩ = some (.slice none 0 0) := X1.out.cell 0
  have f1 : w1.cell? ⟨w.heap.size + 1, 1, none⟩ = some (.slice none 0 0) := X1.out.cell 1
  have f2 := X1.out.frozen 0
  have f3 := X1.out.frozen 1
  clear hb1 K0 K1 hs1
  cases ht : tabB A Bs with
  | false =>
    have HQ := Lib.hid ht
    go_wp2_with fail
    have c0 := Chg.refl (w.heap.size + 1) (w.heap.size + 1 + 1) w1
    have c1' := c0.setCell (p := ⟨w.heap.size + 1, 0, none⟩) (Nat.le_refl _) (by simp) (.slice none 0 0)
    have c2' := c1'.setCell (p := ⟨w.heap.size + 1, 1, none⟩) (Nat.le_refl _) (by simp) (.slice none 0 0)
    refine bodyPost_ret (v := .tuple #[.agg #[.slice none 0 0, .slice none 0 0], .int .i64 1]) (by simp [results, Try.results14, go_sem, f0, f1]) rfl ⟨[], [], _, _, rfl, ⟨by simp [adjTA, HQ.out], by simp [adjTB, HQ.out], by simp [adjTC, HQ.out]⟩, OT.nil _ _ _, c2'.below B1.out (by omega) B1.out.size⟩
  | true =>
    have HQ := Lib.hid ht
    have HI := Lib.hid (isTab_of ht)
    go_wp2_with fail
    refine (im_adjoint _ _ A Bs (HT.out.below B1.out) HI.out).mono ?_
    rintro e w2 ⟨r, rfl, hot, hb2⟩
    obtain ⟨A3, c3, A4, c4, rfl⟩ := hot.open_
    rw [adjA_len, adjB_len] at hot ⊢
    have HO := Lib.hid hot
    have B2 := Lib.hid (B1.out.trans (hb2.mono B1.out.size))
    have X2 := Lib.hid (X1.out.below hb2 X1.out.lt)
    clear g0 g1 f0 f1 f2 f3 hot hb2
    have f0 : w2.cell? ⟨w.heap.size + 1, 0, none⟩ = some (.slice none 0 0) := X2.out.cell 0
    have f1 : w2.cell? ⟨w.heap.size + 1, 1, none⟩ = some (.slice none 0 0) := X2.out.cell 1
    have f2 := X2.out.frozen 0
    have f3 := X2.out.frozen 1
    go_wp2_with fail
    have c0 := Chg.refl (w.heap.size + 1) (w.heap.size + 1 + 1) w2
    have c1' := c0.setCell (p := ⟨w.heap.size + 1, 0, none⟩) (Nat.le_refl _) (by simp) (.slice A3 Bs.length c3)
    have c2' := c1'.setCell (p := ⟨w.heap.size + 1, 1, none⟩) (Nat.le_refl _) (by simp) (.slice A4 Bs.length c4)
    refine bodyPost_ret (v := .tuple #[.agg #[.slice A3 Bs.length c3, .slice A4 Bs.length c4], .int .i64 0]) (by simp [results, Try.results14, go_sem, f0, f1]) rfl ⟨_, _, _, _, rfl, ⟨by simp [adjTA, HQ.out], by simp [adjTB, HQ.out], by simp [adjTC, HQ.out]⟩, (HO.out.kept c2' (.inr HS1.out)).mono B1.out.size c2'.size, c2'.below B2.out (by omega) B2.out.size⟩

set_option maxRecDepth 100000 in
set_option maxHeartbeats 2000000 in
theorem s_AdjointTableau (w : World) (v : Value) (A : List (List Int)) (Bs : List Int) (ha : TabArg w v A Bs) :
    Calls Try.prog 12 #[v] w fun e w' => ∃ RA RB v' c, e = .returned (.tuple #[v', .int .i64 c]) ∧ IsAdj A Bs RA RB c ∧ OT w' w.heap.size w'.heap.size v' RA RB ∧ Below w.heap.size w w' := by
  have HT := Lib.hid ha
  obtain ⟨Aa, ca, Ab, cb, rfl⟩ := ha.open_
  have B0 := Lib.hid (below2 w (.cells #[.slice Aa A.length ca, .slice Ab Bs.length cb] 27) (.cells #[.slice none 0 0, .slice none 0 0] 27))
  have K0 := Lib.hid ((Blk.new w #[.slice Aa A.length ca, .slice Ab Bs.length cb] 27).alloc (.cells #[.slice none 0 0, .slice none 0 0] 27))
  have K1 := Lib.hid (Blk.new1 w (.cells #[.slice Aa A.length ca, .slice Ab Bs.length cb] 27) #[.slice none 0 0, .slice none 0 0] 27)
  clear ha
  go_enter Try.func12, Try.ntmps12
  go_wp2_with fail
  refine (s_l09Is _ _ _ _ (HT.out.below B0.out)).mono ?_
  rintro e w1 ⟨rfl, hb1⟩
  have B1 := Lib.hid (B0.out.trans (hb1.mono B0.out.size))
  have X0 := Lib.hid (K0.out.below hb1 K0.out.lt)
  have X1 := Lib.hid (K1.out.below hb1 K1.out.lt)
  have hs1 := hb1.size
  simp only [size_alloc'] at hs1
  have HS1 := Lib.hid hs1
  have g0 : w1.cell? ⟨w.heap.size, 0, none⟩ = some (.slice Aa A.length ca) := X0.out.cell 0
  have g1 : w1.cell? ⟨w.heap.size, 1, none⟩ = some (.slice Ab Bs.length cb) := X0.out.cell 1
  have f0 : w1.cell? ⟨w.heap.size + 1, 0, none⟩ = some (.slice none 0 0) := X1.out.cell 0
  have f1 : w1.cell? ⟨w.heap.size + 1, 1, none⟩ = some (.slice none 0 0) := X1.out.cell 1
  have f2 := X1.out.frozen 0
  have f3 := X1.out.frozen 1
  clear hb1 K0 K1 hs1
  cases ht : tabB A Bs with
  | false =>
    have HQ := Lib.hid ht
    go_wp2_with fail
    have c0 := Chg.refl (w.heap.size + 1) (w.heap.size + 1 + 1) w1
    have c1' := c0.setCell (p := ⟨w.heap.size + 1, 0, none⟩) (Nat.le_refl _) (by simp) (.slice none 0 0)
    have c2' := c1'.setCell (p := ⟨w.heap.size + 1, 1, none⟩) (Nat.le_refl _) (by simp) (.slice none 0 0)
    refine bodyPost_ret (v := .tuple #[.agg #[.slice none 0 0, .slice none 0 0], .int .i64 1]) (by simp [results, Try.results12, go_sem, f0, f1]) rfl ⟨[], [], _, _, rfl, ⟨by simp [adjTA, HQ.out], by simp [adjTB, HQ.out], by simp [adjTC, HQ.out]⟩, OT.nil _ _ _, c2'.below B1.out (by omega) B1.out.size⟩
  | true =>
    have HQ := Lib.hid ht
    have HI := Lib.hid (isTab_of ht)
    have hhi := HI.out.hi
    clear f0 f1 f2 f3
    go_wp2_with fail
    go_region_held3 (fun w' => w'.cell? ⟨w.heap.size, 0, none⟩ = some (.slice Aa A.length ca) ∧ w'.cell? ⟨w.heap.size, 1, none⟩ = some (.slice Ab Bs.length cb)) ((go_split_ands; refine ⟨?_, ?_⟩ <;> (first
        | (rw [hb8.cell (by have h1 := X0.out.lt; have h5 := hb5.size; have h6 := hb6.size; have h7 := hb7.size; simp at h5 h6 h7 ⊢; omega)]; assumption)
        | (rw [hb7.cell (by have h1 := X0.out.lt; have h5 := hb5.size; have h6 := hb6.size; simp at h5 h6 ⊢; omega)]; assumption)
        | (rw [hb6.cell (by have h1 := X0.out.lt; have h5 := hb5.size; simp at h5 ⊢; omega)]; assumption)
        | (rw [hb5.cell (by have h1 := X0.out.lt; simp; omega)]; assumption)
        | go_keep)))
      (first
        | (go_at_call 49; refine (s_l10Inverse _ _ A Bs (by exact HT.out.below B1.out.drew) HI.out.numTab (fun zs hz => by rw [(HI.out.row zs hz).1]; omega)).mono ?_; rintro e w5 ⟨v5, rfl, ho5, hb5⟩; obtain ⟨A5, c5, A5b, c5b, rfl⟩ := ho5.open_; rw [List.length_map, scl_len] at ho5 ⊢)
        | (go_at_call 48; refine (s_l10Scale _ _ _ _ 10006 (by exact ho5.arg) (inv_numTab HI.out) (by omega) (by omega)).mono ?_; rintro e w6 ⟨v6, rfl, ho6, hb6⟩; obtain ⟨A6, c6, A6b, c6b, rfl⟩ := ho6.open_; simp only [List.length_map, scl_len] at ho6 ⊢)
        | (go_at_call 50; refine (s_l10Backwards _ Bs.length (by omega)).mono ?_; rintro e w7 ⟨v7, rfl, ho7, hb7⟩; obtain ⟨A7, c7, hv7, -, -, -⟩ := ho7.ints.open_; rw [downTo_len] at hv7; subst hv7)
        | (go_at_call 47; refine (s_l10Permute _ _ _ (adjM A Bs) (adjW Bs) (dn Bs.length) (by exact ho6.arg.below hb7) (by rw [← dn_casts]; exact ho7.ints) (by rw [dn_len]; omega) (fun a h => by have := dn_lt h; have := HI.out.len; rw [adjM_len, adjW_len]; omega) (adjM_row HI.out)).mono ?_; rintro e w8 ⟨v8, rfl, ho8, hb8⟩; obtain ⟨A8, c8, A8b, c8b, rfl⟩ := (show OT w8 _ _ v8 (adjA A Bs) (adjB Bs) from ho8).open_; rw [adjA_len, adjB_len]; have X8 := X1.out.below ((((below_of_drew hb5).trans (hb6.mono hb5.size)).trans (hb7.mono (Nat.le_trans hb5.size hb6.size))).trans (hb8.mono (Nat.le_trans (Nat.le_trans hb5.size hb6.size) hb7.size))) X1.out.lt; have f0 : w8.cell? ⟨w.heap.size + 1, 0, none⟩ = some (.slice none 0 0) := X8.cell 0; have f1 : w8.cell? ⟨w.heap.size + 1, 1, none⟩ = some (.slice none 0 0) := X8.cell 1; have f2 := X8.frozen 0; have f3 := X8.frozen 1))
    go_wp2_with fail
    have ho8' : OT w8 w7.heap.size w8.heap.size _ (adjA A Bs) (adjB Bs) := ho8
    have B8 : Below w.heap.size w w8 := B1.out.trans (((((below_of_drew hb5).trans (hb6.mono hb5.size)).trans (hb7.mono (Nat.le_trans hb5.size hb6.size))).trans (hb8.mono (Nat.le_trans (Nat.le_trans hb5.size hb6.size) hb7.size))).mono B1.out.size)
    have hsz : w.heap.size + 1 + 1 ≤ w7.heap.size := Nat.le_trans HS1.out (Nat.le_trans (Nat.le_trans hb5.size hb6.size) hb7.size)
    have c0 := Chg.refl (w.heap.size + 1) (w.heap.size + 1 + 1) w8
    have c1' := c0.setCell (p := ⟨w.heap.size + 1, 0, none⟩) (Nat.le_refl _) (by simp) (.slice A8 Bs.length c8)
    have c2' := c1'.setCell (p := ⟨w.heap.size + 1, 1, none⟩) (Nat.le_refl _) (by simp) (.slice A8b Bs.length c8b)
    refine bodyPost_ret (v := .tuple #[.agg #[.slice A8 Bs.length c8, .slice A8b Bs.length c8b], .int .i64 0]) (by simp [results, Try.results12, go_sem, f0, f1]) rfl ⟨adjA A Bs, adjB Bs, _, _, rfl, ⟨by simp [adjTA, HQ.out], by simp [adjTB, HQ.out], by simp [adjTC, HQ.out]⟩, ?_, c2'.below B8 (by omega) B8.size⟩
    have h9 := (ho8'.kept c2' (.inr hsz)).mono (B' := w.heap.size) (by omega) c2'.size
    rw [adjA_len, adjB_len] at h9
    exact h9
end Go.Proofs.Ytgbfifcbbfhpmaa
