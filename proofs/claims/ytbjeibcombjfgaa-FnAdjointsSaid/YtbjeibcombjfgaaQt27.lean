/- Walks: AdjointTableau of the program and of the reference. | Walk: InverseTableau of the program. | Walk: ComposeTableaus of the program. | Plain: what the law of adjoint tableaus says. No walk. -/
import Derived.Test.YtbjeibcombjfgaaQt26
import Derived.Test.YtbjeibcombjfgaaQt13
import Derived.Test.YtbjeibcombjfgaaQt23
import Derived.Test.YtbjeibcombjfgaaQt16
set_option linter.unusedVariables false
set_option linter.unusedSimpArgs false
namespace Go.Proofs.Ytbjeibcombjfgaa
open Go.RowKit

def adjTA (A : List (List Int)) (Bs : List Int) : List (List Int) := if tabB A Bs then adjA A Bs else []
def adjTB (A : List (List Int)) (Bs : List Int) : List Int := if tabB A Bs then adjB Bs else []
def adjTC (A : List (List Int)) (Bs : List Int) : Int := if tabB A Bs then 0 else 1
def IsAdj (A : List (List Int)) (Bs : List Int) (RA : List (List Int)) (RB : List Int) (c : Int) : Prop := RA = adjTA A Bs ∧ RB = adjTB A Bs ∧ c = adjTC A Bs
theorem IsAdj.unique {A : List (List Int)} {Bs : List Int} {RA RA' : List (List Int)} {RB RB' : List Int} {c c' : Int} (h : IsAdj A Bs RA RB c) (h' : IsAdj A Bs RA' RB' c') : RA = RA' ∧ RB = RB' ∧ c = c' := by
  obtain ⟨rfl, rfl, rfl⟩ := h
  obtain ⟨rfl, rfl, rfl⟩ := h'
  exact ⟨rfl, rfl, rfl⟩
theorem IsAdj.short {A : List (List Int)} {Bs : List Int} {RA : List (List Int)} {RB : List Int} {c : Int} (h : IsAdj A Bs RA RB c) : tot RA ≤ 1000 ∧ RB.length ≤ 1000 := by
  obtain ⟨rfl, rfl, rfl⟩ := h
  unfold adjTA adjTB
  cases ht : tabB A Bs with
  | false => simp [tot]
  | true =>
    have hI := isTab_of ht
    have h1 : tot (adjA A Bs) ≤ (adjA A Bs).length * 8 := tot_le fun zs hz => by
      obtain ⟨a, ha, rfl⟩ := List.mem_map.1 hz
      have := hI.hi
      simp [pRow, dn_len]
      omega
    have := hI.hi
    rw [adjA_len] at h1
    simp only [if_true]
    rw [adjB_len]
    omega

set_option maxRecDepth 100000 in
set_option maxHeartbeats 2000000 in
theorem i_AdjointTableau (w : World) (v : Value) (A : List (List Int)) (Bs : List Int) (ha : TabArg w v A Bs) :
    Calls Try.prog 19 #[v] w fun e w' => ∃ RA RB v' c, e = .returned (.tuple #[v', .int .i64 c]) ∧ IsAdj A Bs RA RB c ∧ OT w' w.heap.size w'.heap.size v' RA RB ∧ Below w.heap.size w w' := by
  have HT := Lib.hid ha
  obtain ⟨Aa, ca, Ab, cb, rfl⟩ := ha.open_
  have B0 := Lib.hid (below2 w (.cells #[.slice Aa A.length ca, .slice Ab Bs.length cb] 27) (.cells #[.slice none 0 0, .slice none 0 0] 27))
  have K0 := Lib.hid ((Blk.new w #[.slice Aa A.length ca, .slice Ab Bs.length cb] 27).alloc (.cells #[.slice none 0 0, .slice none 0 0] 27))
  have K1 := Lib.hid (Blk.new1 w (.cells #[.slice Aa A.length ca, .slice Ab Bs.length cb] 27) #[.slice none 0 0, .slice none 0 0] 27)
  clear ha
  go_enter Try.func19, Try.ntmps19
  go_wp2_with fail
  refine (i_IsTableau _ _ _ _ (HT.out.below B0.out)).mono ?_
  rintro e w1 ⟨rfl, hb1⟩
  have B1 := Lib.hid (B0.out.trans (hb1.mono B0.out.size))
  have X0 := Lib.hid (K0.out.below hb1 K0.out.lt)
  have X1 := Lib.hid (K1.out.below hb1 K1.out.lt)
  have hs1 := hb1.size
  simp only [size_alloc'] at hs1
  have HS1 := Lib.hid hs1
  have g0 : w1.cell? ⟨w.heap.size, 0, none⟩ = some (.slice Aa A.length ca) := X0.out.cell 0
  have g1 : w1.cell? ⟨w.heap.size, 1, none⟩ = some (.slice Ab Bs.length cb) := X0.out.cell 1
  have f0 : w1.cell? ⟨w.heap.size + 1, 0, none⟩ = some (.slice none 0 0) := X1.out.cell 0
  have f1 : w1.cell? ⟨w.heap.size + 1, 1, none⟩ = some (.slice none 0 0) := X1.out.cell 1
  have f2 := X1.out.frozen 0
  have f3 := X1.out.frozen 1
  clear hb1 K0 K1 hs1
  cases ht : tabB A Bs with
  | false =>
    have HQ := Lib.hid ht
    go_wp2_with fail
    have c0 := Chg.refl (w.heap.size + 1) (w.heap.size + 1 + 1) w1
    have c1' := c0.setCell (p := ⟨w.heap.size + 1, 0, none⟩) (Nat.le_refl _) (by simp) (.slice none 0 0)
    have c2' := c1'.setCell (p := ⟨w.heap.size + 1, 1, none⟩) (Nat.le_refl _) (by simp) (.slice none 0 0)
    refine bodyPost_ret (v := .tuple #[.agg #[.slice none 0 0, .slice none 0 0], .int .i64 1]) (by simp [results, Try.results19, go_sem, f0, f1]) rfl ⟨[], [], _, _, rfl, ⟨by simp [adjTA, HQ.out], by simp [adjTB, HQ.out], by simp [adjTC, HQ.out]⟩, OT.nil _ _ _, c2'.below B1.out (by omega) B1.out.size⟩
  | true =>
    have HQ := Lib.hid ht
    have HI := Lib.hid (isTab_of ht)
    go_wp2_with fail
    refine (im_adjoint _ _ A Bs (HT.out.below B1.out) HI.out).mono ?_
    rintro e w2 ⟨r, rfl, hot, hb2⟩
    obtain ⟨A3, c3, A4, c4, rfl⟩ := hot.open_
    rw [adjA_len, adjB_len] at hot ⊢
    have HO := Lib.hid hot
    have B2 := Lib.hid (B1.out.trans (hb2.mono B1.out.size))
    have X2 := Lib.hid (X1.out.below hb2 X1.out.lt)
    clear g0 g1 f0 f1 f2 f3 hot hb2
    have f0 : w2.cell? ⟨w.heap.size + 1, 0, none⟩ = some (.slice none 0 0) := X2.out.cell 0
    have f1 : w2.cell? ⟨w.heap.size + 1, 1, none⟩ = some (.slice none 0 0) := X2.out.cell 1
    have f2 := X2.out.frozen 0
    have f3 := X2.out.frozen 1
    go_wp2_with fail
    have c0 := Chg.refl (w.heap.size + 1) (w.heap.size + 1 + 1) w2
    have c1' := c0.setCell (p := ⟨w.heap.size + 1, 0, none⟩) (Nat.le_refl _) (by simp) (.slice A3 Bs.length c3)
    have c2' := c1'.setCell (p := ⟨w.heap.size + 1, 1, none⟩) (Nat.le_refl _) (by simp) (.slice A4 Bs.length c4)
    refine bodyPost_ret (v := .tuple #[.agg #[.slice A3 Bs.length c3, .slice A4 Bs.length c4], .int .i64 0]) (by simp [results, Try.results19, go_sem, f0, f1]) rfl ⟨_, _, _, _, rfl, ⟨by simp [adjTA, HQ.out], by simp [adjTB, HQ.out], by simp [adjTC, HQ.out]⟩, (HO.out.kept c2' (.inr HS1.out)).mono B1.out.size c2'.size, c2'.below B2.out (by omega) B2.out.size⟩

set_option maxRecDepth 100000 in
set_option maxHeartbeats 2000000 in
theorem s_AdjointTableau (w : World) (v : Value) (A : List (List Int)) (Bs : List Int) (ha : TabArg w v A Bs) :
    Calls Try.prog 20 #[v] w fun e w' => ∃ RA RB v' c, e = .returned (.tuple #[v', .int .i64 c]) ∧ IsAdj A Bs RA RB c ∧ OT w' w.heap.size w'.heap.size v' RA RB ∧ Below w.heap.size w w' := by
  have HT := Lib.hid ha
  obtain ⟨Aa, ca, Ab, cb, rfl⟩ := ha.open_
  have B0 := Lib.hid (below2 w (.cells #[.slice Aa A.length ca, .slice Ab Bs.length cb] 27) (.cells #[.slice none 0 0, .slice none 0 0] 27))
  have K0 := Lib.hid ((Blk.new w #[.slice Aa A.length ca, .slice Ab Bs.length cb] 27).alloc (.cells #[.slice none 0 0, .slice none 0 0] 27))
  have K1 := Lib.hid (Blk.new1 w (.cells #[.slice Aa A.length ca, .slice Ab Bs.length cb] 27) #[.slice none 0 0, .slice none 0 0] 27)
  clear ha
  go_enter Try.func20, Try.ntmps20
  go_wp2_with fail
  refine (s_l09Is _ _ _ _ (HT.out.below B0.out)).mono ?_
  rintro e w1 ⟨rfl, hb1⟩
  have B1 := Lib.hid (B0.out.trans (hb1.mono B0.out.size))
  have X0 := Lib.hid (K0.out.below hb1 K0.out.lt)
  have X1 := Lib.hid (K1.out.below hb1 K1.out.lt)
  have hs1 := hb1.size
  simp only [size_alloc'] at hs1
  have HS1 := Lib.hid hs1
  have g0 : w1.cell? ⟨w.heap.size, 0, none⟩ = some (.slice Aa A.length ca) := X0.out.cell 0
  have g1 : w1.cell? ⟨w.heap.size, 1, none⟩ = some (.slice Ab Bs.length cb) := X0.out.cell 1
  have f0 : w1.cell? ⟨w.heap.size + 1, 0, none⟩ = some (.slice none 0 0) := X1.out.cell 0
  have f1 : w1.cell? ⟨w.heap.size + 1, 1, none⟩ = some (.slice none 0 0) := X1.out.cell 1
  have f2 := X1.out.frozen 0
  have f3 := X1.out.frozen 1
  clear hb1 K0 K1 hs1
  cases ht : tabB A Bs with
  | false =>
    have HQ := Lib.hid ht
    go_wp2_with fail
    have c0 := Chg.refl (w.heap.size + 1) (w.heap.size + 1 + 1) w1
    have c1' := c0.setCell (p := ⟨w.heap.size + 1, 0, none⟩) (Nat.le_refl _) (by simp) (.slice none 0 0)
    have c2' := c1'.setCell (p := ⟨w.heap.size + 1, 1, none⟩) (Nat.le_refl _) (by simp) (.slice none 0 0)
    refine bodyPost_ret (v := .tuple #[.agg #[.slice none 0 0, .slice none 0 0], .int .i64 1]) (by simp [results, Try.results20, go_sem, f0, f1]) rfl ⟨[], [], _, _, rfl, ⟨by simp [adjTA, HQ.out], by simp [adjTB, HQ.out], by simp [adjTC, HQ.out]⟩, OT.nil _ _ _, c2'.below B1.out (by omega) B1.out.size⟩
  | true =>
    have HQ := Lib.hid ht
    have HI := Lib.hid (isTab_of ht)
    have hhi := HI.out.hi
    clear f0 f1 f2 f3
    go_wp2_with fail
    go_region_held3 (fun w' => w'.cell? ⟨w.heap.size, 0, none⟩ = some (.slice Aa A.length ca) ∧ w'.cell? ⟨w.heap.size, 1, none⟩ = some (.slice Ab Bs.length cb)) ((go_split_ands; refine ⟨?_, ?_⟩ <;> (first
        | (rw [hb8.cell (by have h1 := X0.out.lt; have h5 := hb5.size; have h6 := hb6.size; have h7 := hb7.size; simp at h5 h6 h7 ⊢; omega)]; assumption)
        | (rw [hb7.cell (by have h1 := X0.out.lt; have h5 := hb5.size; have h6 := hb6.size; simp at h5 h6 ⊢; omega)]; assumption)
        | (rw [hb6.cell (by have h1 := X0.out.lt; have h5 := hb5.size; simp at h5 ⊢; omega)]; assumption)
        | (rw [hb5.cell (by have h1 := X0.out.lt; simp; omega)]; assumption)
        | go_keep)))
      (first
        | (go_at_call 76; refine (s_l10Inverse _ _ A Bs (by exact HT.out.below B1.out.drew) HI.out.numTab (fun zs hz => by rw [(HI.out.row zs hz).1]; omega)).mono ?_; rintro e w5 ⟨v5, rfl, ho5, hb5⟩; obtain ⟨A5, c5, A5b, c5b, rfl⟩ := ho5.open_; rw [List.length_map, scl_len] at ho5 ⊢)
        | (go_at_call 69; refine (s_l10Scale _ _ _ _ 10006 (by exact ho5.arg) (inv_numTab HI.out) (by omega) (by omega)).mono ?_; rintro e w6 ⟨v6, rfl, ho6, hb6⟩; obtain ⟨A6, c6, A6b, c6b, rfl⟩ := ho6.open_; simp only [List.length_map, scl_len] at ho6 ⊢)
        | (go_at_call 77; refine (s_l10Backwards _ Bs.length (by omega)).mono ?_; rintro e w7 ⟨v7, rfl, ho7, hb7⟩; obtain ⟨A7, c7, hv7, -, -, -⟩ := ho7.ints.open_; rw [downTo_len] at hv7; subst hv7)
        | (go_at_call 75; refine (s_l10Permute _ _ _ (adjM A Bs) (adjW Bs) (dn Bs.length) (by exact ho6.arg.below hb7) (by rw [← dn_casts]; exact ho7.ints) (by rw [dn_len]; omega) (fun a h => by have := dn_lt h; have := HI.out.len; rw [adjM_len, adjW_len]; omega) (adjM_row HI.out)).mono ?_; rintro e w8 ⟨v8, rfl, ho8, hb8⟩; obtain ⟨A8, c8, A8b, c8b, rfl⟩ := (show OT w8 _ _ v8 (adjA A Bs) (adjB Bs) from ho8).open_; rw [adjA_len, adjB_len]; have X8 := X1.out.below ((((below_of_drew hb5).trans (hb6.mono hb5.size)).trans (hb7.mono (Nat.le_trans hb5.size hb6.size))).trans (hb8.mono (Nat.le_trans (Nat.le_trans hb5.size hb6.size) hb7.size))) X1.out.lt; have f0 : w8.cell? ⟨w.heap.size + 1, 0, none⟩ = some (.slice none 0 0) := X8.cell 0; have f1 : w8.cell? ⟨w.heap.size + 1, 1, none⟩ = some (.slice none 0 0) := X8.cell 1; have f2 := X8.frozen 0; have f3 := X8.frozen 1))
    go_wp2_with fail
    have ho8' : OT w8 w7.heap.size w8.heap.size _ (adjA A Bs) (adjB Bs) := ho8
    have B8 : Below w.heap.size w w8 := B1.out.trans (((((below_of_drew hb5).trans (hb6.mono hb5.size)).trans (hb7.mono (Nat.le_trans hb5.size hb6.size))).trans (hb8.mono (Nat.le_trans (Nat.le_trans hb5.size hb6.size) hb7.size))).mono B1.out.size)
    have hsz : w.heap.size + 1 + 1 ≤ w7.heap.size := Nat.le_trans HS1.out (Nat.le_trans (Nat.le_trans hb5.size hb6.size) hb7.size)
    have c0 := Chg.refl (w.heap.size + 1) (w.heap.size + 1 + 1) w8
    have c1' := c0.setCell (p := ⟨w.heap.size + 1, 0, none⟩) (Nat.le_refl _) (by simp) (.slice A8 Bs.length c8)
    have c2' := c1'.setCell (p := ⟨w.heap.size + 1, 1, none⟩) (Nat.le_refl _) (by simp) (.slice A8b Bs.length c8b)
    refine bodyPost_ret (v := .tuple #[.agg #[.slice A8 Bs.length c8, .slice A8b Bs.length c8b], .int .i64 0]) (by simp [results, Try.results20, go_sem, f0, f1]) rfl ⟨adjA A Bs, adjB Bs, _, _, rfl, ⟨by simp [adjTA, HQ.out], by simp [adjTB, HQ.out], by simp [adjTC, HQ.out]⟩, ?_, c2'.below B8 (by omega) B8.size⟩
    have h9 := (ho8'.kept c2' (.inr hsz)).mono (B' := w.heap.size) (by omega) c2'.size
    rw [adjA_len, adjB_len] at h9
    exact h9
end Go.Proofs.Ytbjeibcombjfgaa

set_option linter.unusedVariables false
set_option linter.unusedSimpArgs false
namespace Go.Proofs.Ytbjeibcombjfgaa
open Go.RowKit

def invTA (A : List (List Int)) (Bs : List Int) : List (List Int) := if tabB A Bs then A.map (fun r => addk 10006 r Bs) else []
def invTB (A : List (List Int)) (Bs : List Int) : List Int := if tabB A Bs then scl 10006 Bs else []
def IsInv (A : List (List Int)) (Bs : List Int) (RA : List (List Int)) (RB : List Int) (c : Int) : Prop := RA = invTA A Bs ∧ RB = invTB A Bs ∧ c = tabC A Bs
set_option maxRecDepth 100000 in
set_option maxHeartbeats 2000000 in
theorem i_InverseTableau (w : World) (v : Value) (A : List (List Int)) (Bs : List Int) (ha : TabArg w v A Bs) :
    Calls Try.prog 21 #[v] w fun e w' => ∃ RA RB v' c, e = .returned (.tuple #[v', .int .i64 c]) ∧ IsInv A Bs RA RB c ∧ OT w' w.heap.size w'.heap.size v' RA RB ∧ Below w.heap.size w w' := by
  have HT := Lib.hid ha
  obtain ⟨Aa, ca, Ab, cb, rfl⟩ := ha.open_
  have B0 := Lib.hid (below2 w (.cells #[.slice Aa A.length ca, .slice Ab Bs.length cb] 27) (.cells #[.slice none 0 0, .slice none 0 0] 27))
  have K0 := Lib.hid ((Blk.new w #[.slice Aa A.length ca, .slice Ab Bs.length cb] 27).alloc (.cells #[.slice none 0 0, .slice none 0 0] 27))
  have K1 := Lib.hid (Blk.new1 w (.cells #[.slice Aa A.length ca, .slice Ab Bs.length cb] 27) #[.slice none 0 0, .slice none 0 0] 27)
  clear ha
  go_enter Try.func21, Try.ntmps21
  go_wp2_with fail
  refine (i_IsTableau _ _ _ _ (HT.out.below B0.out)).mono ?_
  rintro e w1 ⟨rfl, hb1⟩
  have B1 := Lib.hid (B0.out.trans (hb1.mono B0.out.size))
  have X0 := Lib.hid (K0.out.below hb1 K0.out.lt)
  have X1 := Lib.hid (K1.out.below hb1 K1.out.lt)
  have hs1 := hb1.size
  simp only [size_alloc'] at hs1
  have HS1 := Lib.hid hs1
  have g0 : w1.cell? ⟨w.heap.size, 0, none⟩ = some (.slice Aa A.length ca) := X0.out.cell 0
  have g1 : w1.cell? ⟨w.heap.size, 1, none⟩ = some (.slice Ab Bs.length cb) := X0.out.cell 1
  have f0 : w1.cell? ⟨w.heap.size + 1, 0, none⟩ = some (.slice none 0 0) := X1.out.cell 0
  have f1 : w1.cell? ⟨w.heap.size + 1, 1, none⟩ = some (.slice none 0 0) := X1.out.cell 1
  have f2 := X1.out.frozen 0
  have f3 := X1.out.frozen 1
  clear hb1 K0 K1 hs1
  cases ht : tabB A Bs with
  | false =>
    have HQ := Lib.hid ht
    go_wp2_with fail
    have c0 := Chg.refl (w.heap.size + 1) (w.heap.size + 1 + 1) w1
    have c1' := c0.setCell (p := ⟨w.heap.size + 1, 0, none⟩) (Nat.le_refl _) (by simp) (.slice none 0 0)
    have c2' := c1'.setCell (p := ⟨w.heap.size + 1, 1, none⟩) (Nat.le_refl _) (by simp) (.slice none 0 0)
    refine bodyPost_ret (v := .tuple #[.agg #[.slice none 0 0, .slice none 0 0], .int .i64 1]) (by simp [results, Try.results21, go_sem, f0, f1]) rfl ⟨[], [], _, _, rfl, ⟨by simp [invTA, HQ.out], by simp [invTB, HQ.out], by simp [tabC, HQ.out]⟩, OT.nil _ _ _, c2'.below B1.out (by omega) B1.out.size⟩
  | true =>
    have HQ := Lib.hid ht
    have HI := Lib.hid (isTab_of ht)
    go_wp2_with fail
    refine (im_inverse _ _ A Bs (HT.out.below B1.out) HI.out.numTab (fun zs hz => Nat.le_of_eq (HI.out.row zs hz).1)).mono ?_
    rintro e w2 ⟨r, rfl, hot, hb2⟩
    obtain ⟨A3, c3, A4, c4, rfl⟩ := hot.open_
    rw [List.length_map, scl_len, HI.out.len] at hot ⊢
    have HO := Lib.hid hot
    have B2 := Lib.hid (B1.out.trans (hb2.mono B1.out.size))
    have X2 := Lib.hid (X1.out.below hb2 X1.out.lt)
    clear g0 g1 f0 f1 f2 f3 hot hb2
    have f0 : w2.cell? ⟨w.heap.size + 1, 0, none⟩ = some (.slice none 0 0) := X2.out.cell 0
    have f1 : w2.cell? ⟨w.heap.size + 1, 1, none⟩ = some (.slice none 0 0) := X2.out.cell 1
    have f2 := X2.out.frozen 0
    have f3 := X2.out.frozen 1
    go_wp2_with fail
    have c0 := Chg.refl (w.heap.size + 1) (w.heap.size + 1 + 1) w2
    have c1' := c0.setCell (p := ⟨w.heap.size + 1, 0, none⟩) (Nat.le_refl _) (by simp) (.slice A3 Bs.length c3)
    have c2' := c1'.setCell (p := ⟨w.heap.size + 1, 1, none⟩) (Nat.le_refl _) (by simp) (.slice A4 Bs.length c4)
    refine bodyPost_ret (v := .tuple #[.agg #[.slice A3 Bs.length c3, .slice A4 Bs.length c4], .int .i64 0]) (by simp [results, Try.results21, go_sem, f0, f1]) rfl ⟨_, _, _, _, rfl, ⟨by simp [invTA, HQ.out], by simp [invTB, HQ.out], by simp [tabC, HQ.out]⟩, (HO.out.kept c2' (.inr HS1.out)).mono B1.out.size c2'.size, c2'.below B2.out (by omega) B2.out.size⟩
end Go.Proofs.Ytbjeibcombjfgaa

set_option maxRecDepth 100000
set_option linter.unusedVariables false
set_option linter.unusedSimpArgs false
namespace Go.Proofs.Ytbjeibcombjfgaa
open Go.RowKit

def cmpC (A1 : List (List Int)) (B1 : List Int) (A2 : List (List Int)) (B2 : List Int) : Int := if tabB A1 B1 then (if tabB A2 B2 then (if B1.length + B2.length ≤ 8 then 0 else 3) else 1) else 1
def IsCmp (A1 : List (List Int)) (B1 : List Int) (A2 : List (List Int)) (B2 : List Int) (RA : List (List Int)) (RB : List Int) (c : Int) : Prop := c = cmpC A1 B1 A2 B2 ∧ (c = 0 → RA = compA A1 B1 A2 B2 ∧ RB = B1 ++ B2) ∧ (c ≠ 0 → RA = [] ∧ RB = [])
set_option maxHeartbeats 8000000 in
theorem i_ComposeTableaus (w : World) (v v' : Value) (A1 : List (List Int)) (B1 : List Int) (A2 : List (List Int)) (B2 : List Int) (ha : TabArg w v A1 B1) (hb : TabArg w v' A2 B2) :
    Calls Try.prog 22 #[v, v'] w fun e w' => ∃ RA RB r c, e = .returned (.tuple #[r, .int .i64 c]) ∧ IsCmp A1 B1 A2 B2 RA RB c ∧ OT w' w.heap.size w'.heap.size r RA RB ∧ Below w.heap.size w w' := by
  obtain ⟨A1a, c1, B1a, d1, rfl⟩ := ha.open_
  obtain ⟨A2a, c2, B2a, d2, rfl⟩ := hb.open_
  obtain ⟨W, hW⟩ : ∃ W, W = ((w.alloc (.cells #[.slice A1a A1.length c1, .slice B1a B1.length d1] 27)).alloc (.cells #[.slice A2a A2.length c2, .slice B2a B2.length d2] 27)).alloc (.cells #[.slice none 0 0, .slice none 0 0] 27) := ⟨_, rfl⟩
  have hb0 : Below w.heap.size w W := by rw [hW]; exact below3 w _ _ _
  have B0 := Lib.hid hb0
  have HSW := Lib.hid (show W.heap.size = w.heap.size + 1 + 1 + 1 from by rw [hW]; simp)
  have K0 := Lib.hid (show Blk W w.heap.size 27 #[.slice A1a A1.length c1, .slice B1a B1.length d1] from by rw [hW]; exact ((Blk.new w #[.slice A1a A1.length c1, .slice B1a B1.length d1] 27).alloc _).alloc _)
  have K1 := Lib.hid (show Blk W (w.heap.size + 1) 27 #[.slice A2a A2.length c2, .slice B2a B2.length d2] from by rw [hW]; exact (Blk.new1 w _ #[.slice A2a A2.length c2, .slice B2a B2.length d2] 27).alloc _)
  have K2 := Lib.hid (show Blk W (w.heap.size + 1 + 1) 27 #[.slice none 0 0, .slice none 0 0] from by rw [hW]; exact Blk.new2 w _ _ #[.slice none 0 0, .slice none 0 0] 27)
  have HA := Lib.hid (ha.below hb0)
  have HB := Lib.hid (hb.below hb0)
  have HI1 := Lib.hid (i_IsTableau W _ _ _ HA.out)
  have HI2 := Lib.hid (fun Y (hY : Below W.heap.size W Y) => i_IsTableau Y _ _ _ (HB.out.below hY))
  clear ha hb hb0
  have g0 : W.cell? ⟨w.heap.size, 0, none⟩ = some (.slice A1a A1.length c1) := K0.out.cell 0
  have g1 : W.cell? ⟨w.heap.size, 1, none⟩ = some (.slice B1a B1.length d1) := K0.out.cell 1
  go_enter Try.func22, Try.ntmps22
  go_upto_region 1 with fail
  rw [← hW]
  clear hW
  cases ht1 : tabB A1 B1 with
  | false =>
    have HIC := Lib.hid (show IsCmp A1 B1 A2 B2 [] [] 1 from ⟨by simp [cmpC, ht1], fun h => absurd h (by decide), fun _ => ⟨rfl, rfl⟩⟩)
    rw [ht1] at HI1
    clear ht1
    go_upto_region 2 with (go_at_call 61; (with_reducible refine HI1.out.mono ?_); go_loud (rintro e w1 ⟨rfl, hb1⟩; have HB1 := Lib.hid hb1; clear hb1))
    have HBW := Lib.hid (B0.out.trans (HB1.out.mono B0.out.size))
    have Z := K2.out.below HB1.out K2.out.lt
    have f0 : w1.cell? ⟨w.heap.size + 1 + 1, 0, none⟩ = some (.slice none 0 0) := Z.cell 0
    have f1 : w1.cell? ⟨w.heap.size + 1 + 1, 1, none⟩ = some (.slice none 0 0) := Z.cell 1
    have f2 := Z.frozen 0
    have f3 := Z.frozen 1
    go_wp2_with fail
    have c0 := Chg.refl (w.heap.size + 1 + 1) (w.heap.size + 1 + 1 + 1) w1
    have c1' := c0.setCell (p := ⟨w.heap.size + 1 + 1, 0, none⟩) (Nat.le_refl _) (by simp) (.slice none 0 0)
    have c2' := c1'.setCell (p := ⟨w.heap.size + 1 + 1, 1, none⟩) (Nat.le_refl _) (by simp) (.slice none 0 0)
    refine bodyPost_ret (v := .tuple #[.agg #[.slice none 0 0, .slice none 0 0], .int .i64 1]) (by simp [results, Try.results22, go_sem, f0, f1]) rfl ⟨_, _, _, _, rfl, HIC.out, OT.nil _ _ _, c2'.below HBW.out (by omega) HBW.out.size⟩
  | true =>
    have HT1 := Lib.hid ht1
    rw [ht1] at HI1
    clear ht1
    cases ht2 : tabB A2 B2 with
    | false =>
      have HIC := Lib.hid (show IsCmp A1 B1 A2 B2 [] [] 1 from ⟨by simp [cmpC, ht2], fun h => absurd h (by decide), fun _ => ⟨rfl, rfl⟩⟩)
      simp only [ht2] at HI2
      clear ht2
      go_upto_region 2 with (first
        | (go_at_call 61; (with_reducible refine HI1.out.mono ?_); go_loud (rintro e w1 ⟨rfl, hb1⟩; have HB1 := Lib.hid hb1; have g2 : w1.cell? ⟨w.heap.size + 1, 0, none⟩ = some (.slice A2a A2.length c2) := (K1.out.below hb1 K1.out.lt).cell 0; have g3 : w1.cell? ⟨w.heap.size + 1, 1, none⟩ = some (.slice B2a B2.length d2) := (K1.out.below hb1 K1.out.lt).cell 1; clear hb1))
        | (go_at_call 61; (with_reducible refine (HI2.out _ HB1.out).mono ?_); go_loud (rintro e w2 ⟨rfl, hb2⟩; have HB2 := Lib.hid (HB1.out.trans (hb2.mono HB1.out.size)); clear hb2)))
      have HBW := Lib.hid (B0.out.trans (HB2.out.mono B0.out.size))
      have Z := K2.out.below HB2.out K2.out.lt
      have f0 : w2.cell? ⟨w.heap.size + 1 + 1, 0, none⟩ = some (.slice none 0 0) := Z.cell 0
      have f1 : w2.cell? ⟨w.heap.size + 1 + 1, 1, none⟩ = some (.slice none 0 0) := Z.cell 1
      have f2 := Z.frozen 0
      have f3 := Z.frozen 1
      go_wp2_with fail
      have c0 := Chg.refl (w.heap.size + 1 + 1) (w.heap.size + 1 + 1 + 1) w2
      have c1' := c0.setCell (p := ⟨w.heap.size + 1 + 1, 0, none⟩) (Nat.le_refl _) (by simp) (.slice none 0 0)
      have c2' := c1'.setCell (p := ⟨w.heap.size + 1 + 1, 1, none⟩) (Nat.le_refl _) (by simp) (.slice none 0 0)
      refine bodyPost_ret (v := .tuple #[.agg #[.slice none 0 0, .slice none 0 0], .int .i64 1]) (by simp [results, Try.results22, go_sem, f0, f1]) rfl ⟨_, _, _, _, rfl, HIC.out, OT.nil _ _ _, c2'.below HBW.out (by omega) HBW.out.size⟩
    | true =>
      have HT2 := Lib.hid ht2
      simp only [ht2] at HI2
      clear ht2
      go_upto_region 3 with (first
        | (go_at_call 61; (with_reducible refine HI1.out.mono ?_); go_loud (rintro e w1 ⟨rfl, hb1⟩; have HB1 := Lib.hid hb1; have g2 : w1.cell? ⟨w.heap.size + 1, 0, none⟩ = some (.slice A2a A2.length c2) := (K1.out.below hb1 K1.out.lt).cell 0; have g3 : w1.cell? ⟨w.heap.size + 1, 1, none⟩ = some (.slice B2a B2.length d2) := (K1.out.below hb1 K1.out.lt).cell 1; clear hb1))
        | (go_at_call 61; (with_reducible refine (HI2.out _ HB1.out).mono ?_); go_loud (rintro e w2 ⟨rfl, hb2⟩; have HB2 := Lib.hid (HB1.out.trans (hb2.mono HB1.out.size)); clear hb2)))
      have HS1 := Lib.hid (show ∀ Y, Below w2.heap.size w2 Y → Calls Try.prog 63 #[.agg #[.slice A1a A1.length c1, .slice B1a B1.length d1]] Y (fun e w' => e = .returned (.int .i64 B1.length) ∧ Below w2.heap.size w2 w') from fun Y hY => (im_stages Y _ _ _ ((HA.out.below HB2.out).below hY)).mono (by rintro e w5 ⟨rfl, hb5⟩; exact ⟨rfl, hY.trans (hb5.mono hY.size)⟩))
      have HS2 := Lib.hid (show ∀ Y, Below w2.heap.size w2 Y → Calls Try.prog 63 #[.agg #[.slice A2a A2.length c2, .slice B2a B2.length d2]] Y (fun e w' => e = .returned (.int .i64 B2.length) ∧ Below w2.heap.size w2 w') from fun Y hY => (im_stages Y _ _ _ ((HB.out.below HB2.out).below hY)).mono (by rintro e w5 ⟨rfl, hb5⟩; exact ⟨rfl, hY.trans (hb5.mono hY.size)⟩))
      have L0 := Lib.hid (K0.out.below HB2.out K0.out.lt)
      have L1 := Lib.hid (K1.out.below HB2.out K1.out.lt)
      have HM := Lib.hid (show ∀ Y, Below w2.heap.size w2 Y → (Y.cell? ⟨w.heap.size, 0, none⟩ = some (.slice A1a A1.length c1) ∧ Y.cell? ⟨w.heap.size, 1, none⟩ = some (.slice B1a B1.length d1)) ∧ Y.cell? ⟨w.heap.size + 1, 0, none⟩ = some (.slice A2a A2.length c2) ∧ Y.cell? ⟨w.heap.size + 1, 1, none⟩ = some (.slice B2a B2.length d2) from fun Y hY => ⟨⟨(L0.out.below hY L0.out.lt).cell 0, (L0.out.below hY L0.out.lt).cell 1⟩, (L1.out.below hY L1.out.lt).cell 0, (L1.out.below hY L1.out.lt).cell 1⟩)
      obtain ⟨⟨a1, a2⟩, a3, a4⟩ := HM.out w2 (Below.refl _ _)
      have hz1 := (isTab_of HT1.out).hi
      have hz2 := (isTab_of HT2.out).hi
      clear g0 g1 g2 g3
      go_cut [16] (fun v wx => v = .bool (decide (8 < B1.length + B2.length)) ∧ Below w2.heap.size w2 wx)
      case first =>
        by_cases hle : 8 < B1.length + B2.length
        · have hli : (8 : Int) < (B1.length : Int) + (B2.length : Int) := by omega
          have hd : decide (8 < B1.length + B2.length) = true := decide_eq_true hle
          have hw : IntKind.i64.wrap ((B1.length : Int) + (B2.length : Int)) = (B1.length : Int) + (B2.length : Int) := IntWalk.i64_in _ (by omega)
          go_region_law (first
            | (go_simp; go_at_call 63; (with_reducible refine ((HS1.out _ ?_).mono ?_)); (first | exact HB5.out | exact HB5.out.drew | exact Below.refl _ _ | exact (Below.refl _ _).drew); go_loud (rintro e w5 ⟨rfl, hb5⟩; obtain ⟨⟨m1, m2⟩, m3, m4⟩ := HM.out w5 hb5; have HB5 := Lib.hid hb5; clear hb5))
            | (go_simp; go_at_call 63; (with_reducible refine ((HS2.out _ ?_).mono ?_)); (first | exact HB5.out | exact HB5.out.drew | exact Below.refl _ _ | exact (Below.refl _ _).drew); go_loud (rintro e w5 ⟨rfl, hb5⟩; obtain ⟨⟨m1, m2⟩, m3, m4⟩ := HM.out w5 hb5; have HB5 := Lib.hid hb5; clear hb5)))
          all_goals
            go_wp2_with fail
            go_meet
            exact ⟨by rw [hd], HB5.out⟩
        · have hli : ¬ (8 : Int) < (B1.length : Int) + (B2.length : Int) := by omega
          have hd : decide (8 < B1.length + B2.length) = false := decide_eq_false hle
          have hw : IntKind.i64.wrap ((B1.length : Int) + (B2.length : Int)) = (B1.length : Int) + (B2.length : Int) := IntWalk.i64_in _ (by omega)
          go_region_law (first
            | (go_simp; go_at_call 63; (with_reducible refine ((HS1.out _ ?_).mono ?_)); (first | exact HB5.out | exact HB5.out.drew | exact Below.refl _ _ | exact (Below.refl _ _).drew); go_loud (rintro e w5 ⟨rfl, hb5⟩; obtain ⟨⟨m1, m2⟩, m3, m4⟩ := HM.out w5 hb5; have HB5 := Lib.hid hb5; clear hb5))
            | (go_simp; go_at_call 63; (with_reducible refine ((HS2.out _ ?_).mono ?_)); (first | exact HB5.out | exact HB5.out.drew | exact Below.refl _ _ | exact (Below.refl _ _).drew); go_loud (rintro e w5 ⟨rfl, hb5⟩; obtain ⟨⟨m1, m2⟩, m3, m4⟩ := HM.out w5 hb5; have HB5 := Lib.hid hb5; clear hb5)))
          all_goals
            go_wp2_with fail
            go_meet
            exact ⟨by rw [hd], HB5.out⟩
      case rest =>
        obtain ⟨rfl, hb6⟩ := hcut
        rename World => w6
        have HB6 := Lib.hid (HB2.out.trans (hb6.mono HB2.out.size))
        obtain ⟨⟨a1, a2⟩, a3, a4⟩ := HM.out w6 hb6
        clear hb6
        have HBW := Lib.hid (B0.out.trans (HB6.out.mono B0.out.size))
        by_cases hle : 8 < B1.length + B2.length
        · have hd : decide (8 < B1.length + B2.length) = true := decide_eq_true hle
          have HIC := Lib.hid (show IsCmp A1 B1 A2 B2 [] [] 3 from ⟨by simp [cmpC, HT1.out, HT2.out]; omega, fun h => absurd h (by decide), fun _ => ⟨rfl, rfl⟩⟩)
          rw [hd]
          go_upto_region 4 with fail
          have Z := K2.out.below HB6.out K2.out.lt
          have f0 : w6.cell? ⟨w.heap.size + 1 + 1, 0, none⟩ = some (.slice none 0 0) := Z.cell 0
          have f1 : w6.cell? ⟨w.heap.size + 1 + 1, 1, none⟩ = some (.slice none 0 0) := Z.cell 1
          have f2 := Z.frozen 0
          have f3 := Z.frozen 1
          go_wp2_with fail
          have c0 := Chg.refl (w.heap.size + 1 + 1) (w.heap.size + 1 + 1 + 1) w6
          have c1' := c0.setCell (p := ⟨w.heap.size + 1 + 1, 0, none⟩) (Nat.le_refl _) (by simp) (.slice none 0 0)
          have c2' := c1'.setCell (p := ⟨w.heap.size + 1 + 1, 1, none⟩) (Nat.le_refl _) (by simp) (.slice none 0 0)
          refine bodyPost_ret (v := .tuple #[.agg #[.slice none 0 0, .slice none 0 0], .int .i64 3]) (by simp [results, Try.results22, go_sem, f0, f1]) rfl ⟨_, _, _, _, rfl, HIC.out, OT.nil _ _ _, c2'.below HBW.out (by omega) HBW.out.size⟩
        · have hd : decide (8 < B1.length + B2.length) = false := decide_eq_false hle
          have HIC := Lib.hid (show IsCmp A1 B1 A2 B2 (compA A1 B1 A2 B2) (B1 ++ B2) 0 from ⟨by simp [cmpC, HT1.out, HT2.out]; omega, fun _ => ⟨rfl, rfl⟩, fun h => absurd rfl h⟩)
          rw [hd]
          have HCO := Lib.hid (im_composed w6 _ _ A1 A2 B1 B2 (HA.out.below HB6.out) (HB.out.below HB6.out) (isTab_of HT1.out).numTab (isTab_of HT2.out).numTab)
          go_wp2_with (go_at_call 66; go_loud (refine HCO.out.mono ?_; rintro e w7 ⟨r7, rfl, ho, hb7⟩; obtain ⟨A7, c7, B7, d7, rfl⟩ := ho.open_; rw [List.length_append] at ho; have HO := Lib.hid ho; have HB7 := Lib.hid (HB6.out.trans (hb7.mono HB6.out.size)); have f0 : w7.cell? ⟨w.heap.size + 1 + 1, 0, none⟩ = some (.slice none 0 0) := (K2.out.below HB7.out K2.out.lt).cell 0; have f1 : w7.cell? ⟨w.heap.size + 1 + 1, 1, none⟩ = some (.slice none 0 0) := (K2.out.below HB7.out K2.out.lt).cell 1; have f2 := (K2.out.below HB7.out K2.out.lt).frozen 0; have f3 := (K2.out.below HB7.out K2.out.lt).frozen 1; clear ho hb7))
          have HOI := Lib.hid HO.out
          have hsz := HB6.out.size
          have hsw := HSW.out
          have c0 := Chg.refl (w.heap.size + 1 + 1) (w.heap.size + 1 + 1 + 1) w7
          have c1' := c0.setCell (p := ⟨w.heap.size + 1 + 1, 0, none⟩) (Nat.le_refl _) (by simp) (.slice A7 (compA A1 B1 A2 B2).length c7)
          have c2' := c1'.setCell (p := ⟨w.heap.size + 1 + 1, 1, none⟩) (Nat.le_refl _) (by simp) (.slice B7 (B1.length + B2.length) d7)
          have HBV := B0.out.trans (HB7.out.mono B0.out.size)
          refine bodyPost_ret (v := .tuple #[.agg #[.slice A7 (compA A1 B1 A2 B2).length c7, .slice B7 (B1.length + B2.length) d7], .int .i64 0]) (by simp [results, Try.results22, go_sem, f0, f1]) rfl ⟨_, _, _, _, rfl, HIC.out, (HO.out.kept c2' (.inr (by omega))).mono (by omega) c2'.size, c2'.below HBV (by omega) HBV.size⟩
end Go.Proofs.Ytbjeibcombjfgaa

set_option linter.unusedVariables false
set_option linter.unusedSimpArgs false
namespace Go.Proofs.Ytbjeibcombjfgaa
open Go.RowKit

theorem adjA_ad (A : List (List Int)) (Bs : List Int) : adjA A Bs = adA A Bs := rfl
theorem adjB_ad (Bs : List Int) : adjB Bs = adB Bs := rfl
theorem adj_ok {A : List (List Int)} {Bs : List Int} (h : tabB A Bs = true) :
    tabB (adA A Bs) (adB Bs) = true ∧ adA (adA A Bs) (adB Bs) = A ∧ adB (adB Bs) = Bs ∧ tabB (invT A Bs) (scl 10006 Bs) = true ∧ invT (invT A Bs) (scl 10006 Bs) = A ∧ scl 10006 (scl 10006 Bs) = Bs ∧ ordR (adA A Bs) (adB Bs) = ordR A Bs ∧ (adB Bs).length = Bs.length := by
  have hI := isTab_of h
  have hS := SqT.of hI
  have t1 := tabB_sq hS.ad hI.lo hI.hi
  obtain ⟨a1, a2⟩ := ad_ad hS
  obtain ⟨b1, b2⟩ := inv_inv hS
  refine ⟨t1, a1, a2, tabB_sq hS.inv hI.lo hI.hi, b1, b2, ?_, hS.ad.lb⟩
  unfold ordR
  rw [if_pos h, if_pos t1]
  exact ad_order hS
/-- the adjoint: what IsAdj says of a tableau -/
theorem isAdj_ok {A RA : List (List Int)} {Bs RB : List Int} {c : Int} (h : tabB A Bs = true) (hr : IsAdj A Bs RA RB c) : RA = adA A Bs ∧ RB = adB Bs ∧ c = 0 := by
  obtain ⟨rfl, rfl, rfl⟩ := hr
  exact ⟨by simp [adjTA, h, adjA_ad], by simp [adjTB, h, adjB_ad], by simp [adjTC, h]⟩
theorem isAdj_no {A RA : List (List Int)} {Bs RB : List Int} {c : Int} (h : tabB A Bs = false) (hr : IsAdj A Bs RA RB c) : RA = [] ∧ RB = [] ∧ c = 1 := by
  obtain ⟨rfl, rfl, rfl⟩ := hr
  exact ⟨by simp [adjTA, h], by simp [adjTB, h], by simp [adjTC, h]⟩
theorem isInv_ok {A RA : List (List Int)} {Bs RB : List Int} {c : Int} (h : tabB A Bs = true) (hr : IsInv A Bs RA RB c) : RA = invT A Bs ∧ RB = scl 10006 Bs ∧ c = 0 := by
  obtain ⟨rfl, rfl, rfl⟩ := hr
  exact ⟨by simp [invTA, h]; rfl, by simp [invTB, h], by simp [tabC, h]⟩
/-- the adjoint of a composition -/
theorem adj_cmp {A1 A2 : List (List Int)} {B1 B2 : List Int} (h1 : tabB A1 B1 = true) (h2 : tabB A2 B2 = true) (hl : B1.length + B2.length ≤ 8) :
    tabB (compA A1 B1 A2 B2) (B1 ++ B2) = true ∧ adA (compA A1 B1 A2 B2) (B1 ++ B2) = compA (adA A2 B2) (adB B2) (adA A1 B1) (adB B1) ∧ adB (B1 ++ B2) = adB B2 ++ adB B1 := by
  have hI1 := isTab_of h1
  have hI2 := isTab_of h2
  have hS1 := SqT.of hI1
  have hS2 := SqT.of hI2
  have hc := hS1.cmp hS2
  obtain ⟨a1, a2⟩ := ad_cmp hS1 hS2
  exact ⟨tabB_sq hc (by have := hI1.lo; omega) hl, a1, a2⟩
theorem isCmp_ok {A1 A2 RA : List (List Int)} {B1 B2 RB : List Int} {c : Int} (h1 : tabB A1 B1 = true) (h2 : tabB A2 B2 = true) (hl : B1.length + B2.length ≤ 8) (hr : IsCmp A1 B1 A2 B2 RA RB c) : RA = compA A1 B1 A2 B2 ∧ RB = B1 ++ B2 ∧ c = 0 := by
  obtain ⟨hc, r1, -⟩ := hr
  have h0 : c = 0 := by rw [hc]; simp [cmpC, h1, h2, hl]
  exact ⟨(r1 h0).1, (r1 h0).2, h0⟩
theorem isCmp_far {A1 A2 RA : List (List Int)} {B1 B2 RB : List Int} {c : Int} (h1 : tabB A1 B1 = true) (h2 : tabB A2 B2 = true) (hl : ¬ B1.length + B2.length ≤ 8) (hr : IsCmp A1 B1 A2 B2 RA RB c) : RA = [] ∧ RB = [] ∧ c = 3 := by
  obtain ⟨hc, -, r2⟩ := hr
  have h0 : c = 3 := by rw [hc]; simp [cmpC, h1, h2, hl]
  exact ⟨(r2 (by omega)).1, (r2 (by omega)).2, h0⟩
theorem isCmp_no {A1 A2 RA : List (List Int)} {B1 B2 RB : List Int} {c : Int} (h2 : tabB A2 B2 = false) (hr : IsCmp A1 B1 A2 B2 RA RB c) : RA = [] ∧ RB = [] ∧ c = 1 := by
  obtain ⟨hc, -, r2⟩ := hr
  have h0 : c = 1 := by rw [hc]; simp [cmpC, h2]
  exact ⟨(r2 (by omega)).1, (r2 (by omega)).2, h0⟩
end Go.Proofs.Ytbjeibcombjfgaa

