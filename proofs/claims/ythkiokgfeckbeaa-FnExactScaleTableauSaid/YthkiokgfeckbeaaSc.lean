/- Walks: ScaleTableau of the program and of the reference. -/
import Derived.Test.YthkiokgfeckbeaaScale2
import Derived.Test.YthkiokgfeckbeaaTab
import Derived.Test.YthkiokgfeckbeaaSym
import Derived.Test.YthkiokgfeckbeaaB
import Derived.Test.YthkiokgfeckbeaaMark
set_option linter.unusedVariables false
set_option linter.unusedSimpArgs false
namespace Go.Proofs.Ythkiokgfeckbeaa
open Go.RowKit

theorem tot_le {n : Nat} : ∀ {xss : List (List Int)}, (∀ zs ∈ xss, zs.length ≤ n) → tot xss ≤ xss.length * n
  | [], _ => by simp [tot]
  | zs :: r, h => by
    rw [tot_cons, List.length_cons, Nat.succ_mul]
    have h1 := h zs List.mem_cons_self
    have h2 := tot_le (xss := r) fun ys hy => h ys (List.mem_cons_of_mem _ hy)
    omega
theorem IsTab.numTab {A : List (List Int)} {Bs : List Int} (h : IsTab A Bs) : NumTab A Bs :=
  ⟨by have := h.len; have := h.hi; omega, by have := h.hi; omega, fun zs hz => ⟨nums_iff.1 (h.row zs hz).2, by have := (h.row zs hz).1; have := h.hi; omega⟩, nums_iff.1 h.num⟩
theorem OT.nil (w : World) (B C : Nat) : OT w B C (.agg #[.slice none 0 0, .slice none 0 0]) [] [] :=
  ⟨_, _, [], rfl, Own.nil _ _ _, fun b hb => by simp [Value.ownBlock] at hb, RowsOwn.nil _ _ _ _, OI.nil _ _ _ _, fun k u hu => by simp at hu⟩

def scaleOk (A : List (List Int)) (Bs : List Int) (k : Int) : Bool := tabB A Bs && isNum k
def scaleC (A : List (List Int)) (Bs : List Int) (k : Int) : Int := if tabB A Bs then (if isNum k then 0 else 2) else 1
def scaleA (A : List (List Int)) (Bs : List Int) (k : Int) : List (List Int) := if scaleOk A Bs k then A.map (scl k) else []
def scaleB (A : List (List Int)) (Bs : List Int) (k : Int) : List Int := if scaleOk A Bs k then scl k Bs else []
def IsSc (A : List (List Int)) (Bs : List Int) (k : Int) (RA : List (List Int)) (RB : List Int) (c : Int) : Prop := RA = scaleA A Bs k ∧ RB = scaleB A Bs k ∧ c = scaleC A Bs k
theorem IsSc.unique {A : List (List Int)} {Bs : List Int} {k : Int} {RA RA' : List (List Int)} {RB RB' : List Int} {c c' : Int} (h : IsSc A Bs k RA RB c) (h' : IsSc A Bs k RA' RB' c') : RA = RA' ∧ RB = RB' ∧ c = c' := by
  obtain ⟨rfl, rfl, rfl⟩ := h
  obtain ⟨rfl, rfl, rfl⟩ := h'
  exact ⟨rfl, rfl, rfl⟩
theorem IsSc.short {A : List (List Int)} {Bs : List Int} {k : Int} {RA : List (List Int)} {RB : List Int} {c : Int} (h : IsSc A Bs k RA RB c) : tot RA ≤ 1000 ∧ RB.length ≤ 1000 := by
  obtain ⟨rfl, rfl, rfl⟩ := h
  unfold scaleA scaleB scaleOk
  cases ht : tabB A Bs with
  | false => simp [tot]
  | true =>
    cases isNum k with
    | false => simp [tot]
    | true =>
      have hI := isTab_of ht
      have h1 : tot (A.map (scl k)) ≤ (A.map (scl k)).length * 8 := tot_le fun zs hz => by
        obtain ⟨ys, hy, rfl⟩ := List.mem_map.1 hz
        rw [scl_len]
        have := (hI.row ys hy).1
        have := hI.hi
        omega
      have := hI.len
      have := hI.hi
      simp only [List.length_map] at h1
      simp [scl_len]
      omega
theorem isNum_mod {k : Int} (h : isNum k = true) : k % 10007 = k ∧ 0 ≤ k ∧ k ≤ 10006 := by
  have := inR_iff.1 h
  omega

set_option maxRecDepth 100000 in
set_option maxHeartbeats 2000000 in
theorem i_ScaleTableau (w : World) (v : Value) (A : List (List Int)) (Bs : List Int) (ha : TabArg w v A Bs) (k : Int) (hk : In64 k) :
    Calls Try.prog 19 #[v, .int .i64 k] w fun e w' => ∃ RA RB v' c, e = .returned (.tuple #[v', .int .i64 c]) ∧ IsSc A Bs k RA RB c ∧ OT w' w.heap.size w'.heap.size v' RA RB ∧ Below w.heap.size w w' := by
  have HT := Lib.hid ha
  obtain ⟨Aa, ca, Ab, cb, rfl⟩ := ha.open_
  have B0 := Lib.hid (below2 w (.cells #[.slice Aa A.length ca, .slice Ab Bs.length cb] 29) (.cells #[.slice none 0 0, .slice none 0 0] 29))
  have K0 := Lib.hid ((Blk.new w #[.slice Aa A.length ca, .slice Ab Bs.length cb] 29).alloc (.cells #[.slice none 0 0, .slice none 0 0] 29))
  have K1 := Lib.hid (Blk.new1 w (.cells #[.slice Aa A.length ca, .slice Ab Bs.length cb] 29) #[.slice none 0 0, .slice none 0 0] 29)
  clear ha hk
  go_enter Try.func19, Try.ntmps19
  go_wp2_with fail
  refine (i_IsTableau _ _ _ _ (HT.out.below B0.out)).mono ?_
  rintro e w1 ⟨rfl, hb1⟩
  have B1 := Lib.hid (B0.out.trans (hb1.mono B0.out.size))
  have X0 := Lib.hid (K0.out.below hb1 K0.out.lt)
  have X1 := Lib.hid (K1.out.below hb1 K1.out.lt)
  have hs1 := hb1.size
  simp only [size_alloc'] at hs1
  have HS1 := Lib.hid hs1
  have g0 : w1.cell? ⟨w.heap.size, 0, none⟩ = some (.slice Aa A.length ca) := X0.out.cell 0
  have g1 : w1.cell? ⟨w.heap.size, 1, none⟩ = some (.slice Ab Bs.length cb) := X0.out.cell 1
  have f0 : w1.cell? ⟨w.heap.size + 1, 0, none⟩ = some (.slice none 0 0) := X1.out.cell 0
  have f1 : w1.cell? ⟨w.heap.size + 1, 1, none⟩ = some (.slice none 0 0) := X1.out.cell 1
  have f2 := X1.out.frozen 0
  have f3 := X1.out.frozen 1
  clear hb1 K0 K1 hs1
  cases ht : tabB A Bs with
  | false =>
    have HQ := Lib.hid ht
    go_wp2_with fail
    have c0 := Chg.refl (w.heap.size + 1) (w.heap.size + 1 + 1) w1
    have c1' := c0.setCell (p := ⟨w.heap.size + 1, 0, none⟩) (Nat.le_refl _) (by simp) (.slice none 0 0)
    have c2' := c1'.setCell (p := ⟨w.heap.size + 1, 1, none⟩) (Nat.le_refl _) (by simp) (.slice none 0 0)
    refine bodyPost_ret (v := .tuple #[.agg #[.slice none 0 0, .slice none 0 0], .int .i64 1]) (by simp [results, Try.results19, go_sem, f0, f1]) rfl ⟨[], [], _, _, rfl, ⟨by simp [scaleA, scaleOk, HQ.out], by simp [scaleB, scaleOk, HQ.out], by simp [scaleC, HQ.out]⟩, OT.nil _ _ _, c2'.below B1.out (by omega) B1.out.size⟩
  | true =>
    have HI := Lib.hid (isTab_of ht)
    go_wp2_with fail
    refine (i_IsNumber _ _).mono ?_
    rintro e w2 ⟨rfl, rfl⟩
    cases hn : isNum k with
    | false =>
      have HQ := Lib.hid (show tabB A Bs = true ∧ isNum k = false from ⟨ht, hn⟩)
      go_wp2_with fail
      have c0 := Chg.refl (w.heap.size + 1) (w.heap.size + 1 + 1) w1
      have c1' := c0.setCell (p := ⟨w.heap.size + 1, 0, none⟩) (Nat.le_refl _) (by simp) (.slice none 0 0)
      have c2' := c1'.setCell (p := ⟨w.heap.size + 1, 1, none⟩) (Nat.le_refl _) (by simp) (.slice none 0 0)
      refine bodyPost_ret (v := .tuple #[.agg #[.slice none 0 0, .slice none 0 0], .int .i64 2]) (by simp [results, Try.results19, go_sem, f0, f1]) rfl ⟨[], [], _, _, rfl, ⟨by simp [scaleA, scaleOk, HQ.out], by simp [scaleB, scaleOk, HQ.out], by simp [scaleC, HQ.out]⟩, OT.nil _ _ _, c2'.below B1.out (by omega) B1.out.size⟩
    | true =>
      have HQ := Lib.hid (show tabB A Bs = true ∧ isNum k = true from ⟨ht, hn⟩)
      have HM := Lib.hid (isNum_mod hn)
      go_wp2_with fail
      refine (im_times _ _ A Bs k (HT.out.below B1.out) HI.out.numTab (by have := HM.out; omega) (by have := HM.out; omega)).mono ?_
      rintro e w2 ⟨r, rfl, hot, hb2⟩
      obtain ⟨A3, c3, A4, c4, rfl⟩ := hot.open_
      rw [List.length_map, scl_len] at hot ⊢
      rw [HM.out.1] at hot
      have HO := Lib.hid hot
      have B2 := Lib.hid (B1.out.trans (hb2.mono B1.out.size))
      have X2 := Lib.hid (X1.out.below hb2 X1.out.lt)
      have HS2 := Lib.hid hb2.size
      clear g0 g1 f0 f1 f2 f3 hot hb2
      have f0 : w2.cell? ⟨w.heap.size + 1, 0, none⟩ = some (.slice none 0 0) := X2.out.cell 0
      have f1 : w2.cell? ⟨w.heap.size + 1, 1, none⟩ = some (.slice none 0 0) := X2.out.cell 1
      have f2 := X2.out.frozen 0
      have f3 := X2.out.frozen 1
      go_wp2_with fail
      have c0 := Chg.refl (w.heap.size + 1) (w.heap.size + 1 + 1) w2
      have c1' := c0.setCell (p := ⟨w.heap.size + 1, 0, none⟩) (Nat.le_refl _) (by simp) (.slice A3 A.length c3)
      have c2' := c1'.setCell (p := ⟨w.heap.size + 1, 1, none⟩) (Nat.le_refl _) (by simp) (.slice A4 Bs.length c4)
      refine bodyPost_ret (v := .tuple #[.agg #[.slice A3 A.length c3, .slice A4 Bs.length c4], .int .i64 0]) (by simp [results, Try.results19, go_sem, f0, f1]) rfl ⟨_, _, _, _, rfl, ⟨by simp [scaleA, scaleOk, HQ.out.1, HQ.out.2], by simp [scaleB, scaleOk, HQ.out.1, HQ.out.2], by simp [scaleC, HQ.out.1, HQ.out.2]⟩, (HO.out.kept c2' (.inr HS1.out)).mono B1.out.size c2'.size, c2'.below B2.out (by omega) B2.out.size⟩

set_option maxRecDepth 100000 in
set_option maxHeartbeats 2000000 in
theorem s_ScaleTableau (w : World) (v : Value) (A : List (List Int)) (Bs : List Int) (ha : TabArg w v A Bs) (k : Int) (hk : In64 k) :
    Calls Try.prog 18 #[v, .int .i64 k] w fun e w' => ∃ RA RB v' c, e = .returned (.tuple #[v', .int .i64 c]) ∧ IsSc A Bs k RA RB c ∧ OT w' w.heap.size w'.heap.size v' RA RB ∧ Below w.heap.size w w' := by
  have HT := Lib.hid ha
  obtain ⟨Aa, ca, Ab, cb, rfl⟩ := ha.open_
  have B0 := Lib.hid (below2 w (.cells #[.slice Aa A.length ca, .slice Ab Bs.length cb] 29) (.cells #[.slice none 0 0, .slice none 0 0] 29))
  have K0 := Lib.hid ((Blk.new w #[.slice Aa A.length ca, .slice Ab Bs.length cb] 29).alloc (.cells #[.slice none 0 0, .slice none 0 0] 29))
  have K1 := Lib.hid (Blk.new1 w (.cells #[.slice Aa A.length ca, .slice Ab Bs.length cb] 29) #[.slice none 0 0, .slice none 0 0] 29)
  clear ha hk
  go_enter Try.func18, Try.ntmps18
  go_wp2_with fail
  refine (s_l09Is _ _ _ _ (HT.out.below B0.out)).mono ?_
  rintro e w1 ⟨rfl, hb1⟩
  have B1 := Lib.hid (B0.out.trans (hb1.mono B0.out.size))
  have X0 := Lib.hid (K0.out.below hb1 K0.out.lt)
  have X1 := Lib.hid (K1.out.below hb1 K1.out.lt)
  have hs1 := hb1.size
  simp only [size_alloc'] at hs1
  have HS1 := Lib.hid hs1
  have g0 : w1.cell? ⟨w.heap.size, 0, none⟩ = some (.slice Aa A.length ca) := X0.out.cell 0
  have g1 : w1.cell? ⟨w.heap.size, 1, none⟩ = some (.slice Ab Bs.length cb) := X0.out.cell 1
  have f0 : w1.cell? ⟨w.heap.size + 1, 0, none⟩ = some (.slice none 0 0) := X1.out.cell 0
  have f1 : w1.cell? ⟨w.heap.size + 1, 1, none⟩ = some (.slice none 0 0) := X1.out.cell 1
  have f2 := X1.out.frozen 0
  have f3 := X1.out.frozen 1
  clear hb1 K0 K1 hs1
  cases ht : tabB A Bs with
  | false =>
    have HQ := Lib.hid ht
    go_wp2_with fail
    have c0 := Chg.refl (w.heap.size + 1) (w.heap.size + 1 + 1) w1
    have c1' := c0.setCell (p := ⟨w.heap.size + 1, 0, none⟩) (Nat.le_refl _) (by simp) (.slice none 0 0)
    have c2' := c1'.setCell (p := ⟨w.heap.size + 1, 1, none⟩) (Nat.le_refl _) (by simp) (.slice none 0 0)
    refine bodyPost_ret (v := .tuple #[.agg #[.slice none 0 0, .slice none 0 0], .int .i64 1]) (by simp [results, Try.results18, go_sem, f0, f1]) rfl ⟨[], [], _, _, rfl, ⟨by simp [scaleA, scaleOk, HQ.out], by simp [scaleB, scaleOk, HQ.out], by simp [scaleC, HQ.out]⟩, OT.nil _ _ _, c2'.below B1.out (by omega) B1.out.size⟩
  | true =>
    have HI := Lib.hid (isTab_of ht)
    go_wp2_with fail
    refine (s_IsNumber _ _).mono ?_
    rintro e w2 ⟨rfl, rfl⟩
    cases hn : isNum k with
    | false =>
      have HQ := Lib.hid (show tabB A Bs = true ∧ isNum k = false from ⟨ht, hn⟩)
      go_wp2_with fail
      have c0 := Chg.refl (w.heap.size + 1) (w.heap.size + 1 + 1) w1
      have c1' := c0.setCell (p := ⟨w.heap.size + 1, 0, none⟩) (Nat.le_refl _) (by simp) (.slice none 0 0)
      have c2' := c1'.setCell (p := ⟨w.heap.size + 1, 1, none⟩) (Nat.le_refl _) (by simp) (.slice none 0 0)
      refine bodyPost_ret (v := .tuple #[.agg #[.slice none 0 0, .slice none 0 0], .int .i64 2]) (by simp [results, Try.results18, go_sem, f0, f1]) rfl ⟨[], [], _, _, rfl, ⟨by simp [scaleA, scaleOk, HQ.out], by simp [scaleB, scaleOk, HQ.out], by simp [scaleC, HQ.out]⟩, OT.nil _ _ _, c2'.below B1.out (by omega) B1.out.size⟩
    | true =>
      have HQ := Lib.hid (show tabB A Bs = true ∧ isNum k = true from ⟨ht, hn⟩)
      have HM := Lib.hid (isNum_mod hn)
      go_wp2_with fail
      refine (s_l10Scale _ _ A Bs k (HT.out.below B1.out) HI.out.numTab (by have := HM.out; omega) (by have := HM.out; omega)).mono ?_
      rintro e w2 ⟨r, rfl, hot, hb2⟩
      obtain ⟨A3, c3, A4, c4, rfl⟩ := hot.open_
      rw [List.length_map, scl_len] at hot ⊢
      have HO := Lib.hid hot
      have B2 := Lib.hid (B1.out.trans (hb2.mono B1.out.size))
      have X2 := Lib.hid (X1.out.below hb2 X1.out.lt)
      have HS2 := Lib.hid hb2.size
      clear g0 g1 f0 f1 f2 f3 hot hb2
      have f0 : w2.cell? ⟨w.heap.size + 1, 0, none⟩ = some (.slice none 0 0) := X2.out.cell 0
      have f1 : w2.cell? ⟨w.heap.size + 1, 1, none⟩ = some (.slice none 0 0) := X2.out.cell 1
      have f2 := X2.out.frozen 0
      have f3 := X2.out.frozen 1
      go_wp2_with fail
      have c0 := Chg.refl (w.heap.size + 1) (w.heap.size + 1 + 1) w2
      have c1' := c0.setCell (p := ⟨w.heap.size + 1, 0, none⟩) (Nat.le_refl _) (by simp) (.slice A3 A.length c3)
      have c2' := c1'.setCell (p := ⟨w.heap.size + 1, 1, none⟩) (Nat.le_refl _) (by simp) (.slice A4 Bs.length c4)
      refine bodyPost_ret (v := .tuple #[.agg #[.slice A3 A.length c3, .slice A4 Bs.length c4], .int .i64 0]) (by simp [results, Try.results18, go_sem, f0, f1]) rfl ⟨_, _, _, _, rfl, ⟨by simp [scaleA, scaleOk, HQ.out.1, HQ.out.2], by simp [scaleB, scaleOk, HQ.out.1, HQ.out.2], by simp [scaleC, HQ.out.1, HQ.out.2]⟩, (HO.out.kept c2' (.inr HS1.out)).mono B1.out.size c2'.size, c2'.below B2.out (by omega) B2.out.size⟩
end Go.Proofs.Ythkiokgfeckbeaa
