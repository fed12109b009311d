/- Plain: the trees of at most eight nodes, cut up: put together. -/
import Derived.Test.YtheldcjiogpbjaaGreatG23
import Derived.Test.YtheldcjiogpbjaaGreatG24
set_option linter.unusedVariables false
set_option linter.unusedSimpArgs false
set_option maxRecDepth 100000
namespace Go.Proofs.YtheldcjiogpbjaaGreat

theorem all_part {α : Type} {p : α → Bool} {l : List α} {a m : Nat} (h : ((l.drop a).take m).all p = true) (h' : (l.drop (a + m)).all p = true) : (l.drop a).all p = true := by
  rw [← List.take_append_drop m (l.drop a), List.all_append, h, List.drop_drop, h']; rfl
theorem all_end {α : Type} {p : α → Bool} {l : List α} {a : Nat} (h : Nat.ble l.length a = true) : (l.drop a).all p = true := by
  rw [List.drop_eq_nil_of_le (Nat.le_of_ble_eq_true h)]; rfl
theorem okc_six : (levs 6).all okTree = true := by
  have e := @all_end _ okTree (levs 6) 132 (by decide +kernel)
  have e2 := all_part (a := 60) (m := 72) okc_2 e
  have e1 := all_part (a := 20) (m := 40) okc_1 e2
  have e0 := all_part (a := 0) (m := 20) okc_0 e1
  simpa using e0
theorem okc_seven : (levs 7).all okTree = true := by
  have e := @all_end _ okTree (levs 7) 429 (by decide +kernel)
  have e10 := all_part (a := 238) (m := 191) okc_10 e
  have e9 := all_part (a := 146) (m := 92) okc_9 e10
  have e8 := all_part (a := 116) (m := 30) okc_8 e9
  have e7 := all_part (a := 72) (m := 44) okc_7 e8
  have e6 := all_part (a := 56) (m := 16) okc_6 e7
  have e5 := all_part (a := 38) (m := 18) okc_5 e6
  have e4 := all_part (a := 16) (m := 22) okc_4 e5
  have e3 := all_part (a := 0) (m := 16) okc_3 e4
  simpa using e3
theorem okTree_8 : (List.range 8).all (fun m => (levs m).all okTree) = true := by
  have h := okc_s
  rw [List.all_eq_true] at h ⊢
  intro m hm
  have hm8 := List.mem_range.1 hm
  by_cases h6 : m < 6
  · exact h m (List.mem_range.2 h6)
  · have : m = 6 ∨ m = 7 := by omega
    rcases this with rfl | rfl
    · exact okc_six
    · exact okc_seven
theorem cut_ok {t : List Nat} {m : Nat} (ht : lvl t = true) (hl : t.length ≤ 8) (hc : canO 9 t = some t) (hm : m < 2 ^ t.length) (h2 : m % 2 = 0) : okCut t m = true := by
  have h := lev8 okTree_8 ht hl
  rw [okTree, isCan, hc] at h
  simp only [eqN_iff.2 rfl, cond_true, List.all_eq_true, List.mem_range] at h
  have hpos : 0 < t.length := by obtain ⟨c, rfl, -⟩ := lvl_cons ht; simp
  have e : t.length = (t.length - 1) + 1 := by omega
  have h3 := h (m / 2) (by rw [e, Nat.pow_succ] at hm; omega)
  rwa [show 2 * (m / 2) = m by omega] at h3
/-- what the kernel has found -/
theorem cut_parts {t : List Nat} {m : Nat} (h : okCut t m = true) : (cutN t m).tops = 0 :: cutsN m (t.length - 1) 1 ∧ (∀ i ∈ (cutN t m).tops, lvl (pieN t m i) = true ∧ (pieN t m i).length ≤ 8 ∧ tfO 9 (cutN t m).near i 0 = canO 9 (pieN t m i)) ∧
    lvl (sklN t m) = true ∧ (sklN t m).length ≤ 8 ∧ tfO 9 (joinN (cutN t m)) 0 0 = canO 9 (sklN t m) := by
  unfold okCut at h
  simp only [Bool.and_eq_true, List.all_eq_true] at h
  obtain ⟨h1, h2, h3⟩ := h
  refine ⟨eqN_iff.1 h1, fun i hi => ?_, ?_⟩
  · have h4 := h2 i hi
    cases hr : rawO 9 (cutN t m).near i 0 with
    | none => rw [hr] at h4; cases h4
    | some q =>
      rw [hr] at h4
      simp only [Bool.and_eq_true] at h4
      have h5 := eqN_iff.1 h4.1
      subst h5
      have h8 := Nat.le_of_ble_eq_true h4.2
      obtain ⟨h6, h7⟩ := tfO_raw hr h8
      exact ⟨h6, h8, h7⟩
  · cases hr : rawO 9 (joinN (cutN t m)) 0 0 with
    | none => rw [hr] at h3; cases h3
    | some q =>
      rw [hr] at h3
      simp only [Bool.and_eq_true] at h3
      have h5 := eqN_iff.1 h3.1
      subst h5
      have h8 := Nat.le_of_ble_eq_true h3.2
      obtain ⟨h6, h7⟩ := tfO_raw hr h8
      exact ⟨h6, h8, h7⟩
end Go.Proofs.YtheldcjiogpbjaaGreat
