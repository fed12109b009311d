/- Walk: slices.Reverse at a list of numbers. -/
import Derived.Test.YtgbfifcbbfhpmaaRev
set_option linter.unusedVariables false
set_option linter.unusedSimpArgs false
namespace Go.Proofs.Ytgbfifcbbfhpmaa
open Go.RowKit

/-- the list with its first i and its last i places turned -/
def revTo (zs : List Int) (i : Nat) : List Int := (List.range zs.length).map fun (p : Nat) => if p < i ∨ zs.length ≤ p + i then zs.getD (zs.length - 1 - p) 0 else zs.getD p 0
theorem revTo_len (zs : List Int) (i : Nat) : (revTo zs i).length = zs.length := by simp [revTo]
theorem revTo_get {zs : List Int} {i p : Nat} (h : p < zs.length) : (revTo zs i)[p]? = some (if p < i ∨ zs.length ≤ p + i then zs.getD (zs.length - 1 - p) 0 else zs.getD p 0) := by
  simp [revTo, h]
theorem revTo_zero (zs : List Int) : revTo zs 0 = zs := by
  refine List.ext_getElem? fun p => ?_
  by_cases h : p < zs.length
  · rw [revTo_get h, if_neg (by omega)]
    simp [List.getD, h]
  · rw [List.getElem?_eq_none (by rw [revTo_len]; omega), List.getElem?_eq_none (by omega)]
theorem revTo_swap {zs : List Int} {i m : Nat} (h : i + m + 1 = zs.length) (hi : i < m) : ((revTo zs i).set i (zs.getD m 0)).set m (zs.getD i 0) = revTo zs (i + 1) := by
  refine List.ext_getElem? fun p => ?_
  by_cases hp : p < zs.length
  · rw [revTo_get hp]
    by_cases h1 : p = m
    · subst h1
      rw [List.getElem?_set_self (by simp [revTo_len]; omega), if_pos (by omega)]
      congr 2
      omega
    · rw [List.getElem?_set_ne (by omega)]
      by_cases h2 : p = i
      · subst h2
        rw [List.getElem?_set_self (by simp [revTo_len]; omega), if_pos (by omega)]
        congr 2
        omega
      · rw [List.getElem?_set_ne (by omega), revTo_get hp]
        congr 1
        by_cases h3 : p < i ∨ zs.length ≤ p + i
        · rw [if_pos h3, if_pos (by omega)]
        · rw [if_neg h3, if_neg (by omega)]
  · rw [List.getElem?_eq_none (by simp [revTo_len]; omega), List.getElem?_eq_none (by rw [revTo_len]; omega)]
theorem revTo_end {zs : List Int} {i m : Nat} (h : i + m + 1 = zs.length) (hi : m ≤ i) : revTo zs i = zs.reverse := by
  refine List.ext_getElem? fun p => ?_
  by_cases hp : p < zs.length
  · rw [revTo_get hp, List.getElem?_reverse hp]
    have hq : zs.length - 1 - p < zs.length := by omega
    rw [List.getElem?_eq_getElem hq]
    congr 1
    by_cases h3 : p < i ∨ zs.length ≤ p + i
    · rw [if_pos h3]; simp [List.getD, hq]
    · rw [if_neg h3]
      have e : zs.length - 1 - p = p := by omega
      simp only [List.getD, e, List.getElem?_eq_getElem hp]
      rfl
  · rw [List.getElem?_eq_none (by rw [revTo_len]; omega), List.getElem?_eq_none (by simp; omega)]

theorem revTo_nums {zs : List Int} (h : ∀ z ∈ zs, In64 z) (i : Nat) : ∀ z ∈ revTo zs i, In64 z := by
  have hd : ∀ p, In64 (zs.getD p 0) := fun p => by
    by_cases hp : p < zs.length
    · rw [List.getD_eq_getElem?_getD, List.getElem?_eq_getElem hp]; exact h _ (List.getElem_mem hp)
    · rw [List.getD_eq_getElem?_getD, List.getElem?_eq_none (by omega)]; unfold In64; simp
  intro z hz
  obtain ⟨p, _, rfl⟩ := List.mem_map.1 hz
  split <;> exact hd _
theorem revTo_mid {zs : List Int} {i p : Nat} (h : p < zs.length) (h1 : i ≤ p) (h2 : p + i < zs.length) : (revTo zs i)[p]? = some (zs.getD p 0) := by
  rw [revTo_get h, if_neg (by omega)]

set_option maxRecDepth 100000 in
set_option maxHeartbeats 1000000 in
theorem lib_Reverse (w : World) (B : Nat) (v : Value) (zs : List Int) (ho : OwnInts w B tI v zs) (h1 : 1 ≤ zs.length) (hn : zs.length ≤ 1000) :
    Calls Try.prog 101 #[v] w fun e w' => (∃ x, e = .returned x) ∧ OwnInts w' B tI v zs.reverse ∧ w.grownBy w' v.ownBlock := by
  obtain ⟨ho1, ho2⟩ := ho
  have HIN := Lib.hid ho2
  rcases ho1.cases with ⟨rfl, hz⟩ | ⟨g, cap, cur, rfl, hB, hg, _, hcap, hcm, _⟩
  · have := congrArg List.length hz
    simp [ints] at this
    subst this
    simp at h1
  · rw [ints_len] at ho1 hcap
    have hcap2 : cap ≤ 9223372036854775807 := by simpa [maxLen] using hcm
    have HO1 := Lib.hid ho1
    clear ho1 ho2 hcm
    simp only [ints_len]
    go_enter Try.func101, Try.ntmps101
    go_wp2_with fail
    go_loopw [2, 3] (fun x y wr => ∃ i m : Nat, i + m + 1 = zs.length ∧ x = .int .i64 i ∧ y = .int .i64 m ∧ Own wr B tI (.slice (some ⟨g, 0, none⟩) zs.length cap) (ints (revTo zs i)) ∧ w.grownBy wr (some g)) (fun _ y _ => (intOf y).toNat)
    case atStart => exact ⟨0, zs.length - 1, by omega, rfl, by congr 1; omega, by rw [revTo_zero]; exact HO1.out, World.grownBy.refl _ _⟩
    case round =>
      obtain ⟨i, m, him, rfl, rfl, hown, hgr⟩ := hrel
      by_cases hlt : i < m
      · have e1 := ints_get (revTo_mid (zs := zs) (i := i) (p := m) (by omega) (by omega) (by omega))
        have e2 := ints_get (revTo_mid (zs := zs) (i := i) (p := i) (by omega) (by omega) (by omega))
        obtain ⟨u0, hu0, hcg, hfg, hg2, hg1, hown', hgr'⟩ := hown.storeAt (k := i) (by simp [ints, revTo_len]; omega) (.int .i64 (zs.getD m 0))
        obtain ⟨u1, hu1, hcm, hfm, -, -, -, -⟩ := hown.storeAt (k := m) (by simp [ints, revTo_len]; omega) (.int .i64 (zs.getD m 0))
        obtain rfl : Value.int .i64 (zs.getD i 0) = u0 := by rw [e2] at hu0; simpa using hu0
        obtain rfl : Value.int .i64 (zs.getD m 0) = u1 := by rw [e1] at hu1; simpa using hu1
        obtain ⟨u2, hu2, hc2, hf2, -, -, hown2, hgr2⟩ := hown'.storeAt (k := m) (by simp [ints, revTo_len]; omega) (.int .i64 (zs.getD i 0))
        have hi1 : (i : Int) < (zs.length : Int) := by omega
        have hm1 : (m : Int) < (zs.length : Int) := by omega
        have hi2 : i < zs.length := by omega
        have hm2 : m < zs.length := by omega
        have hne : ¬ i = m := by omega
        have HO := Lib.hid hown2
        have HG := Lib.hid hgr
        have HG1 := Lib.hid hgr'
        have HG2 := Lib.hid hgr2
        have HSW := Lib.hid (revTo_swap him hlt)
        have hc3 : (wr.drew.setCell ⟨g, i, none⟩ (.int .i64 (zs.getD m 0))).cell? ⟨g, m, none⟩ = some u2 := hc2
        have hf3 : (wr.drew.setCell ⟨g, i, none⟩ (.int .i64 (zs.getD m 0))).frozen? ⟨g, m, none⟩ = false := hf2
        clear hc2 hf2
        clear hown hown' hown2 hgr hgr' hgr2 hu0 hu1 hu2 e1 e2
        generalize zs.getD m 0 = x at hcm hc3 hf3 HO HG1 HG2 HSW
        generalize zs.getD i 0 = y at hcg HO HG2 HSW
        go_wp2_with fail
        go_region
        all_goals
          go_wp2_with fail
          go_roundw
          case rel =>
            refine ⟨i + 1, m - 1, by omega, by go_num, by congr 1; omega, ?_, ?_⟩
            · rw [← HSW.out]
              have h := HO.out
              simp only [ints, List.map_set] at h ⊢
              exact h
            · exact ⟨HG2.out.os.trans (HG1.out.os.trans HG.out.os), HG2.out.tape.trans (HG1.out.tape.trans HG.out.tape), HG2.out.output.trans (HG1.out.output.trans HG.out.output), Nat.le_trans HG.out.size (Nat.le_trans HG1.out.size HG2.out.size), fun k hk hne => (HG2.out.block k (Nat.lt_of_lt_of_le hk (Nat.le_trans HG.out.size HG1.out.size)) hne).trans ((HG1.out.block k (Nat.lt_of_lt_of_le hk HG.out.size) hne).trans (HG.out.block k hk hne))⟩
          case measure => simp [intOf]; omega
      · have HO := Lib.hid hown
        have HG := Lib.hid hgr
        have HE := Lib.hid (revTo_end him (by omega))
        clear hown hgr
        go_wp2_with fail
        refine bodyPost_end (v := .tuple #[]) (by simp [results, Try.results101, go_sem]) rfl ⟨⟨_, rfl⟩, ⟨?_, fun z hz => HIN.out z (List.mem_reverse.1 hz)⟩, HG.out⟩
        rw [← HE.out]
        exact HO.out

theorem upTo_reverse (n : Nat) : (upTo n).reverse = downTo n n := by
  refine List.ext_getElem? fun p => ?_
  by_cases hp : p < n
  · rw [List.getElem?_reverse (by rw [upTo_len]; exact hp), upTo_len]
    have hq : n - 1 - p < n := by omega
    simp [upTo, downTo, hp, hq]
  · rw [List.getElem?_eq_none (by simp [upTo_len]; omega), List.getElem?_eq_none (by rw [downTo_len]; omega)]
end Go.Proofs.Ytgbfifcbbfhpmaa
