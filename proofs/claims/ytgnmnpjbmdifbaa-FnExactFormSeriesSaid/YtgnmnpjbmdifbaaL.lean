/- The walks of the small functions of the laws: copies, comparisons, marks. -/
import Derived.Test.YtgnmnpjbmdifbaaRows
import Derived.Test.YtgnmnpjbmdifbaaMem
import Derived.WalkLawsBesides
import Derived.Deep.QuietTactic
import Derived.BigQuiet
set_option linter.unusedVariables false
set_option linter.unusedSimpArgs false
namespace Go.Proofs.Ytgnmnpjbmdifbaa
open Go.RowKit

theorem T_int : ElemT Try.prog 23 2 (.int .i64 0) 8 := ⟨Try.underlying23, by kernel_rfl, rfl, by omega⟩

theorem take_eq_succ {xs ys : List Int} {k : Nat} {x y : Int} (h : xs.take k = ys.take k) (hx : xs[k]? = some x) (hy : ys[k]? = some y) (e : x = y) : xs.take (k + 1) = ys.take (k + 1) := by
  rw [List.take_add_one, List.take_add_one, h, hx, hy, e]

set_option maxHeartbeats 400000 in
theorem l_eqInt64S (w : World) (a b : Value) (xs ys : List Int) (ha : Ints w a xs) (hb : Ints w b ys) :
    Calls Try.prog 33 #[a, b] w fun e w' => e = .returned (.bool (decide (xs = ys))) ∧ ∃ n, w' = w.drewN n := by
  obtain ⟨A, c, rfl, h1, h2, h3⟩ := ha.open_
  obtain ⟨B, d, rfl, g1, g2, g3⟩ := hb.open_
  clear ha hb
  have H3 := Lib.hid h3
  have G3 := Lib.hid g3
  clear h3 g3
  by_cases hl : xs.length = ys.length
  · have hl' : (((xs.length : Nat) : Int) != ((ys.length : Nat) : Int)) = false := by simp [hl]
    have HL := Lib.hid hl
    clear hl
    have g4 : ys.length ≤ xs.length := by rw [HL.out]; omega
    have g5 : xs.length ≤ ys.length := by rw [HL.out]; omega
    go_enter Try.func33, Try.ntmps33
    go_wp2
    go_loopw [5] (fun i wr => ∃ k n : Nat, k ≤ xs.length ∧ i = .int .i64 k ∧ xs.take k = ys.take k ∧ wr = w.drewN n) (fun i _ => xs.length - (intOf i).toNat)
    case atStart => exact ⟨0, 0, Nat.zero_le _, rfl, rfl, rfl⟩
    case round =>
      obtain ⟨k, n, hk, rfl, ht, rfl⟩ := hrel
      have HT := Lib.hid ht
      clear ht
      by_cases hlt : k < xs.length
      · obtain ⟨ad, z, rfl, hz, hz2, hc⟩ := H3.out k hlt
        obtain ⟨ad', y, rfl, hy, hy2, hc'⟩ := G3.out k (by omega)
        have HZ := Lib.hid hz
        have HY := Lib.hid hy
        clear hz hy hz2 hy2
        go_wp2
        go_quiet (fail)
        go_wp2
        · have hne : (z != y) = true := by assumption
          go_ret
          refine ⟨ret_bool ?_, _, World.drewN_drewN _ _ _⟩
          symm
          simp only [decide_eq_false_iff_not]
          rintro rfl
          have := HZ.out.symm.trans HY.out
          simp at this hne
          exact hne this
        · have hne : (z != y) = false := by assumption
          go_roundw
          case rel => exact ⟨k + 1, _, by omega, by go_num, take_eq_succ HT.out HZ.out HY.out (by simpa using hne), rfl⟩
          case measure => simp [intOf]; omega
      · have : k = xs.length := by omega
        subst this
        go_wp2
        go_ret
        refine ⟨ret_bool ?_, _, rfl⟩
        have e := HT.out
        rw [List.take_length, List.take_of_length_le (by omega)] at e
        simp [e]
  · have hl' : (((xs.length : Nat) : Int) != ((ys.length : Nat) : Int)) = true := by simp; omega
    have HL := Lib.hid hl
    clear hl
    go_enter Try.func33, Try.ntmps33
    go_wp2
    go_ret
    refine ⟨ret_bool ?_, 0, rfl⟩
    have := HL.out
    symm
    simp only [decide_eq_false_iff_not]
    rintro rfl
    exact this rfl

theorem set_fill {xs : List Int} {k : Nat} {z : Int} (hk : k < xs.length) (hz : xs[k]? = some z) :
    (ints (xs.take k) ++ List.replicate (xs.length - k) (Value.int .i64 0)).set k (Value.int .i64 z) = ints (xs.take (k + 1)) ++ List.replicate (xs.length - (k + 1)) (Value.int .i64 0) := by
  apply List.ext_getElem?
  intro j
  rw [List.getElem?_set]
  by_cases h1 : k = j
  · subst h1
    rw [if_pos rfl, if_pos (by simp [ints]; omega), List.getElem?_append_left (by simp [ints]; omega)]
    simp [ints, hz]
  · rw [if_neg h1]
    rcases Nat.lt_or_ge j k with h2 | h2
    · rw [List.getElem?_append_left (by simp [ints]; omega), List.getElem?_append_left (by simp [ints]; omega)]
      simp [ints, List.getElem?_take, h2, show j < k + 1 by omega]
    · rw [List.getElem?_append_right (by simp [ints]; omega), List.getElem?_append_right (by simp [ints]; omega)]
      simp only [List.getElem?_replicate, ints_len, List.length_take]
      by_cases h3 : j < xs.length
      · rw [if_pos (by omega), if_pos (by omega)]
      · rw [if_neg (by omega), if_neg (by omega)]

set_option maxHeartbeats 400000 in
theorem l_toInt64S (w : World) (a : Value) (xs : List Int) (ha : Ints w a xs) (hn : xs.length ≤ 4294967296) :
    Calls Try.prog 39 #[a] w fun e w' => ∃ v, e = .returned v ∧ OwnInts w' w.heap.size 2 v xs ∧ Below w.heap.size w w' := by
  obtain ⟨A, c, rfl, h1, h2, h3⟩ := ha.open_
  have HA := Lib.hid ha
  have H3 := Lib.hid h3
  clear h3 ha
  have hmk := run_make T_int xs.length (by omega)
  go_enter Try.func39, Try.ntmps39
  go_wp2
  clear hmk
  go_loopw [4] (fun i wr => ∃ k : Nat, k ≤ xs.length ∧ i = .int .i64 k ∧ Own wr w.heap.size 2 (.slice (some ⟨w.heap.size, 0, none⟩) xs.length xs.length) (ints (xs.take k) ++ List.replicate (xs.length - k) (.int .i64 0)) ∧ Below w.heap.size w wr) (fun i _ => xs.length - (intOf i).toNat)
  case atStart =>
    refine ⟨0, Nat.zero_le _, rfl, ?_, (Below.refl _ _).alloc (Nat.le_refl _) _⟩
    simpa [ints] using own_made w 2 (.int .i64 0) xs.length (by simp only [maxLen]; omega)
  case round =>
    obtain ⟨k, hk, rfl, hown, hb⟩ := hrel
    by_cases hlt : k < xs.length
    · obtain ⟨ad, z, rfl, hz, hz2, hc0⟩ := H3.out k hlt
      have hc : wr.cell? (ad.add k) = some (.int .i64 z) := by
        rw [hb.cell (by rw [block_add]; have := World.block_lt_of_cell? w _ hc0; rwa [block_add] at this)]; exact hc0
      obtain ⟨u0, hu0, hcg, hfg, hg2, hg1, hown', hgr⟩ := hown.storeAt (k := k) (by simp [ints]; omega) (.int .i64 z)
      rw [set_fill hlt hz] at hown'
      have HO := Lib.hid hown'
      have HB := Lib.hid hb
      clear hown hown' hb hz hz2 hc0 hu0 hgr hg1
      go_wp2
      go_roundw
      case rel => exact ⟨k + 1, by omega, by go_num, HO.out, HB.out.setCell (Nat.le_refl _) _⟩
      case measure => simp [intOf]; omega
    · have : k = xs.length := by omega
      subst this
      have HO := Lib.hid hown
      have HB := Lib.hid hb
      clear hown hb
      go_wp2
      go_ret
      refine ⟨_, rfl, ⟨by simpa using HO.out, HA.out.2⟩, HB.out⟩

/-- the marks k, k + 1, .. -/
def marks (k : Int) (n : Nat) : List Int := (List.range n).map fun (i : Nat) => k + (i : Int)
theorem marks_len (k : Int) (n : Nat) : (marks k n).length = n := by simp [marks]
theorem marks_get {k : Int} {n i : Nat} (h : i < n) : (marks k n)[i]? = some (k + (i : Int)) := by simp [marks, h]
theorem marks_in (k : Int) (n : Nat) (h0 : 0 ≤ k) (h1 : k ≤ 1099511627776) (h2 : n ≤ 1099511627776) : ∀ z ∈ marks k n, In64 z := by
  intro z hz
  obtain ⟨i, hi, rfl⟩ := List.mem_map.1 hz
  have := List.mem_range.1 hi
  unfold In64
  omega

theorem set_mark {zs : List Int} {k : Int} {i : Nat} (hi : i < zs.length) :
    (ints (marks k i ++ zs.drop i)).set i (Value.int .i64 (k + (i : Int))) = ints (marks k (i + 1) ++ zs.drop (i + 1)) := by
  apply List.ext_getElem?
  intro j
  rw [List.getElem?_set]
  by_cases h1 : i = j
  · subst h1
    rw [if_pos rfl, if_pos (by simp [ints, marks]; omega)]
    simp only [ints, List.map_append]
    rw [List.getElem?_append_left (by simp [marks])]
    simp [marks]
  · rw [if_neg h1]
    simp only [ints, List.map_append]
    rcases Nat.lt_or_ge j i with h2 | h2
    · rw [List.getElem?_append_left (by simp [marks]; omega), List.getElem?_append_left (by simp [marks]; omega)]
      simp [marks, h2, show j < i + 1 by omega]
    · rw [List.getElem?_append_right (by simp [marks]; omega), List.getElem?_append_right (by simp [marks]; omega)]
      simp only [marks, List.length_map, List.length_range, List.getElem?_map, List.getElem?_drop]
      rw [show i + (j - i) = i + 1 + (j - (i + 1)) by omega]

set_option maxHeartbeats 400000 in
theorem l_markInt64S (w : World) (B : Nat) (v : Value) (zs : List Int) (k : Int) (ho : OwnInts w B 2 v zs) (hn : zs.length ≤ 4294967296) (h0 : 0 ≤ k) (h1 : k ≤ 1099511627776) :
    Calls Try.prog 34 #[v, .int .i64 k] w fun e w' => e = .returned (.int .i64 (k + (zs.length : Int))) ∧ OwnInts w' B 2 v (marks k zs.length) ∧ w.grownBy w' v.ownBlock ∧ w'.heap.size = w.heap.size := by
  obtain ⟨ho1, ho2⟩ := ho
  rcases ho1.cases with ⟨rfl, hz⟩ | ⟨g, cap, cur, rfl, hB, hg, _, hcap, hcm, _⟩
  · obtain rfl : zs = [] := by simpa [ints] using hz
    clear hz
    go_enter Try.func34, Try.ntmps34
    go_wp2
    go_loop [1, 5] (fun x i => x = .int .i64 k ∧ i = .int .i64 0) (fun _ _ => 0)
    case atStart => exact ⟨rfl, rfl⟩
    case round =>
      obtain ⟨rfl, rfl⟩ := hrel
      go_wp2
      go_ret
      exact ⟨by simp, ⟨ho1, by simp [marks]⟩, World.grownBy.refl _ _, rfl⟩
  · rw [ints_len] at ho1 hcap
    have hcap' : zs.length ≤ 9223372036854775807 := by omega
    have hcap2 : cap ≤ 9223372036854775807 := by simpa [maxLen] using hcm
    have HO1 := Lib.hid ho1
    have HO2 := Lib.hid ho2
    clear ho1 ho2 hcm
    simp only [ints_len]
    go_enter Try.func34, Try.ntmps34
    go_wp2
    go_loopw [1, 5] (fun x i wr => ∃ j : Nat, j ≤ zs.length ∧ i = .int .i64 j ∧ x = .int .i64 (k + (j : Int)) ∧ Own wr B 2 (.slice (some ⟨g, 0, none⟩) zs.length cap) (ints (marks k j ++ zs.drop j)) ∧ w.grownBy wr (some g) ∧ wr.heap.size = w.heap.size) (fun _ i _ => zs.length - (intOf i).toNat)
    case atStart => exact ⟨0, Nat.zero_le _, rfl, by simp, by simpa [marks] using HO1.out, World.grownBy.refl _ _, rfl⟩
    case round =>
      obtain ⟨j, hj, rfl, rfl, hown, hgr, hsz⟩ := hrel
      by_cases hlt : j < zs.length
      · obtain ⟨u0, hu0, hcg, hfg, hg2, hg1, hown', hgr'⟩ := hown.storeAt (k := j) (by simp [ints, marks]; omega) (.int .i64 (k + (j : Int)))
        rw [set_mark hlt] at hown'
        have HO := Lib.hid hown'
        have HG := Lib.hid hgr
        have HS := Lib.hid hsz
        clear hown hown' hgr hgr' hu0 hg1 hsz
        go_wp2
        go_roundw
        case rel =>
          refine ⟨j + 1, by omega, by go_num, by go_num, HO.out, ?_, by simpa [World.setCell] using HS.out⟩
          exact ⟨HG.out.os, HG.out.tape, HG.out.output, by simpa [World.setCell] using HG.out.size, fun i hi hne => (Below.heap_setCell _ _ _ i (by rintro rfl; exact hne rfl)).trans (HG.out.block i hi hne)⟩
        case measure => simp [intOf]; omega
      · have : j = zs.length := by omega
        subst this
        have HO := Lib.hid hown
        have HG := Lib.hid hgr
        have HS := Lib.hid hsz
        clear hown hgr hsz
        go_wp2
        go_ret
        refine ⟨rfl, ⟨by simpa using HO.out, marks_in _ _ h0 h1 (by omega)⟩, HG.out, HS.out⟩

set_option maxHeartbeats 400000 in
theorem l_heldInt64S (w : World) (v : Value) (n : Nat) (k : Int) (ho : Ints w v (marks k n)) (hn : n ≤ 4294967296) (h0 : 0 ≤ k) (h1 : k ≤ 1099511627776) :
    Calls Try.prog 35 #[v, .int .i64 k] w fun e w' => e = .returned (.int .i64 (k + (n : Int))) ∧ w = w' := by
  obtain ⟨A, c, rfl, g1, g2, g3⟩ := ho.open_
  rw [marks_len] at g1 g3 ⊢
  have G3 := Lib.hid g3
  clear g3 ho
  go_enter Try.func35, Try.ntmps35
  go_wp2
  go_loop [1, 5] (fun x i => ∃ j : Nat, j ≤ n ∧ i = .int .i64 j ∧ x = .int .i64 (k + (j : Int))) (fun _ i => n - (intOf i).toNat)
  case atStart => exact ⟨0, Nat.zero_le _, rfl, by simp⟩
  case round =>
    obtain ⟨j, hj, rfl, rfl⟩ := hrel
    by_cases hlt : j < n
    · obtain ⟨ad, z, rfl, hz, hz2, hc⟩ := G3.out j hlt
      rw [marks_get hlt] at hz
      obtain rfl : k + (j : Int) = z := by simpa using hz
      clear hz hz2
      go_wp2
      go_round
      case rel => exact ⟨j + 1, by omega, by go_num, by go_num⟩
      case measure => simp [intOf]; omega
    · have : j = n := by omega
      subst this
      go_wp2
      go_ret
      exact ⟨rfl, rfl⟩
end Go.Proofs.Ytgnmnpjbmdifbaa
