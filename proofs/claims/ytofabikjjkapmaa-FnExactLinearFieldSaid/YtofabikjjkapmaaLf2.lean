/- The walks of the small functions of the laws: copies, comparisons, marks. | The walks of the laws' small functions over lists of lists and tableaus. |  | The laws' helpers, in one form each: for the walks that lawgen3.py prints. | Arithmetic modulo 10007, plain. No program in sight. -/
import Derived.Test.YtofabikjjkapmaaRows
import Derived.Test.YtofabikjjkapmaaLf1
import Derived.WalkLawsBesides
import Derived.Deep.QuietTactic
import Derived.BigQuiet
set_option linter.unusedVariables false
set_option linter.unusedSimpArgs false
namespace Go.Proofs.Ytofabikjjkapmaa
open Go.RowKit

theorem T_int : ElemT Try.prog 34 2 (.int .i64 0) 8 := ⟨Try.underlying34, by kernel_rfl, rfl, by omega⟩

theorem take_eq_succ {xs ys : List Int} {k : Nat} {x y : Int} (h : xs.take k = ys.take k) (hx : xs[k]? = some x) (hy : ys[k]? = some y) (e : x = y) : xs.take (k + 1) = ys.take (k + 1) := by
  rw [List.take_add_one, List.take_add_one, h, hx, hy, e]

set_option maxHeartbeats 400000 in
theorem l_eqInt64S (w : World) (a b : Value) (xs ys : List Int) (ha : Ints w a xs) (hb : Ints w b ys) :
    Calls Try.prog 18 #[a, b] w fun e w' => e = .returned (.bool (decide (xs = ys))) ∧ ∃ n, w' = w.drewN n := by
  obtain ⟨A, c, rfl, h1, h2, h3⟩ := ha.open_
  obtain ⟨B, d, rfl, g1, g2, g3⟩ := hb.open_
  clear ha hb
  have H3 := Lib.hid h3
  have G3 := Lib.hid g3
  clear h3 g3
  by_cases hl : xs.length = ys.length
  · have hl' : (((xs.length : Nat) : Int) != ((ys.length : Nat) : Int)) = false := by simp [hl]
    have HL := Lib.hid hl
    clear hl
    have g4 : ys.length ≤ xs.length := by rw [HL.out]; omega
    have g5 : xs.length ≤ ys.length := by rw [HL.out]; omega
    go_enter Try.func18, Try.ntmps18
    go_wp2
    go_loopw [5] (fun i wr => ∃ k n : Nat, k ≤ xs.length ∧ i = .int .i64 k ∧ xs.take k = ys.take k ∧ wr = w.drewN n) (fun i _ => xs.length - (intOf i).toNat)
    case atStart => exact ⟨0, 0, Nat.zero_le _, rfl, rfl, rfl⟩
    case round =>
      obtain ⟨k, n, hk, rfl, ht, rfl⟩ := hrel
      have HT := Lib.hid ht
      clear ht
      by_cases hlt : k < xs.length
      · obtain ⟨ad, z, rfl, hz, hz2, hc⟩ := H3.out k hlt
        obtain ⟨ad', y, rfl, hy, hy2, hc'⟩ := G3.out k (by omega)
        have HZ := Lib.hid hz
        have HY := Lib.hid hy
        clear hz hy hz2 hy2
        go_wp2
        go_quiet (fail)
        go_wp2
        · have hne : (z != y) = true := by assumption
          go_ret
          refine ⟨ret_bool ?_, _, World.drewN_drewN _ _ _⟩
          symm
          simp only [decide_eq_false_iff_not]
          rintro rfl
          have := HZ.out.symm.trans HY.out
          simp at this hne
          exact hne this
        · have hne : (z != y) = false := by assumption
          go_roundw
          case rel => exact ⟨k + 1, _, by omega, by go_num, take_eq_succ HT.out HZ.out HY.out (by simpa using hne), rfl⟩
          case measure => simp [intOf]; omega
      · have : k = xs.length := by omega
        subst this
        go_wp2
        go_ret
        refine ⟨ret_bool ?_, _, rfl⟩
        have e := HT.out
        rw [List.take_length, List.take_of_length_le (by omega)] at e
        simp [e]
  · have hl' : (((xs.length : Nat) : Int) != ((ys.length : Nat) : Int)) = true := by simp; omega
    have HL := Lib.hid hl
    clear hl
    go_enter Try.func18, Try.ntmps18
    go_wp2
    go_ret
    refine ⟨ret_bool ?_, 0, rfl⟩
    have := HL.out
    symm
    simp only [decide_eq_false_iff_not]
    rintro rfl
    exact this rfl

theorem set_fill {xs : List Int} {k : Nat} {z : Int} (hk : k < xs.length) (hz : xs[k]? = some z) :
    (ints (xs.take k) ++ List.replicate (xs.length - k) (Value.int .i64 0)).set k (Value.int .i64 z) = ints (xs.take (k + 1)) ++ List.replicate (xs.length - (k + 1)) (Value.int .i64 0) := by
  apply List.ext_getElem?
  intro j
  rw [List.getElem?_set]
  by_cases h1 : k = j
  · subst h1
    rw [if_pos rfl, if_pos (by simp [ints]; omega), List.getElem?_append_left (by simp [ints]; omega)]
    simp [ints, hz]
  · rw [if_neg h1]
    rcases Nat.lt_or_ge j k with h2 | h2
    · rw [List.getElem?_append_left (by simp [ints]; omega), List.getElem?_append_left (by simp [ints]; omega)]
      simp [ints, List.getElem?_take, h2, show j < k + 1 by omega]
    · rw [List.getElem?_append_right (by simp [ints]; omega), List.getElem?_append_right (by simp [ints]; omega)]
      simp only [List.getElem?_replicate, ints_len, List.length_take]
      by_cases h3 : j < xs.length
      · rw [if_pos (by omega), if_pos (by omega)]
      · rw [if_neg (by omega), if_neg (by omega)]

set_option maxHeartbeats 400000 in
theorem l_toInt64S (w : World) (a : Value) (xs : List Int) (ha : Ints w a xs) (hn : xs.length ≤ 4294967296) :
    Calls Try.prog 15 #[a] w fun e w' => ∃ v, e = .returned v ∧ OwnInts w' w.heap.size 2 v xs ∧ Below w.heap.size w w' := by
  obtain ⟨A, c, rfl, h1, h2, h3⟩ := ha.open_
  have HA := Lib.hid ha
  have H3 := Lib.hid h3
  clear h3 ha
  have hmk := run_make T_int xs.length (by omega)
  go_enter Try.func15, Try.ntmps15
  go_wp2
  clear hmk
  go_loopw [4] (fun i wr => ∃ k : Nat, k ≤ xs.length ∧ i = .int .i64 k ∧ Own wr w.heap.size 2 (.slice (some ⟨w.heap.size, 0, none⟩) xs.length xs.length) (ints (xs.take k) ++ List.replicate (xs.length - k) (.int .i64 0)) ∧ Below w.heap.size w wr) (fun i _ => xs.length - (intOf i).toNat)
  case atStart =>
    refine ⟨0, Nat.zero_le _, rfl, ?_, (Below.refl _ _).alloc (Nat.le_refl _) _⟩
    simpa [ints] using own_made w 2 (.int .i64 0) xs.length (by simp only [maxLen]; omega)
  case round =>
    obtain ⟨k, hk, rfl, hown, hb⟩ := hrel
    by_cases hlt : k < xs.length
    · obtain ⟨ad, z, rfl, hz, hz2, hc0⟩ := H3.out k hlt
      have hc : wr.cell? (ad.add k) = some (.int .i64 z) := by
        rw [hb.cell (by rw [block_add]; have := World.block_lt_of_cell? w _ hc0; rwa [block_add] at this)]; exact hc0
      obtain ⟨u0, hu0, hcg, hfg, hg2, hg1, hown', hgr⟩ := hown.storeAt (k := k) (by simp [ints]; omega) (.int .i64 z)
      rw [set_fill hlt hz] at hown'
      have HO := Lib.hid hown'
      have HB := Lib.hid hb
      clear hown hown' hb hz hz2 hc0 hu0 hgr hg1
      go_wp2
      go_roundw
      case rel => exact ⟨k + 1, by omega, by go_num, HO.out, HB.out.setCell (Nat.le_refl _) _⟩
      case measure => simp [intOf]; omega
    · have : k = xs.length := by omega
      subst this
      have HO := Lib.hid hown
      have HB := Lib.hid hb
      clear hown hb
      go_wp2
      go_ret
      refine ⟨_, rfl, ⟨by simpa using HO.out, HA.out.2⟩, HB.out⟩

/-- the marks k, k + 1, .. -/
def marks (k : Int) (n : Nat) : List Int := (List.range n).map fun (i : Nat) => k + (i : Int)
theorem marks_len (k : Int) (n : Nat) : (marks k n).length = n := by simp [marks]
theorem marks_get {k : Int} {n i : Nat} (h : i < n) : (marks k n)[i]? = some (k + (i : Int)) := by simp [marks, h]
theorem marks_in (k : Int) (n : Nat) (h0 : 0 ≤ k) (h1 : k ≤ 1099511627776) (h2 : n ≤ 1099511627776) : ∀ z ∈ marks k n, In64 z := by
  intro z hz
  obtain ⟨i, hi, rfl⟩ := List.mem_map.1 hz
  have := List.mem_range.1 hi
  unfold In64
  omega

theorem set_mark {zs : List Int} {k : Int} {i : Nat} (hi : i < zs.length) :
    (ints (marks k i ++ zs.drop i)).set i (Value.int .i64 (k + (i : Int))) = ints (marks k (i + 1) ++ zs.drop (i + 1)) := by
  apply List.ext_getElem?
  intro j
  rw [List.getElem?_set]
  by_cases h1 : i = j
  · subst h1
    rw [if_pos rfl, if_pos (by simp [ints, marks]; omega)]
    simp only [ints, List.map_append]
    rw [List.getElem?_append_left (by simp [marks])]
    simp [marks]
  · rw [if_neg h1]
    simp only [ints, List.map_append]
    rcases Nat.lt_or_ge j i with h2 | h2
    · rw [List.getElem?_append_left (by simp [marks]; omega), List.getElem?_append_left (by simp [marks]; omega)]
      simp [marks, h2, show j < i + 1 by omega]
    · rw [List.getElem?_append_right (by simp [marks]; omega), List.getElem?_append_right (by simp [marks]; omega)]
      simp only [marks, List.length_map, List.length_range, List.getElem?_map, List.getElem?_drop]
      rw [show i + (j - i) = i + 1 + (j - (i + 1)) by omega]

set_option maxHeartbeats 400000 in
theorem l_markInt64S (w : World) (B : Nat) (v : Value) (zs : List Int) (k : Int) (ho : OwnInts w B 2 v zs) (hn : zs.length ≤ 4294967296) (h0 : 0 ≤ k) (h1 : k ≤ 1099511627776) :
    Calls Try.prog 19 #[v, .int .i64 k] w fun e w' => e = .returned (.int .i64 (k + (zs.length : Int))) ∧ OwnInts w' B 2 v (marks k zs.length) ∧ w.grownBy w' v.ownBlock ∧ w'.heap.size = w.heap.size := by
  obtain ⟨ho1, ho2⟩ := ho
  rcases ho1.cases with ⟨rfl, hz⟩ | ⟨g, cap, cur, rfl, hB, hg, _, hcap, hcm, _⟩
  · obtain rfl : zs = [] := by simpa [ints] using hz
    clear hz
    go_enter Try.func19, Try.ntmps19
    go_wp2
    go_loop [1, 5] (fun x i => x = .int .i64 k ∧ i = .int .i64 0) (fun _ _ => 0)
    case atStart => exact ⟨rfl, rfl⟩
    case round =>
      obtain ⟨rfl, rfl⟩ := hrel
      go_wp2
      go_ret
      exact ⟨by simp, ⟨ho1, by simp [marks]⟩, World.grownBy.refl _ _, rfl⟩
  · rw [ints_len] at ho1 hcap
    have hcap' : zs.length ≤ 9223372036854775807 := by omega
    have hcap2 : cap ≤ 9223372036854775807 := by simpa [maxLen] using hcm
    have HO1 := Lib.hid ho1
    have HO2 := Lib.hid ho2
    clear ho1 ho2 hcm
    simp only [ints_len]
    go_enter Try.func19, Try.ntmps19
    go_wp2
    go_loopw [1, 5] (fun x i wr => ∃ j : Nat, j ≤ zs.length ∧ i = .int .i64 j ∧ x = .int .i64 (k + (j : Int)) ∧ Own wr B 2 (.slice (some ⟨g, 0, none⟩) zs.length cap) (ints (marks k j ++ zs.drop j)) ∧ w.grownBy wr (some g) ∧ wr.heap.size = w.heap.size) (fun _ i _ => zs.length - (intOf i).toNat)
    case atStart => exact ⟨0, Nat.zero_le _, rfl, by simp, by simpa [marks] using HO1.out, World.grownBy.refl _ _, rfl⟩
    case round =>
      obtain ⟨j, hj, rfl, rfl, hown, hgr, hsz⟩ := hrel
      by_cases hlt : j < zs.length
      · obtain ⟨u0, hu0, hcg, hfg, hg2, hg1, hown', hgr'⟩ := hown.storeAt (k := j) (by simp [ints, marks]; omega) (.int .i64 (k + (j : Int)))
        rw [set_mark hlt] at hown'
        have HO := Lib.hid hown'
        have HG := Lib.hid hgr
        have HS := Lib.hid hsz
        clear hown hown' hgr hgr' hu0 hg1 hsz
        go_wp2
        go_roundw
        case rel =>
          refine ⟨j + 1, by omega, by go_num, by go_num, HO.out, ?_, by simpa [World.setCell] using HS.out⟩
          exact ⟨HG.out.os, HG.out.tape, HG.out.output, by simpa [World.setCell] using HG.out.size, fun i hi hne => (Below.heap_setCell _ _ _ i (by rintro rfl; exact hne rfl)).trans (HG.out.block i hi hne)⟩
        case measure => simp [intOf]; omega
      · have : j = zs.length := by omega
        subst this
        have HO := Lib.hid hown
        have HG := Lib.hid hgr
        have HS := Lib.hid hsz
        clear hown hgr hsz
        go_wp2
        go_ret
        refine ⟨rfl, ⟨by simpa using HO.out, marks_in _ _ h0 h1 (by omega)⟩, HG.out, HS.out⟩

set_option maxHeartbeats 400000 in
theorem l_heldInt64S (w : World) (v : Value) (n : Nat) (k : Int) (ho : Ints w v (marks k n)) (hn : n ≤ 4294967296) (h0 : 0 ≤ k) (h1 : k ≤ 1099511627776) :
    Calls Try.prog 40 #[v, .int .i64 k] w fun e w' => e = .returned (.int .i64 (k + (n : Int))) ∧ w = w' := by
  obtain ⟨A, c, rfl, g1, g2, g3⟩ := ho.open_
  rw [marks_len] at g1 g3 ⊢
  have G3 := Lib.hid g3
  clear g3 ho
  go_enter Try.func40, Try.ntmps40
  go_wp2
  go_loop [1, 5] (fun x i => ∃ j : Nat, j ≤ n ∧ i = .int .i64 j ∧ x = .int .i64 (k + (j : Int))) (fun _ i => n - (intOf i).toNat)
  case atStart => exact ⟨0, Nat.zero_le _, rfl, by simp⟩
  case round =>
    obtain ⟨j, hj, rfl, rfl⟩ := hrel
    by_cases hlt : j < n
    · obtain ⟨ad, z, rfl, hz, hz2, hc⟩ := G3.out j hlt
      rw [marks_get hlt] at hz
      obtain rfl : k + (j : Int) = z := by simpa using hz
      clear hz hz2
      go_wp2
      go_round
      case rel => exact ⟨j + 1, by omega, by go_num, by go_num⟩
      case measure => simp [intOf]; omega
    · have : j = n := by omega
      subst this
      go_wp2
      go_ret
      exact ⟨rfl, rfl⟩
end Go.Proofs.Ytofabikjjkapmaa

set_option linter.unusedVariables false
set_option linter.unusedSimpArgs false
namespace Go.Proofs.Ytofabikjjkapmaa
open Go.RowKit

theorem T_row : ElemT Try.prog 22 34 (.slice none 0 0) 24 := ⟨Try.underlying22, by kernel_rfl, rfl, by omega⟩

abbrev tI : TypeId := 2
abbrev tL : TypeId := 34

/-- sizes: each list is short -/
def Short (xss : List (List Int)) : Prop := xss.length ≤ 4294967296 ∧ ∀ zs ∈ xss, zs.length ≤ 4294967296

theorem set_next {vs : List Value} {k n : Nat} {u z : Value} (hk : vs.length = k) (hn : k < n) : (vs ++ List.replicate (n - k) z).set k u = (vs ++ [u]) ++ List.replicate (n - (k + 1)) z := by
  subst hk
  rw [List.set_append_right _ _ (Nat.le_refl _), Nat.sub_self, List.append_assoc]
  congr 1
  rw [show n - vs.length = (n - (vs.length + 1)) + 1 by omega, List.replicate_succ]
  rfl

set_option maxHeartbeats 1000000 in
theorem l_toInt64SS (w : World) (a : Value) (xss : List (List Int)) (ha : Rows w a xss) (hsh : Short xss) :
    Calls Try.prog 7 #[a] w fun e w' => ∃ v, e = .returned v ∧ OR w' w.heap.size w'.heap.size tL tI v xss ∧ Below w.heap.size w w' := by
  obtain ⟨A, c, rfl, h1, h2, h3⟩ := ha.open_
  have hn := hsh.1
  have HS := Lib.hid hsh.2
  have H3 := Lib.hid h3
  clear h3 ha hsh
  go_enter Try.func7, Try.ntmps7
  go_wp2_with (at_make; refine wpList_mk rfl _ _ _ rfl _ _ _ T_row xss.length _ rfl rfl rfl (by omega) _ ?_; intro w1 hown hb hs1; have HOWN := Lib.hid hown; have HB1 := Lib.hid hb; clear hown hb)
  go_loopw [4] (fun i wr => ∃ (k : Nat) (vs : List Value), k ≤ xss.length ∧ i = .int .i64 k ∧ Own wr w.heap.size tL (.slice (some ⟨w.heap.size, 0, none⟩) xss.length xss.length) (vs ++ List.replicate (xss.length - k) (.slice none 0 0)) ∧
    RowsOwn wr w.heap.size wr.heap.size tI vs (xss.take k) ∧ Below w.heap.size w wr ∧ w.heap.size < wr.heap.size) (fun i _ => xss.length - (intOf i).toNat)
  case atStart => exact ⟨0, [], Nat.zero_le _, rfl, by simpa using HOWN.out, by simpa using RowsOwn.nil _ _ _ _, HB1.out, hs1⟩
  case round =>
    obtain ⟨k, vs, hk, rfl, hown, hrows, hb, hsz⟩ := hrel
    have hvl : vs.length = k := by rw [hrows.1]; simp; omega
    have HO := Lib.hid hown
    have HR := Lib.hid hrows
    have HB := Lib.hid hb
    have HV := Lib.hid hvl
    clear hown hrows hb hvl
    by_cases hlt : k < xss.length
    · obtain ⟨ad, u, zs, rfl, hz, hu, hc0⟩ := H3.out k hlt
      have hc : wr.cell? (ad.add k) = some u := by
        rw [HB.out.cell (by rw [block_add]; have := World.block_lt_of_cell? w _ hc0; rwa [block_add] at this)]; exact hc0
      have HU := Lib.hid (hu.below HB.out)
      have hzs := HS.out zs (List.mem_of_getElem? hz)
      have HZ := Lib.hid hz
      clear hz hu hc0
      go_wp2_with fail
      refine (l_toInt64S _ _ _ HU.out hzs).mono ?_
      rintro e w2 ⟨v2, rfl, ho2, hb2⟩
      obtain ⟨A2, c2, hv2, _, _, _⟩ := ho2.ints.open_
      subst hv2
      have HO2 := Lib.hid (HO.out.below hb2)
      obtain ⟨u0, hu0, hcg, hfg, hg2, hg1, hown', hgr⟩ := HO2.out.storeAt (k := k) (by simp [HV.out]; omega) (.slice A2 zs.length c2)
      rw [set_next HV.out hlt] at hown'
      have hsz2 : w.heap.size < w2.heap.size := Nat.lt_of_lt_of_le hsz hb2.size
      have hne : (Value.slice A2 zs.length c2).ownBlock = none ∨ (Value.slice A2 zs.length c2).ownBlock ≠ some w.heap.size := by
        rcases ho2.1.cases with ⟨e, _⟩ | ⟨g, cap, cur, e, hgge, _⟩
        · exact .inl (by rw [e]; rfl)
        · refine .inr ?_
          rw [e]
          simp only [Value.ownBlock, ne_eq, Option.some.injEq]
          omega
      have HN := Lib.hid hown'
      have hr2 := (HR.out.below hb2).mono (Nat.le_refl _) hb2.size
      have hr3 := hr2.snoc (u := .slice A2 zs.length c2) (zs := zs) ⟨ho2.mono (by omega), ho2.1.lt⟩ (fun j u' hu' => by
        have hx : (xss.take k)[j]? = some ((xss.take k)[j]'(by rw [← HR.out.1]; exact (List.getElem?_eq_some_iff.1 hu').1)) := List.getElem?_eq_getElem _
        exact apart_of_lt (HR.out.2.1 j u' _ hu' hx).1.1.lt ho2.1.ge)
      have hr4 := hr3.other hgr (fun j u' hu' => by
        by_cases hj : j < vs.length
        · rw [List.getElem?_append_left hj] at hu'
          have hx : (xss.take k)[j]? = some ((xss.take k)[j]'(by rw [← HR.out.1]; exact hj)) := List.getElem?_eq_getElem _
          exact Own.ne_of_type (HR.out.2.1 j u' _ hu' hx).1.1 HO.out (by decide)
        · have hj' := (List.getElem?_eq_some_iff.1 hu').1
          simp at hj'
          have : j = vs.length := by omega
          subst this
          rw [List.getElem?_append_right (Nat.le_refl _)] at hu'
          simp at hu'
          subst hu'
          exact hne)
      have HRN := Lib.hid hr4
      have HBN := Lib.hid ((HB.out.trans (hb2.mono (Nat.le_of_lt hsz))).setCell (p := ⟨w.heap.size, k, none⟩) (Nat.le_refl _) (.slice A2 zs.length c2))
      clear ho2 hb2 hu0 hg1 hown' hgr hne hr2 hr3 hr4
      go_wp2
      go_roundw
      case rel =>
        refine ⟨k + 1, vs ++ [.slice A2 zs.length c2], by omega, by go_num, HN.out, ?_, HBN.out, by simpa [World.setCell] using hsz2⟩
        rw [List.take_add_one, HZ.out]
        exact (HRN.out).mono (Nat.le_refl _) (by simp [World.setCell])
      case measure => simp [intOf]; omega
    · have : k = xss.length := by omega
      subst this
      go_wp2
      go_ret
      refine ⟨_, rfl, ⟨vs, by simpa using HO.out, fun b hb => by simp [Value.ownBlock] at hb; omega, by simpa using HR.out⟩, HB.out⟩
theorem rtake_succ {xs ys : List (List Int)} {k : Nat} {x y : List Int} (h : xs.take k = ys.take k) (hx : xs[k]? = some x) (hy : ys[k]? = some y) (e : x = y) : xs.take (k + 1) = ys.take (k + 1) := by
  rw [List.take_add_one, List.take_add_one, h, hx, hy, e]

set_option maxHeartbeats 1000000 in
theorem l_eqInt64SS (w : World) (a b : Value) (xs ys : List (List Int)) (ha : Rows w a xs) (hb : Rows w b ys) :
    Calls Try.prog 10 #[a, b] w fun e w' => e = .returned (.bool (decide (xs = ys))) ∧ ∃ n, w' = w.drewN n := by
  obtain ⟨A, c, rfl, h1, h2, h3⟩ := ha.open_
  obtain ⟨B, d, rfl, g1, g2, g3⟩ := hb.open_
  clear ha hb
  have H3 := Lib.hid h3
  have G3 := Lib.hid g3
  clear h3 g3
  by_cases hl : xs.length = ys.length
  · have hl' : (((xs.length : Nat) : Int) != ((ys.length : Nat) : Int)) = false := by simp [hl]
    have HL := Lib.hid hl
    clear hl
    have g4 : ys.length ≤ xs.length := by rw [HL.out]; omega
    have g5 : xs.length ≤ ys.length := by rw [HL.out]; omega
    go_enter Try.func10, Try.ntmps10
    go_wp2
    go_loopw [5] (fun i wr => ∃ k n : Nat, k ≤ xs.length ∧ i = .int .i64 k ∧ xs.take k = ys.take k ∧ wr = w.drewN n) (fun i _ => xs.length - (intOf i).toNat)
    case atStart => exact ⟨0, 0, Nat.zero_le _, rfl, rfl, rfl⟩
    case round =>
      obtain ⟨k, n, hk, rfl, ht, rfl⟩ := hrel
      have HT := Lib.hid ht
      clear ht
      by_cases hlt : k < xs.length
      · obtain ⟨ad, u, z, rfl, hz, hz2, hc⟩ := H3.out k hlt
        obtain ⟨ad', u', y, rfl, hy, hy2, hc'⟩ := G3.out k (by omega)
        have HZ := Lib.hid hz
        have HY := Lib.hid hy
        have HZ2 := Lib.hid hz2
        have HY2 := Lib.hid hy2
        clear hz hy hz2 hy2
        go_wp2_with fail
        go_quiet ((go_at_call 18; exact quiet_more (l_eqInt64S _ _ _ _ _ (HZ2.out.drewN _) (HY2.out.drewN _))))
        go_wp2_with fail
        · have hne : (!decide (z = y)) = true := by assumption
          go_ret
          refine ⟨ret_bool ?_, _, World.drewN_drewN _ _ _⟩
          symm
          simp only [decide_eq_false_iff_not]
          rintro rfl
          have := HZ.out.symm.trans HY.out
          simp at this hne
          exact hne this
        · have hne : (!decide (z = y)) = false := by assumption
          go_roundw
          case rel => exact ⟨k + 1, _, by omega, by go_num, rtake_succ HT.out HZ.out HY.out (by simpa using hne), rfl⟩
          case measure => simp [intOf]; omega
      · have : k = xs.length := by omega
        subst this
        go_wp2_with fail
        go_ret
        refine ⟨ret_bool ?_, _, rfl⟩
        have e := HT.out
        rw [List.take_length, List.take_of_length_le (by omega)] at e
        simp [e]
  · have hl' : (((xs.length : Nat) : Int) != ((ys.length : Nat) : Int)) = true := by simp; omega
    have HL := Lib.hid hl
    clear hl
    go_enter Try.func10, Try.ntmps10
    go_wp2
    go_ret
    refine ⟨ret_bool ?_, 0, rfl⟩
    have := HL.out
    symm
    simp only [decide_eq_false_iff_not]
    rintro rfl
    exact this rfl

def szI (left : Int) (n : Nat) : Int := if left - n < 0 then -1 else left - n
def szR : Int → List (List Int) → Int
  | left, [] => left
  | left, zs :: r => if szI left zs.length < 0 then -1 else szR (szI left zs.length) r
def szRows (left : Int) (xss : List (List Int)) : Int := if left - xss.length < 0 then -1 else szR (left - xss.length) xss
theorem szI_le {left : Int} {n : Nat} (h : 0 ≤ szI left n) : (n : Int) ≤ left ∧ szI left n ≤ left := by
  unfold szI at *
  split at h <;> omega
theorem szR_le : ∀ {xss : List (List Int)} {left : Int}, 0 ≤ szR left xss → szR left xss ≤ left ∧ ∀ zs ∈ xss, (zs.length : Int) ≤ left
  | [], left, h => ⟨Int.le_refl _, fun zs hz => by simp at hz⟩
  | zs :: r, left, h => by
    unfold szR at h ⊢
    split at h
    · omega
    · rename_i h1
      rw [if_neg h1]
      have h2 := szI_le (left := left) (n := zs.length) (by omega)
      have h3 := szR_le (xss := r) h
      refine ⟨by omega, fun ys hy => ?_⟩
      rcases List.mem_cons.1 hy with rfl | hy
      · exact h2.1
      · have := h3.2 ys hy; omega
theorem szRows_short {left : Int} {xss : List (List Int)} (h : 0 ≤ szRows left xss) (h1 : left ≤ 4294967296) : Short xss ∧ szRows left xss ≤ left := by
  unfold szRows at *
  split at h
  · omega
  · rename_i h0
    have := szR_le h
    rw [if_neg h0]
    exact ⟨⟨by omega, fun zs hz => by have := this.2 zs hz; omega⟩, by omega⟩

set_option maxHeartbeats 400000 in
theorem l_szInt64S (w : World) (a : Value) (zs : List Int) (left : Int) (ha : Ints w a zs) (h0 : 0 ≤ left) (h1 : left ≤ 4294967296) :
    Calls Try.prog 22 #[a, .int .i64 left] w fun e w' => e = .returned (.int .i64 (szI left zs.length)) ∧ w = w' := by
  obtain ⟨A, c, rfl, g1, g2, g3⟩ := ha.open_
  clear ha g3
  by_cases h : left - zs.length < 0
  · have HF := Lib.hid (show szI left zs.length = -1 by simp [szI, h])
    go_enter Try.func22, Try.ntmps22
    go_wp2
    go_ret
    exact ⟨ret_int HF.out.symm, rfl⟩
  · have HF := Lib.hid (show szI left zs.length = left - zs.length by simp [szI, h])
    go_enter Try.func22, Try.ntmps22
    go_wp2
    go_ret
    exact ⟨ret_int HF.out.symm, rfl⟩

theorem szR_drop {left : Int} {xss : List (List Int)} {k : Nat} {zs : List Int} (h : xss[k]? = some zs) : szR left (xss.drop k) = if szI left zs.length < 0 then -1 else szR (szI left zs.length) (xss.drop (k + 1)) := by
  have hk := (List.getElem?_eq_some_iff.1 h)
  obtain ⟨hk1, hk2⟩ := hk
  rw [List.drop_eq_getElem_cons hk1, hk2]
  rfl

set_option maxHeartbeats 1000000 in
theorem l_szInt64SS (w : World) (a : Value) (xss : List (List Int)) (left : Int) (ha : Rows w a xss) (h0 : 0 ≤ left) (h1 : left ≤ 4294967296) :
    Calls Try.prog 5 #[a, .int .i64 left] w fun e w' => e = .returned (.int .i64 (szRows left xss)) ∧ w = w' := by
  obtain ⟨A, c, rfl, g1, g2, g3⟩ := ha.open_
  have G3 := Lib.hid g3
  clear ha g3
  by_cases h : left - xss.length < 0
  · have HF := Lib.hid (show szRows left xss = -1 by simp [szRows, h])
    go_enter Try.func5, Try.ntmps5
    go_wp2
    go_ret
    exact ⟨ret_int HF.out.symm, rfl⟩
  · have HF := Lib.hid (show szRows left xss = szR (left - xss.length) xss by simp [szRows, h])
    go_enter Try.func5, Try.ntmps5
    go_wp2
    go_loop [1, 5] (fun l i => ∃ (k : Nat) (m : Int), k ≤ xss.length ∧ i = .int .i64 k ∧ l = .int .i64 m ∧ 0 ≤ m ∧ m ≤ 4294967296 ∧ Hid (szR m (xss.drop k) = szR (left - xss.length) xss)) (fun _ i => xss.length - (intOf i).toNat)
    case atStart => exact ⟨0, _, Nat.zero_le _, rfl, rfl, by omega, by omega, rfl⟩
    case round =>
      obtain ⟨k, m, hk, rfl, rfl, hm0, hm1, hI⟩ := hrel
      clear h h0 h1
      by_cases hlt : k < xss.length
      · obtain ⟨ad, u, zs, rfl, hz, hu, hc⟩ := G3.out k hlt
        have HD := Lib.hid (szR_drop (left := m) hz)
        have HU := Lib.hid hu
        clear hz hu
        by_cases hs : szI m zs.length < 0
        · have HS := Lib.hid hs
          go_wp2_with (go_at_call 22; refine (l_szInt64S _ _ _ _ HU.out (by omega) (by omega)).mono ?_; rintro e w' ⟨rfl, rfl⟩)
          go_ret
          refine ⟨ret_int ?_, rfl⟩
          rw [HF.out, ← hI.out, HD.out, if_pos HS.out]
        · have hle := szI_le (left := m) (n := zs.length) (by omega)
          have HS := Lib.hid hs
          go_wp2_with (go_at_call 22; refine (l_szInt64S _ _ _ _ HU.out (by omega) (by omega)).mono ?_; rintro e w' ⟨rfl, rfl⟩)
          go_round
          case rel =>
            refine ⟨k + 1, _, by omega, by go_num, rfl, by omega, by omega, ?_⟩
            unfold Hid
            rw [← hI.out, HD.out, if_neg (by have := HS.out; omega)]
          case measure => simp [intOf]; omega
      · have : k = xss.length := by omega
        subst this
        go_wp2_with fail
        go_ret
        refine ⟨ret_int ?_, rfl⟩
        rw [HF.out, ← hI.out, List.drop_length]
        rfl

/-- a tableau that came in -/
def TabArg (w : World) (v : Value) (A : List (List Int)) (Bs : List Int) : Prop := ∃ va vb, v = .agg #[va, vb] ∧ Rows w va A ∧ Ints w vb Bs
/-- an owned tableau: the rows, the row of rows and the weights lie in blocks of their own -/
def OT (w : World) (B C : Nat) (v : Value) (A : List (List Int)) (Bs : List Int) : Prop :=
  ∃ va vb vs, v = .agg #[va, vb] ∧ Own w B tL va vs ∧ (∀ b, va.ownBlock = some b → b < C) ∧ RowsOwn w B C tI vs A ∧ OI w B C tI vb Bs ∧ ∀ (k : Nat) (u : Value), vs[k]? = some u → Apart u vb

section
variable {w w' : World} {B C B' C' : Nat} {v : Value} {A : List (List Int)} {Bs : List Int}
theorem TabArg.below (h : TabArg w v A Bs) (hb : Below w.heap.size w w') : TabArg w' v A Bs := by
  obtain ⟨va, vb, rfl, h1, h2⟩ := h
  exact ⟨va, vb, rfl, h1.below hb, h2.below hb⟩
theorem TabArg.drewN (h : TabArg w v A Bs) (n : Nat) : TabArg (w.drewN n) v A Bs := h
theorem OT.arg (h : OT w B C v A Bs) : TabArg w v A Bs := by
  obtain ⟨va, vb, vs, rfl, h1, h2, h3, h4, h5⟩ := h
  exact ⟨va, vb, rfl, OR.rows ⟨vs, h1, h2, h3⟩, h4.ints⟩
theorem OT.below (h : OT w B C v A Bs) (hb : Below w.heap.size w w') : OT w' B C v A Bs := by
  obtain ⟨va, vb, vs, rfl, h1, h2, h3, h4, h5⟩ := h
  exact ⟨va, vb, vs, rfl, h1.below hb, h2, h3.below hb, h4.below hb, h5⟩
theorem OT.drewN (h : OT w B C v A Bs) (n : Nat) : OT (w.drewN n) B C v A Bs := h
theorem OT.kept (h : OT w B C v A Bs) (hc : Chg B' C' w w') (hd : C ≤ B' ∨ C' ≤ B) : OT w' B C v A Bs := by
  obtain ⟨va, vb, vs, rfl, h1, h2, h3, h4, h5⟩ := h
  exact ⟨va, vb, vs, rfl, h1.of_block fun b hb => hc.block b (h1.lt b hb) (by have := h1.ge b hb; have := h2 b hb; omega), h2, h3.kept hc hd, h4.kept hc hd, h5⟩
theorem OT.mono (h : OT w B C v A Bs) (h1 : B' ≤ B) (h2 : C ≤ C') : OT w B' C' v A Bs := by
  obtain ⟨va, vb, vs, rfl, g1, g2, g3, g4, g5⟩ := h
  exact ⟨va, vb, vs, rfl, g1.mono h1, fun b hb => Nat.lt_of_lt_of_le (g2 b hb) h2, g3.mono h1 h2, g4.mono h1 h2, g5⟩
theorem RowsOwn.apart {M : Nat} {vs : List Value} {u' : Value} {e : TypeId} (h : RowsOwn w B C e vs A) (hu : ∀ b, u'.ownBlock = some b → C ≤ b ∨ b < B) : ∀ (k : Nat) (u : Value), vs[k]? = some u → Apart u u' := by
  intro k u hk
  have hx : A[k]? = some (A[k]'(by rw [← h.1]; exact (List.getElem?_eq_some_iff.1 hk).1)) := List.getElem?_eq_getElem _
  have ho := h.2.1 k u _ hk hx
  unfold Apart
  cases hb : u.ownBlock with
  | none => exact .inl rfl
  | some b =>
    refine .inr fun e => ?_
    have h1 := ho.2 b hb
    have h2 := ho.1.1.ge b hb
    have h3 := hu b e.symm
    omega
end

theorem OT.open_ {w : World} {B C : Nat} {v : Value} {A : List (List Int)} {Bs : List Int} (h : OT w B C v A Bs) : ∃ Aa ca Ab cb, v = .agg #[.slice Aa A.length ca, .slice Ab Bs.length cb] := by
  obtain ⟨va, vb, rfl, h1, h2⟩ := h.arg
  obtain ⟨Aa, ca, rfl, _⟩ := h1.open_
  obtain ⟨Ab, cb, rfl, _⟩ := h2.open_
  exact ⟨_, _, _, _, rfl⟩
theorem TabArg.open_ {w : World} {v : Value} {A : List (List Int)} {Bs : List Int} (h : TabArg w v A Bs) : ∃ Aa ca Ab cb, v = .agg #[.slice Aa A.length ca, .slice Ab Bs.length cb] := by
  obtain ⟨va, vb, rfl, h1, h2⟩ := h
  obtain ⟨Aa, ca, rfl, _⟩ := h1.open_
  obtain ⟨Ab, cb, rfl, _⟩ := h2.open_
  exact ⟨_, _, _, _, rfl⟩
end Go.Proofs.Ytofabikjjkapmaa

/- The laws' marking and holding, at lists of lists and at tableaus. -/
set_option linter.unusedVariables false
set_option linter.unusedSimpArgs false
namespace Go.Proofs.Ytofabikjjkapmaa
open Go.RowKit

def tot (xss : List (List Int)) : Nat := xss.flatten.length
theorem tot_cons (zs : List Int) (r : List (List Int)) : tot (zs :: r) = zs.length + tot r := by simp [tot]
theorem tot_take_succ {xss : List (List Int)} {j : Nat} {zs : List Int} (h : xss[j]? = some zs) : tot (xss.take (j + 1)) = tot (xss.take j) + zs.length := by
  unfold tot
  rw [List.take_add_one, h]; simp
theorem tot_take_le (xss : List (List Int)) (j : Nat) : tot (xss.take j) ≤ tot xss := by
  unfold tot
  conv => rhs; rw [← List.take_append_drop j xss]
  rw [List.flatten_append, List.length_append]; omega
theorem len_le_tot {xss : List (List Int)} {j : Nat} {zs : List Int} (h : xss[j]? = some zs) : tot (xss.take j) + zs.length ≤ tot xss := by
  have := tot_take_le xss (j + 1)
  rw [tot_take_succ h] at this
  exact this

def markRows : Int → List (List Int) → List (List Int)
  | _, [] => []
  | k, zs :: r => marks k zs.length :: markRows (k + (zs.length : Int)) r
theorem markRows_len : ∀ (k : Int) (xss : List (List Int)), (markRows k xss).length = xss.length
  | _, [] => rfl
  | k, zs :: r => by simp [markRows, markRows_len _ r]
theorem markRows_get : ∀ (k : Int) (xss : List (List Int)) (j : Nat) (zs : List Int), xss[j]? = some zs → (markRows k xss)[j]? = some (marks (k + (tot (xss.take j) : Nat)) zs.length)
  | _, [], j, zs, h => by simp at h
  | k, ys :: r, 0, zs, h => by simp at h; subst h; simp [markRows, tot]
  | k, ys :: r, j + 1, zs, h => by
    simp only [List.getElem?_cons_succ] at h
    simp only [markRows, List.getElem?_cons_succ, List.take_succ_cons]
    rw [markRows_get _ r j zs h, tot_cons]
    congr 2
    push_cast
    omega
theorem szR_tot : ∀ {xss : List (List Int)} {left : Int}, 0 ≤ szR left xss → ((tot xss : Nat) : Int) + szR left xss ≤ left
  | [], left, h => by simp [tot, szR]
  | zs :: r, left, h => by
    unfold szR at h ⊢
    rw [tot_cons]
    split at h
    · omega
    · rename_i h1
      rw [if_neg h1]
      have h2 : szI left zs.length = left - zs.length := by unfold szI at h1 ⊢; split <;> simp_all
      rw [h2] at h ⊢
      have := szR_tot h
      push_cast
      omega
/-- the first j lists are marked -/
def markTo (k : Int) (xss : List (List Int)) (j : Nat) : List (List Int) := (markRows k xss).take j ++ xss.drop j
theorem markTo_zero (k : Int) (xss : List (List Int)) : markTo k xss 0 = xss := by simp [markTo]
theorem markTo_all (k : Int) (xss : List (List Int)) : markTo k xss xss.length = markRows k xss := by
  unfold markTo
  rw [List.drop_length, List.append_nil, List.take_of_length_le (by rw [markRows_len]; exact Nat.le_refl _)]
theorem markTo_get {k : Int} {xss : List (List Int)} {j : Nat} {zs : List Int} (h : xss[j]? = some zs) : (markTo k xss j)[j]? = some zs := by
  have hj := (List.getElem?_eq_some_iff.1 h).1
  unfold markTo
  rw [List.getElem?_append_right (by simp [markRows_len]; omega)]
  simp [markRows_len, Nat.min_eq_left (Nat.le_of_lt hj), h]
theorem markTo_set {k : Int} {xss : List (List Int)} {j : Nat} {zs : List Int} (h : xss[j]? = some zs) : (markTo k xss j).set j (marks (k + (tot (xss.take j) : Nat)) zs.length) = markTo k xss (j + 1) := by
  have hj := (List.getElem?_eq_some_iff.1 h).1
  have hm := markRows_get k xss j zs h
  unfold markTo
  have hl : ((markRows k xss).take j).length = j := by simp [markRows_len]; omega
  rw [List.set_append_right _ _ (by omega), hl, Nat.sub_self, List.take_add_one, hm]
  rw [List.drop_eq_getElem_cons hj]
  simp only [List.set_cons_zero, List.append_assoc, Option.toList, List.cons_append, List.nil_append]

theorem RowsOwn.set {w w' : World} {B C : Nat} {e : TypeId} {vs : List Value} {xss : List (List Int)} {j : Nat} {u : Value} {zs : List Int} (h : RowsOwn w B C e vs xss) (hu : vs[j]? = some u) (hg : w.grownBy w' u.ownBlock) (hn : OwnInts w' B e u zs) : RowsOwn w' B C e vs (xss.set j zs) := by
  obtain ⟨h1, h2, h3⟩ := h
  refine ⟨by simp [h1], fun k u' zs' hu' hz' => ?_, h3⟩
  have hj := (List.getElem?_eq_some_iff.1 hu).1
  by_cases hk : k = j
  · subst hk
    rw [hu] at hu'
    obtain rfl : u = u' := by simpa using hu'
    have hz : xss[k]? = some (xss[k]'(by omega)) := List.getElem?_eq_getElem _
    rw [List.getElem?_set_self (by omega)] at hz'
    obtain rfl : zs = zs' := by simpa using hz'
    exact ⟨hn, (h2 k u _ hu hz).2⟩
  · rw [List.getElem?_set_ne (by omega)] at hz'
    have ho := h2 k u' zs' hu' hz'
    have hap : Apart u' u := by
      by_cases hlt : k < j
      · exact h3 k j u' u hlt hu' hu
      · exact (h3 j k u u' (by omega) hu hu').symm
    exact ⟨ho.1.kept hg hap, ho.2⟩

/-- no block has turned but those of the values vs -/
def Far (vs : List Value) (w w' : World) : Prop := ∀ b, b < w.heap.size → (∀ (i : Nat) (u : Value), vs[i]? = some u → u.ownBlock ≠ some b) → w'.heap[b]? = w.heap[b]?
theorem Far.refl (vs : List Value) (w : World) : Far vs w w := fun _ _ _ => rfl
theorem Far.grown {vs : List Value} {w w1 w2 : World} {j : Nat} {u : Value} (h : Far vs w w1) (hs : w.heap.size ≤ w1.heap.size) (hu : vs[j]? = some u) (hg : w1.grownBy w2 u.ownBlock) : Far vs w w2 :=
  fun b hb hn => (hg.block b (Nat.lt_of_lt_of_le hb hs) (fun e => hn j u hu e.symm)).trans (h b hb hn)
theorem Far.kept {vs : List Value} {w w' : World} {B C : Nat} {e : TypeId} {v : Value} {zs : List Int} (h : Far vs w w') (ho : OI w B C e v zs) (ha : ∀ (i : Nat) (u : Value), vs[i]? = some u → Apart u v) : OI w' B C e v zs :=
  ⟨⟨ho.1.1.of_block fun b hb => h b (ho.1.1.lt b hb) (fun i u hu e => (ha i u hu).elim (fun h1 => by rw [h1] at e; cases e) (fun h1 => h1 (e.trans hb.symm))), ho.1.2⟩, ho.2⟩

set_option maxHeartbeats 1000000 in
theorem l_markInt64SS (w : World) (B C : Nat) (v : Value) (vs : List Value) (xss : List (List Int)) (k : Int) (ho1 : Own w B tL v vs) (ho3 : RowsOwn w B C tI vs xss) (hn : tot xss ≤ 4294967296) (h0 : 0 ≤ k) (h1 : k ≤ 4294967296) :
    Calls Try.prog 11 #[v, .int .i64 k] w fun e w' => e = .returned (.int .i64 (k + (tot xss : Nat))) ∧ Own w' B tL v vs ∧ RowsOwn w' B C tI vs (markRows k xss) ∧ Chg B C w w' ∧ Far vs w w' := by
  have hc0 := ho1.cells
  obtain ⟨A, c, rfl, l1, l2, -⟩ := hc0
  have hvl := ho3.1
  rw [hvl] at l1
  have l2' : c ≤ 9223372036854775807 := by simpa [maxLen] using l2
  have HL := Lib.hid hvl
  have HO := Lib.hid ho1
  have HR := Lib.hid ho3
  rw [hvl]
  rw [hvl] at HO
  clear ho1 ho3 hvl l2
  go_enter Try.func11, Try.ntmps11
  go_wp2_with fail
  go_loopw [1, 5] (fun x i wr => ∃ j : Nat, j ≤ xss.length ∧ i = .int .i64 j ∧ x = .int .i64 (k + (tot (xss.take j) : Nat)) ∧ Own wr B tL (.slice A xss.length c) vs ∧ RowsOwn wr B C tI vs (markTo k xss j) ∧ Chg B C w wr ∧ Far vs w wr) (fun _ i _ => xss.length - (intOf i).toNat)
  case atStart => exact ⟨0, Nat.zero_le _, rfl, by simp [tot], HO.out, by rw [markTo_zero]; exact HR.out, Chg.refl _ _ _, Far.refl _ _⟩
  case round =>
    obtain ⟨j, hj, rfl, rfl, hown, hrow, hch, hfar⟩ := hrel
    have HF := Lib.hid hfar
    clear hfar
    clear HO HR
    have HO := Lib.hid hown
    have HR := Lib.hid hrow
    have HC := Lib.hid hch
    clear hown hrow hch
    by_cases hlt : j < xss.length
    · have hu : vs[j]? = some (vs[j]'(by rw [HL.out]; exact hlt)) := List.getElem?_eq_getElem _
      have hz : xss[j]? = some (xss[j]'hlt) := List.getElem?_eq_getElem _
      generalize vs[j]'(by rw [HL.out]; exact hlt) = u at hu
      generalize xss[j]'hlt = zs at hz
      have hoi := HR.out.2.1 j u zs hu (markTo_get hz)
      obtain ⟨A', c', he, -, -, g3⟩ := HO.out.cells
      simp only [Value.slice.injEq] at he
      obtain ⟨rfl, -, rfl⟩ := he
      obtain ⟨ad, rfl, hc⟩ := g3 j u hu
      have hle := len_le_tot hz
      have HS := Lib.hid (tot_take_succ hz)
      have HSET := Lib.hid (markTo_set (k := k) hz)
      have HZ := Lib.hid hz
      have HU := Lib.hid hu
      have HOI := Lib.hid hoi
      clear hz hu hoi g3
      generalize tot (xss.take j) = m at hle HS HSET ⊢
      go_wp2_with fail
      refine (l_markInt64S _ B u zs (k + (m : Int)) HOI.out.1 (by omega) (by omega) (by omega)).mono ?_
      rintro e w1 ⟨rfl, hown1, hgr1, -⟩
      have HM := Lib.hid hown1
      have HG := Lib.hid hgr1
      clear hown1 hgr1 hc
      go_wp2_with fail
      go_roundw
      case rel =>
        have hne : (Value.slice (some ad) xss.length c).ownBlock = none ∨ (Value.slice (some ad) xss.length c).ownBlock ≠ u.ownBlock := HO.out.ne_of_type HOI.out.1.1 (by decide)
        refine ⟨j + 1, by omega, by go_num, by rw [HS.out]; push_cast; go_num, HO.out.kept HG.out hne, ?_, HC.out.trans (Chg.of_grown HG.out fun b hb => ⟨HOI.out.1.1.ge b hb, HOI.out.2 b hb⟩), HF.out.grown HC.out.size HU.out HG.out⟩
        rw [← HSET.out]
        exact HR.out.set HU.out HG.out HM.out
      case measure => simp [intOf]; omega
    · have : j = xss.length := by omega
      subst this
      go_wp2_with fail
      go_ret
      refine ⟨ret_int (by rw [List.take_length]), HO.out, ?_, HC.out, HF.out⟩
      rw [← markTo_all]
      exact HR.out

end Go.Proofs.Ytofabikjjkapmaa

set_option maxRecDepth 100000
set_option linter.unusedVariables false
set_option linter.unusedSimpArgs false
namespace Go.Proofs.Ytofabikjjkapmaa
open Go.RowKit

theorem n_to_rows (w : World) (v : Value) (xss : List (List Int)) (ha : Rows w v xss) (hn : Short xss) :
    Calls Try.prog 7 #[v] w fun e w' => ∃ u, e = .returned u ∧ OR w' w.heap.size w'.heap.size tL tI u xss ∧ Below w.heap.size w w' := l_toInt64SS w v xss ha hn
theorem n_eq_rows (w : World) (v v' : Value) (xss : List (List Int)) (ha : Rows w v xss) (hb : Rows w v' xss) :
    Calls Try.prog 10 #[v, v'] w fun e w' => e = .returned (.bool true) ∧ Below w.heap.size w w' :=
  (l_eqInt64SS w v v' xss xss ha hb).mono (by rintro e w' ⟨rfl, n, rfl⟩; exact ⟨by simp, below_drewN (Below.refl _ _) n⟩)
theorem n_mark_rows (w : World) (B C : Nat) (v : Value) (xss : List (List Int)) (k : Int) (ho : OR w B C tL tI v xss) (hn : tot xss ≤ 1073741824) (h0 : 0 ≤ k) (h1 : k ≤ 1073741824) :
    Calls Try.prog 11 #[v, .int .i64 k] w fun e w' => e = .returned (.int .i64 (k + (tot xss : Nat))) ∧ OR w' B C tL tI v (markRows k xss) ∧ Chg B C w w' := by
  obtain ⟨vs, h1', h2, h3⟩ := ho
  exact (l_markInt64SS w B C v vs xss k h1' h3 (by omega) h0 (by omega)).mono (by rintro e w' ⟨rfl, g1, g2, g3, -⟩; exact ⟨rfl, ⟨vs, g1, h2, g2⟩, g3⟩)
theorem szRows_tot {left : Int} {xss : List (List Int)} (h : 0 ≤ szRows left xss) : ((tot xss : Nat) : Int) + szRows left xss ≤ left := by
  unfold szRows at h ⊢
  by_cases h1 : left - xss.length < 0
  · rw [if_pos h1] at h; omega
  · rw [if_neg h1] at h ⊢
    have := szR_tot h
    omega
end Go.Proofs.Ytofabikjjkapmaa

set_option linter.unusedVariables false
set_option linter.unusedSimpArgs false
namespace Go.Proofs.Ytofabikjjkapmaa

/-- lo ≤ n ≤ hi, as a test -/
def inR (n lo hi : Int) : Bool := decide (lo ≤ n) && decide (n ≤ hi)
theorem inR_iff {n lo hi : Int} : inR n lo hi = true ↔ lo ≤ n ∧ n ≤ hi := by simp [inR]
theorem inR_not {n lo hi : Int} : inR n lo hi = false ↔ n < lo ∨ hi < n := by
  rw [← Bool.not_eq_true, inR_iff]; omega
def isNum (z : Int) : Bool := inR z 0 10006
def nums (zs : List Int) : Bool := zs.all isNum
theorem nums_iff {zs : List Int} : nums zs = true ↔ ∀ z ∈ zs, 0 ≤ z ∧ z ≤ 10006 := by simp [nums, isNum, inR_iff]
/-- the first index at which p holds, or -1 -/
def idxF {α : Type} (p : α → Bool) (l : List α) : Int := match l.findIdx? p with | some i => (i : Int) | none => -1
theorem idxF_hit {α : Type} {p : α → Bool} {l : List α} {k : Nat} {x : α} (h : ∀ i y, i < k → l[i]? = some y → p y = false) (hx : l[k]? = some x) (hp : p x = true) : idxF p l = (k : Int) := by
  have : l.findIdx? p = some k := by
    rw [List.findIdx?_eq_some_iff_getElem]
    obtain ⟨hk, e⟩ := List.getElem?_eq_some_iff.1 hx
    refine ⟨hk, by rw [e]; exact hp, fun j hj => ?_⟩
    have hj' : j < l.length := by omega
    simp [h j l[j] hj (List.getElem?_eq_getElem hj')]
  simp [idxF, this]
theorem idxF_miss {α : Type} {p : α → Bool} {l : List α} (h : ∀ i y, i < l.length → l[i]? = some y → p y = false) : idxF p l = -1 := by
  have : l.findIdx? p = none := by
    rw [List.findIdx?_eq_none_iff]
    intro x hx
    obtain ⟨i, hi, rfl⟩ := List.getElem_of_mem hx
    simpa using h i l[i] hi (List.getElem?_eq_getElem hi)
  simp [idxF, this]
theorem idxF_nonneg {α : Type} (p : α → Bool) (l : List α) : decide (0 ≤ idxF p l) = l.any p := by
  unfold idxF
  cases h : l.findIdx? p with
  | none =>
    rw [List.findIdx?_eq_none_iff] at h
    have : l.any p = false := by rw [List.any_eq_false]; intro x hx; simp [h x hx]
    rw [this]; decide
  | some i =>
    rw [List.findIdx?_eq_some_iff_getElem] at h
    obtain ⟨hk, e, _⟩ := h
    have : l.any p = true := List.any_eq_true.2 ⟨_, List.getElem_mem hk, e⟩
    rw [this]; simp
theorem any_not_nums (zs : List Int) : (zs.any fun z => !isNum z) = !nums zs := by
  unfold nums
  induction zs with
  | nil => rfl
  | cons z zs ih => simp only [List.any_cons, List.all_cons, ih]; cases isNum z <;> simp
theorem nums_false {zs : List Int} {k : Nat} {z : Int} (h : zs[k]? = some z) (hz : isNum z = false) : nums zs = false := by
  unfold nums
  rw [List.all_eq_false]
  exact ⟨z, List.mem_of_getElem? h, by simp [hz]⟩
theorem nums_all {zs : List Int} (h : ∀ i y, i < zs.length → zs[i]? = some y → isNum y = true) : nums zs = true := by
  unfold nums
  rw [List.all_eq_true]
  intro x hx
  obtain ⟨i, hi, rfl⟩ := List.getElem_of_mem hx
  exact h i _ hi (List.getElem?_eq_getElem hi)

end Go.Proofs.Ytofabikjjkapmaa

