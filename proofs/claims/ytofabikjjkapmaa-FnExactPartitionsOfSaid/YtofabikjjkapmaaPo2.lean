/- The walks of the small functions of the laws: copies, comparisons, marks. | The walks of the laws' small functions over lists of lists and tableaus. |  | The laws' helpers, in one form each: for the walks that lawgen3.py prints. | Owned lists whose elements are k cells each (arrays, structs). No program in sight. -/
import Derived.Test.YtofabikjjkapmaaRows
import Derived.Test.YtofabikjjkapmaaPo1
import Derived.WalkLawsBesides
import Derived.Deep.QuietTactic
import Derived.BigQuiet
import Derived.Laws.MakeOwn
set_option linter.unusedVariables false
set_option linter.unusedSimpArgs false
namespace Go.Proofs.Ytofabikjjkapmaa
open Go.RowKit

theorem T_int : ElemT Try.prog 34 2 (.int .i64 0) 8 := ⟨Try.underlying34, by kernel_rfl, rfl, by omega⟩

theorem take_eq_succ {xs ys : List Int} {k : Nat} {x y : Int} (h : xs.take k = ys.take k) (hx : xs[k]? = some x) (hy : ys[k]? = some y) (e : x = y) : xs.take (k + 1) = ys.take (k + 1) := by
  rw [List.take_add_one, List.take_add_one, h, hx, hy, e]

set_option maxHeartbeats 400000 in
theorem l_eqInt64S (w : World) (a b : Value) (xs ys : List Int) (ha : Ints w a xs) (hb : Ints w b ys) :
    Calls Try.prog 18 #[a, b] w fun e w' => e = .returned (.bool (decide (xs = ys))) ∧ ∃ n, w' = w.drewN n := by
  obtain ⟨A, c, rfl, h1, h2, h3⟩ := ha.open_
  obtain ⟨B, d, rfl, g1, g2, g3⟩ := hb.open_
  clear ha hb
  have H3 := Lib.hid h3
  have G3 := Lib.hid g3
  clear h3 g3
  by_cases hl : xs.length = ys.length
  · have hl' : (((xs.length : Nat) : Int) != ((ys.length : Nat) : Int)) = false := by simp [hl]
    have HL := Lib.hid hl
    clear hl
    have g4 : ys.length ≤ xs.length := by rw [HL.out]; omega
    have g5 : xs.length ≤ ys.length := by rw [HL.out]; omega
    go_enter Try.func18, Try.ntmps18
    go_wp2
    go_loopw [5] (fun i wr => ∃ k n : Nat, k ≤ xs.length ∧ i = .int .i64 k ∧ xs.take k = ys.take k ∧ wr = w.drewN n) (fun i _ => xs.length - (intOf i).toNat)
    case atStart => exact ⟨0, 0, Nat.zero_le _, rfl, rfl, rfl⟩
    case round =>
      obtain ⟨k, n, hk, rfl, ht, rfl⟩ := hrel
      have HT := Lib.hid ht
      clear ht
      by_cases hlt : k < xs.length
      · obtain ⟨ad, z, rfl, hz, hz2, hc⟩ := H3.out k hlt
        obtain ⟨ad', y, rfl, hy, hy2, hc'⟩ := G3.out k (by omega)
        have HZ := Lib.hid hz
        have HY := Lib.hid hy
        clear hz hy hz2 hy2
        go_wp2
        go_quiet (fail)
        go_wp2
        · have hne : (z != y) = true := by assumption
          go_ret
          refine ⟨ret_bool ?_, _, World.drewN_drewN _ _ _⟩
          symm
          simp only [decide_eq_false_iff_not]
          rintro rfl
          have := HZ.out.symm.trans HY.out
          simp at this hne
          exact hne this
        · have hne : (z != y) = false := by assumption
          go_roundw
          case rel => exact ⟨k + 1, _, by omega, by go_num, take_eq_succ HT.out HZ.out HY.out (by simpa using hne), rfl⟩
          case measure => simp [intOf]; omega
      · have : k = xs.length := by omega
        subst this
        go_wp2
        go_ret
        refine ⟨ret_bool ?_, _, rfl⟩
        have e := HT.out
        rw [List.take_length, List.take_of_length_le (by omega)] at e
        simp [e]
  · have hl' : (((xs.length : Nat) : Int) != ((ys.length : Nat) : Int)) = true := by simp; omega
    have HL := Lib.hid hl
    clear hl
    go_enter Try.func18, Try.ntmps18
    go_wp2
    go_ret
    refine ⟨ret_bool ?_, 0, rfl⟩
    have := HL.out
    symm
    simp only [decide_eq_false_iff_not]
    rintro rfl
    exact this rfl

theorem set_fill {xs : List Int} {k : Nat} {z : Int} (hk : k < xs.length) (hz : xs[k]? = some z) :
    (ints (xs.take k) ++ List.replicate (xs.length - k) (Value.int .i64 0)).set k (Value.int .i64 z) = ints (xs.take (k + 1)) ++ List.replicate (xs.length - (k + 1)) (Value.int .i64 0) := by
  apply List.ext_getElem?
  intro j
  rw [List.getElem?_set]
  by_cases h1 : k = j
  · subst h1
    rw [if_pos rfl, if_pos (by simp [ints]; omega), List.getElem?_append_left (by simp [ints]; omega)]
    simp [ints, hz]
  · rw [if_neg h1]
    rcases Nat.lt_or_ge j k with h2 | h2
    · rw [List.getElem?_append_left (by simp [ints]; omega), List.getElem?_append_left (by simp [ints]; omega)]
      simp [ints, List.getElem?_take, h2, show j < k + 1 by omega]
    · rw [List.getElem?_append_right (by simp [ints]; omega), List.getElem?_append_right (by simp [ints]; omega)]
      simp only [List.getElem?_replicate, ints_len, List.length_take]
      by_cases h3 : j < xs.length
      · rw [if_pos (by omega), if_pos (by omega)]
      · rw [if_neg (by omega), if_neg (by omega)]

set_option maxHeartbeats 400000 in
theorem l_toInt64S (w : World) (a : Value) (xs : List Int) (ha : Ints w a xs) (hn : xs.length ≤ 4294967296) :
    Calls Try.prog 15 #[a] w fun e w' => ∃ v, e = .returned v ∧ OwnInts w' w.heap.size 2 v xs ∧ Below w.heap.size w w' := by
  obtain ⟨A, c, rfl, h1, h2, h3⟩ := ha.open_
  have HA := Lib.hid ha
  have H3 := Lib.hid h3
  clear h3 ha
  have hmk := run_make T_int xs.length (by omega)
  go_enter Try.func15, Try.ntmps15
  go_wp2
  clear hmk
  go_loopw [4] (fun i wr => ∃ k : Nat, k ≤ xs.length ∧ i = .int .i64 k ∧ Own wr w.heap.size 2 (.slice (some ⟨w.heap.size, 0, none⟩) xs.length xs.length) (ints (xs.take k) ++ List.replicate (xs.length - k) (.int .i64 0)) ∧ Below w.heap.size w wr) (fun i _ => xs.length - (intOf i).toNat)
  case atStart =>
    refine ⟨0, Nat.zero_le _, rfl, ?_, (Below.refl _ _).alloc (Nat.le_refl _) _⟩
    simpa [ints] using own_made w 2 (.int .i64 0) xs.length (by simp only [maxLen]; omega)
  case round =>
    obtain ⟨k, hk, rfl, hown, hb⟩ := hrel
    by_cases hlt : k < xs.length
    · obtain ⟨ad, z, rfl, hz, hz2, hc0⟩ := H3.out k hlt
      have hc : wr.cell? (ad.add k) = some (.int .i64 z) := by
        rw [hb.cell (by rw [block_add]; have := World.block_lt_of_cell? w _ hc0; rwa [block_add] at this)]; exact hc0
      obtain ⟨u0, hu0, hcg, hfg, hg2, hg1, hown', hgr⟩ := hown.storeAt (k := k) (by simp [ints]; omega) (.int .i64 z)
      rw [set_fill hlt hz] at hown'
      have HO := Lib.hid hown'
      have HB := Lib.hid hb
      clear hown hown' hb hz hz2 hc0 hu0 hgr hg1
      go_wp2
      go_roundw
      case rel => exact ⟨k + 1, by omega, by go_num, HO.out, HB.out.setCell (Nat.le_refl _) _⟩
      case measure => simp [intOf]; omega
    · have : k = xs.length := by omega
      subst this
      have HO := Lib.hid hown
      have HB := Lib.hid hb
      clear hown hb
      go_wp2
      go_ret
      refine ⟨_, rfl, ⟨by simpa using HO.out, HA.out.2⟩, HB.out⟩

/-- the marks k, k + 1, .. -/
def marks (k : Int) (n : Nat) : List Int := (List.range n).map fun (i : Nat) => k + (i : Int)
theorem marks_len (k : Int) (n : Nat) : (marks k n).length = n := by simp [marks]
theorem marks_get {k : Int} {n i : Nat} (h : i < n) : (marks k n)[i]? = some (k + (i : Int)) := by simp [marks, h]
theorem marks_in (k : Int) (n : Nat) (h0 : 0 ≤ k) (h1 : k ≤ 1099511627776) (h2 : n ≤ 1099511627776) : ∀ z ∈ marks k n, In64 z := by
  intro z hz
  obtain ⟨i, hi, rfl⟩ := List.mem_map.1 hz
  have := List.mem_range.1 hi
  unfold In64
  omega

theorem set_mark {zs : List Int} {k : Int} {i : Nat} (hi : i < zs.length) :
    (ints (marks k i ++ zs.drop i)).set i (Value.int .i64 (k + (i : Int))) = ints (marks k (i + 1) ++ zs.drop (i + 1)) := by
  apply List.ext_getElem?
  intro j
  rw [List.getElem?_set]
  by_cases h1 : i = j
  · subst h1
    rw [if_pos rfl, if_pos (by simp [ints, marks]; omega)]
    simp only [ints, List.map_append]
    rw [List.getElem?_append_left (by simp [marks])]
    simp [marks]
  · rw [if_neg h1]
    simp only [ints, List.map_append]
    rcases Nat.lt_or_ge j i with h2 | h2
    · rw [List.getElem?_append_left (by simp [marks]; omega), List.getElem?_append_left (by simp [marks]; omega)]
      simp [marks, h2, show j < i + 1 by omega]
    · rw [List.getElem?_append_right (by simp [marks]; omega), List.getElem?_append_right (by simp [marks]; omega)]
      simp only [marks, List.length_map, List.length_range, List.getElem?_map, List.getElem?_drop]
      rw [show i + (j - i) = i + 1 + (j - (i + 1)) by omega]

set_option maxHeartbeats 400000 in
theorem l_markInt64S (w : World) (B : Nat) (v : Value) (zs : List Int) (k : Int) (ho : OwnInts w B 2 v zs) (hn : zs.length ≤ 4294967296) (h0 : 0 ≤ k) (h1 : k ≤ 1099511627776) :
    Calls Try.prog 19 #[v, .int .i64 k] w fun e w' => e = .returned (.int .i64 (k + (zs.length : Int))) ∧ OwnInts w' B 2 v (marks k zs.length) ∧ w.grownBy w' v.ownBlock ∧ w'.heap.size = w.heap.size := by
  obtain ⟨ho1, ho2⟩ := ho
  rcases ho1.cases with ⟨rfl, hz⟩ | ⟨g, cap, cur, rfl, hB, hg, _, hcap, hcm, _⟩
  · obtain rfl : zs = [] := by simpa [ints] using hz
    clear hz
    go_enter Try.func19, Try.ntmps19
    go_wp2
    go_loop [1, 5] (fun x i => x = .int .i64 k ∧ i = .int .i64 0) (fun _ _ => 0)
    case atStart => exact ⟨rfl, rfl⟩
    case round =>
      obtain ⟨rfl, rfl⟩ := hrel
      go_wp2
      go_ret
      exact ⟨by simp, ⟨ho1, by simp [marks]⟩, World.grownBy.refl _ _, rfl⟩
  · rw [ints_len] at ho1 hcap
    have hcap' : zs.length ≤ 9223372036854775807 := by omega
    have hcap2 : cap ≤ 9223372036854775807 := by simpa [maxLen] using hcm
    have HO1 := Lib.hid ho1
    have HO2 := Lib.hid ho2
    clear ho1 ho2 hcm
    simp only [ints_len]
    go_enter Try.func19, Try.ntmps19
    go_wp2
    go_loopw [1, 5] (fun x i wr => ∃ j : Nat, j ≤ zs.length ∧ i = .int .i64 j ∧ x = .int .i64 (k + (j : Int)) ∧ Own wr B 2 (.slice (some ⟨g, 0, none⟩) zs.length cap) (ints (marks k j ++ zs.drop j)) ∧ w.grownBy wr (some g) ∧ wr.heap.size = w.heap.size) (fun _ i _ => zs.length - (intOf i).toNat)
    case atStart => exact ⟨0, Nat.zero_le _, rfl, by simp, by simpa [marks] using HO1.out, World.grownBy.refl _ _, rfl⟩
    case round =>
      obtain ⟨j, hj, rfl, rfl, hown, hgr, hsz⟩ := hrel
      by_cases hlt : j < zs.length
      · obtain ⟨u0, hu0, hcg, hfg, hg2, hg1, hown', hgr'⟩ := hown.storeAt (k := j) (by simp [ints, marks]; omega) (.int .i64 (k + (j : Int)))
        rw [set_mark hlt] at hown'
        have HO := Lib.hid hown'
        have HG := Lib.hid hgr
        have HS := Lib.hid hsz
        clear hown hown' hgr hgr' hu0 hg1 hsz
        go_wp2
        go_roundw
        case rel =>
          refine ⟨j + 1, by omega, by go_num, by go_num, HO.out, ?_, by simpa [World.setCell] using HS.out⟩
          exact ⟨HG.out.os, HG.out.tape, HG.out.output, by simpa [World.setCell] using HG.out.size, fun i hi hne => (Below.heap_setCell _ _ _ i (by rintro rfl; exact hne rfl)).trans (HG.out.block i hi hne)⟩
        case measure => simp [intOf]; omega
      · have : j = zs.length := by omega
        subst this
        have HO := Lib.hid hown
        have HG := Lib.hid hgr
        have HS := Lib.hid hsz
        clear hown hgr hsz
        go_wp2
        go_ret
        refine ⟨rfl, ⟨by simpa using HO.out, marks_in _ _ h0 h1 (by omega)⟩, HG.out, HS.out⟩

set_option maxHeartbeats 400000 in
theorem l_heldInt64S (w : World) (v : Value) (n : Nat) (k : Int) (ho : Ints w v (marks k n)) (hn : n ≤ 4294967296) (h0 : 0 ≤ k) (h1 : k ≤ 1099511627776) :
    Calls Try.prog 40 #[v, .int .i64 k] w fun e w' => e = .returned (.int .i64 (k + (n : Int))) ∧ w = w' := by
  obtain ⟨A, c, rfl, g1, g2, g3⟩ := ho.open_
  rw [marks_len] at g1 g3 ⊢
  have G3 := Lib.hid g3
  clear g3 ho
  go_enter Try.func40, Try.ntmps40
  go_wp2
  go_loop [1, 5] (fun x i => ∃ j : Nat, j ≤ n ∧ i = .int .i64 j ∧ x = .int .i64 (k + (j : Int))) (fun _ i => n - (intOf i).toNat)
  case atStart => exact ⟨0, Nat.zero_le _, rfl, by simp⟩
  case round =>
    obtain ⟨j, hj, rfl, rfl⟩ := hrel
    by_cases hlt : j < n
    · obtain ⟨ad, z, rfl, hz, hz2, hc⟩ := G3.out j hlt
      rw [marks_get hlt] at hz
      obtain rfl : k + (j : Int) = z := by simpa using hz
      clear hz hz2
      go_wp2
      go_round
      case rel => exact ⟨j + 1, by omega, by go_num, by go_num⟩
      case measure => simp [intOf]; omega
    · have : j = n := by omega
      subst this
      go_wp2
      go_ret
      exact ⟨rfl, rfl⟩
end Go.Proofs.Ytofabikjjkapmaa

set_option linter.unusedVariables false
set_option linter.unusedSimpArgs false
namespace Go.Proofs.Ytofabikjjkapmaa
open Go.RowKit

theorem T_row : ElemT Try.prog 22 34 (.slice none 0 0) 24 := ⟨Try.underlying22, by kernel_rfl, rfl, by omega⟩

abbrev tI : TypeId := 2
abbrev tL : TypeId := 34

theorem rtake_succ {xs ys : List (List Int)} {k : Nat} {x y : List Int} (h : xs.take k = ys.take k) (hx : xs[k]? = some x) (hy : ys[k]? = some y) (e : x = y) : xs.take (k + 1) = ys.take (k + 1) := by
  rw [List.take_add_one, List.take_add_one, h, hx, hy, e]

set_option maxHeartbeats 1000000 in
theorem l_eqInt64SS (w : World) (a b : Value) (xs ys : List (List Int)) (ha : Rows w a xs) (hb : Rows w b ys) :
    Calls Try.prog 10 #[a, b] w fun e w' => e = .returned (.bool (decide (xs = ys))) ∧ ∃ n, w' = w.drewN n := by
  obtain ⟨A, c, rfl, h1, h2, h3⟩ := ha.open_
  obtain ⟨B, d, rfl, g1, g2, g3⟩ := hb.open_
  clear ha hb
  have H3 := Lib.hid h3
  have G3 := Lib.hid g3
  clear h3 g3
  by_cases hl : xs.length = ys.length
  · have hl' : (((xs.length : Nat) : Int) != ((ys.length : Nat) : Int)) = false := by simp [hl]
    have HL := Lib.hid hl
    clear hl
    have g4 : ys.length ≤ xs.length := by rw [HL.out]; omega
    have g5 : xs.length ≤ ys.length := by rw [HL.out]; omega
    go_enter Try.func10, Try.ntmps10
    go_wp2
    go_loopw [5] (fun i wr => ∃ k n : Nat, k ≤ xs.length ∧ i = .int .i64 k ∧ xs.take k = ys.take k ∧ wr = w.drewN n) (fun i _ => xs.length - (intOf i).toNat)
    case atStart => exact ⟨0, 0, Nat.zero_le _, rfl, rfl, rfl⟩
    case round =>
      obtain ⟨k, n, hk, rfl, ht, rfl⟩ := hrel
      have HT := Lib.hid ht
      clear ht
      by_cases hlt : k < xs.length
      · obtain ⟨ad, u, z, rfl, hz, hz2, hc⟩ := H3.out k hlt
        obtain ⟨ad', u', y, rfl, hy, hy2, hc'⟩ := G3.out k (by omega)
        have HZ := Lib.hid hz
        have HY := Lib.hid hy
        have HZ2 := Lib.hid hz2
        have HY2 := Lib.hid hy2
        clear hz hy hz2 hy2
        go_wp2_with fail
        go_quiet ((go_at_call 18; exact quiet_more (l_eqInt64S _ _ _ _ _ (HZ2.out.drewN _) (HY2.out.drewN _))))
        go_wp2_with fail
        · have hne : (!decide (z = y)) = true := by assumption
          go_ret
          refine ⟨ret_bool ?_, _, World.drewN_drewN _ _ _⟩
          symm
          simp only [decide_eq_false_iff_not]
          rintro rfl
          have := HZ.out.symm.trans HY.out
          simp at this hne
          exact hne this
        · have hne : (!decide (z = y)) = false := by assumption
          go_roundw
          case rel => exact ⟨k + 1, _, by omega, by go_num, rtake_succ HT.out HZ.out HY.out (by simpa using hne), rfl⟩
          case measure => simp [intOf]; omega
      · have : k = xs.length := by omega
        subst this
        go_wp2_with fail
        go_ret
        refine ⟨ret_bool ?_, _, rfl⟩
        have e := HT.out
        rw [List.take_length, List.take_of_length_le (by omega)] at e
        simp [e]
  · have hl' : (((xs.length : Nat) : Int) != ((ys.length : Nat) : Int)) = true := by simp; omega
    have HL := Lib.hid hl
    clear hl
    go_enter Try.func10, Try.ntmps10
    go_wp2
    go_ret
    refine ⟨ret_bool ?_, 0, rfl⟩
    have := HL.out
    symm
    simp only [decide_eq_false_iff_not]
    rintro rfl
    exact this rfl

/-- a tableau that came in -/
def TabArg (w : World) (v : Value) (A : List (List Int)) (Bs : List Int) : Prop := ∃ va vb, v = .agg #[va, vb] ∧ Rows w va A ∧ Ints w vb Bs
/-- an owned tableau: the rows, the row of rows and the weights lie in blocks of their own -/
def OT (w : World) (B C : Nat) (v : Value) (A : List (List Int)) (Bs : List Int) : Prop :=
  ∃ va vb vs, v = .agg #[va, vb] ∧ Own w B tL va vs ∧ (∀ b, va.ownBlock = some b → b < C) ∧ RowsOwn w B C tI vs A ∧ OI w B C tI vb Bs ∧ ∀ (k : Nat) (u : Value), vs[k]? = some u → Apart u vb

section
variable {w w' : World} {B C B' C' : Nat} {v : Value} {A : List (List Int)} {Bs : List Int}
theorem TabArg.below (h : TabArg w v A Bs) (hb : Below w.heap.size w w') : TabArg w' v A Bs := by
  obtain ⟨va, vb, rfl, h1, h2⟩ := h
  exact ⟨va, vb, rfl, h1.below hb, h2.below hb⟩
theorem TabArg.drewN (h : TabArg w v A Bs) (n : Nat) : TabArg (w.drewN n) v A Bs := h
theorem OT.arg (h : OT w B C v A Bs) : TabArg w v A Bs := by
  obtain ⟨va, vb, vs, rfl, h1, h2, h3, h4, h5⟩ := h
  exact ⟨va, vb, rfl, OR.rows ⟨vs, h1, h2, h3⟩, h4.ints⟩
theorem OT.below (h : OT w B C v A Bs) (hb : Below w.heap.size w w') : OT w' B C v A Bs := by
  obtain ⟨va, vb, vs, rfl, h1, h2, h3, h4, h5⟩ := h
  exact ⟨va, vb, vs, rfl, h1.below hb, h2, h3.below hb, h4.below hb, h5⟩
theorem OT.drewN (h : OT w B C v A Bs) (n : Nat) : OT (w.drewN n) B C v A Bs := h
theorem OT.kept (h : OT w B C v A Bs) (hc : Chg B' C' w w') (hd : C ≤ B' ∨ C' ≤ B) : OT w' B C v A Bs := by
  obtain ⟨va, vb, vs, rfl, h1, h2, h3, h4, h5⟩ := h
  exact ⟨va, vb, vs, rfl, h1.of_block fun b hb => hc.block b (h1.lt b hb) (by have := h1.ge b hb; have := h2 b hb; omega), h2, h3.kept hc hd, h4.kept hc hd, h5⟩
theorem OT.mono (h : OT w B C v A Bs) (h1 : B' ≤ B) (h2 : C ≤ C') : OT w B' C' v A Bs := by
  obtain ⟨va, vb, vs, rfl, g1, g2, g3, g4, g5⟩ := h
  exact ⟨va, vb, vs, rfl, g1.mono h1, fun b hb => Nat.lt_of_lt_of_le (g2 b hb) h2, g3.mono h1 h2, g4.mono h1 h2, g5⟩
theorem RowsOwn.apart {M : Nat} {vs : List Value} {u' : Value} {e : TypeId} (h : RowsOwn w B C e vs A) (hu : ∀ b, u'.ownBlock = some b → C ≤ b ∨ b < B) : ∀ (k : Nat) (u : Value), vs[k]? = some u → Apart u u' := by
  intro k u hk
  have hx : A[k]? = some (A[k]'(by rw [← h.1]; exact (List.getElem?_eq_some_iff.1 hk).1)) := List.getElem?_eq_getElem _
  have ho := h.2.1 k u _ hk hx
  unfold Apart
  cases hb : u.ownBlock with
  | none => exact .inl rfl
  | some b =>
    refine .inr fun e => ?_
    have h1 := ho.2 b hb
    have h2 := ho.1.1.ge b hb
    have h3 := hu b e.symm
    omega
end

theorem OT.open_ {w : World} {B C : Nat} {v : Value} {A : List (List Int)} {Bs : List Int} (h : OT w B C v A Bs) : ∃ Aa ca Ab cb, v = .agg #[.slice Aa A.length ca, .slice Ab Bs.length cb] := by
  obtain ⟨va, vb, rfl, h1, h2⟩ := h.arg
  obtain ⟨Aa, ca, rfl, _⟩ := h1.open_
  obtain ⟨Ab, cb, rfl, _⟩ := h2.open_
  exact ⟨_, _, _, _, rfl⟩
theorem TabArg.open_ {w : World} {v : Value} {A : List (List Int)} {Bs : List Int} (h : TabArg w v A Bs) : ∃ Aa ca Ab cb, v = .agg #[.slice Aa A.length ca, .slice Ab Bs.length cb] := by
  obtain ⟨va, vb, rfl, h1, h2⟩ := h
  obtain ⟨Aa, ca, rfl, _⟩ := h1.open_
  obtain ⟨Ab, cb, rfl, _⟩ := h2.open_
  exact ⟨_, _, _, _, rfl⟩
end Go.Proofs.Ytofabikjjkapmaa

/- The laws' marking and holding, at lists of lists and at tableaus. -/
set_option linter.unusedVariables false
set_option linter.unusedSimpArgs false
namespace Go.Proofs.Ytofabikjjkapmaa
open Go.RowKit

def tot (xss : List (List Int)) : Nat := xss.flatten.length
theorem tot_cons (zs : List Int) (r : List (List Int)) : tot (zs :: r) = zs.length + tot r := by simp [tot]
theorem tot_take_succ {xss : List (List Int)} {j : Nat} {zs : List Int} (h : xss[j]? = some zs) : tot (xss.take (j + 1)) = tot (xss.take j) + zs.length := by
  unfold tot
  rw [List.take_add_one, h]; simp
theorem tot_take_le (xss : List (List Int)) (j : Nat) : tot (xss.take j) ≤ tot xss := by
  unfold tot
  conv => rhs; rw [← List.take_append_drop j xss]
  rw [List.flatten_append, List.length_append]; omega
theorem len_le_tot {xss : List (List Int)} {j : Nat} {zs : List Int} (h : xss[j]? = some zs) : tot (xss.take j) + zs.length ≤ tot xss := by
  have := tot_take_le xss (j + 1)
  rw [tot_take_succ h] at this
  exact this

def markRows : Int → List (List Int) → List (List Int)
  | _, [] => []
  | k, zs :: r => marks k zs.length :: markRows (k + (zs.length : Int)) r
theorem markRows_len : ∀ (k : Int) (xss : List (List Int)), (markRows k xss).length = xss.length
  | _, [] => rfl
  | k, zs :: r => by simp [markRows, markRows_len _ r]
theorem markRows_get : ∀ (k : Int) (xss : List (List Int)) (j : Nat) (zs : List Int), xss[j]? = some zs → (markRows k xss)[j]? = some (marks (k + (tot (xss.take j) : Nat)) zs.length)
  | _, [], j, zs, h => by simp at h
  | k, ys :: r, 0, zs, h => by simp at h; subst h; simp [markRows, tot]
  | k, ys :: r, j + 1, zs, h => by
    simp only [List.getElem?_cons_succ] at h
    simp only [markRows, List.getElem?_cons_succ, List.take_succ_cons]
    rw [markRows_get _ r j zs h, tot_cons]
    congr 2
    push_cast
    omega
/-- the first j lists are marked -/
def markTo (k : Int) (xss : List (List Int)) (j : Nat) : List (List Int) := (markRows k xss).take j ++ xss.drop j
theorem markTo_zero (k : Int) (xss : List (List Int)) : markTo k xss 0 = xss := by simp [markTo]
theorem markTo_all (k : Int) (xss : List (List Int)) : markTo k xss xss.length = markRows k xss := by
  unfold markTo
  rw [List.drop_length, List.append_nil, List.take_of_length_le (by rw [markRows_len]; exact Nat.le_refl _)]
theorem markTo_get {k : Int} {xss : List (List Int)} {j : Nat} {zs : List Int} (h : xss[j]? = some zs) : (markTo k xss j)[j]? = some zs := by
  have hj := (List.getElem?_eq_some_iff.1 h).1
  unfold markTo
  rw [List.getElem?_append_right (by simp [markRows_len]; omega)]
  simp [markRows_len, Nat.min_eq_left (Nat.le_of_lt hj), h]
theorem markTo_set {k : Int} {xss : List (List Int)} {j : Nat} {zs : List Int} (h : xss[j]? = some zs) : (markTo k xss j).set j (marks (k + (tot (xss.take j) : Nat)) zs.length) = markTo k xss (j + 1) := by
  have hj := (List.getElem?_eq_some_iff.1 h).1
  have hm := markRows_get k xss j zs h
  unfold markTo
  have hl : ((markRows k xss).take j).length = j := by simp [markRows_len]; omega
  rw [List.set_append_right _ _ (by omega), hl, Nat.sub_self, List.take_add_one, hm]
  rw [List.drop_eq_getElem_cons hj]
  simp only [List.set_cons_zero, List.append_assoc, Option.toList, List.cons_append, List.nil_append]

theorem RowsOwn.set {w w' : World} {B C : Nat} {e : TypeId} {vs : List Value} {xss : List (List Int)} {j : Nat} {u : Value} {zs : List Int} (h : RowsOwn w B C e vs xss) (hu : vs[j]? = some u) (hg : w.grownBy w' u.ownBlock) (hn : OwnInts w' B e u zs) : RowsOwn w' B C e vs (xss.set j zs) := by
  obtain ⟨h1, h2, h3⟩ := h
  refine ⟨by simp [h1], fun k u' zs' hu' hz' => ?_, h3⟩
  have hj := (List.getElem?_eq_some_iff.1 hu).1
  by_cases hk : k = j
  · subst hk
    rw [hu] at hu'
    obtain rfl : u = u' := by simpa using hu'
    have hz : xss[k]? = some (xss[k]'(by omega)) := List.getElem?_eq_getElem _
    rw [List.getElem?_set_self (by omega)] at hz'
    obtain rfl : zs = zs' := by simpa using hz'
    exact ⟨hn, (h2 k u _ hu hz).2⟩
  · rw [List.getElem?_set_ne (by omega)] at hz'
    have ho := h2 k u' zs' hu' hz'
    have hap : Apart u' u := by
      by_cases hlt : k < j
      · exact h3 k j u' u hlt hu' hu
      · exact (h3 j k u u' (by omega) hu hu').symm
    exact ⟨ho.1.kept hg hap, ho.2⟩

/-- no block has turned but those of the values vs -/
def Far (vs : List Value) (w w' : World) : Prop := ∀ b, b < w.heap.size → (∀ (i : Nat) (u : Value), vs[i]? = some u → u.ownBlock ≠ some b) → w'.heap[b]? = w.heap[b]?
theorem Far.refl (vs : List Value) (w : World) : Far vs w w := fun _ _ _ => rfl
theorem Far.grown {vs : List Value} {w w1 w2 : World} {j : Nat} {u : Value} (h : Far vs w w1) (hs : w.heap.size ≤ w1.heap.size) (hu : vs[j]? = some u) (hg : w1.grownBy w2 u.ownBlock) : Far vs w w2 :=
  fun b hb hn => (hg.block b (Nat.lt_of_lt_of_le hb hs) (fun e => hn j u hu e.symm)).trans (h b hb hn)
theorem Far.kept {vs : List Value} {w w' : World} {B C : Nat} {e : TypeId} {v : Value} {zs : List Int} (h : Far vs w w') (ho : OI w B C e v zs) (ha : ∀ (i : Nat) (u : Value), vs[i]? = some u → Apart u v) : OI w' B C e v zs :=
  ⟨⟨ho.1.1.of_block fun b hb => h b (ho.1.1.lt b hb) (fun i u hu e => (ha i u hu).elim (fun h1 => by rw [h1] at e; cases e) (fun h1 => h1 (e.trans hb.symm))), ho.1.2⟩, ho.2⟩

set_option maxHeartbeats 1000000 in
theorem l_markInt64SS (w : World) (B C : Nat) (v : Value) (vs : List Value) (xss : List (List Int)) (k : Int) (ho1 : Own w B tL v vs) (ho3 : RowsOwn w B C tI vs xss) (hn : tot xss ≤ 4294967296) (h0 : 0 ≤ k) (h1 : k ≤ 4294967296) :
    Calls Try.prog 11 #[v, .int .i64 k] w fun e w' => e = .returned (.int .i64 (k + (tot xss : Nat))) ∧ Own w' B tL v vs ∧ RowsOwn w' B C tI vs (markRows k xss) ∧ Chg B C w w' ∧ Far vs w w' := by
  have hc0 := ho1.cells
  obtain ⟨A, c, rfl, l1, l2, -⟩ := hc0
  have hvl := ho3.1
  rw [hvl] at l1
  have l2' : c ≤ 9223372036854775807 := by simpa [maxLen] using l2
  have HL := Lib.hid hvl
  have HO := Lib.hid ho1
  have HR := Lib.hid ho3
  rw [hvl]
  rw [hvl] at HO
  clear ho1 ho3 hvl l2
  go_enter Try.func11, Try.ntmps11
  go_wp2_with fail
  go_loopw [1, 5] (fun x i wr => ∃ j : Nat, j ≤ xss.length ∧ i = .int .i64 j ∧ x = .int .i64 (k + (tot (xss.take j) : Nat)) ∧ Own wr B tL (.slice A xss.length c) vs ∧ RowsOwn wr B C tI vs (markTo k xss j) ∧ Chg B C w wr ∧ Far vs w wr) (fun _ i _ => xss.length - (intOf i).toNat)
  case atStart => exact ⟨0, Nat.zero_le _, rfl, by simp [tot], HO.out, by rw [markTo_zero]; exact HR.out, Chg.refl _ _ _, Far.refl _ _⟩
  case round =>
    obtain ⟨j, hj, rfl, rfl, hown, hrow, hch, hfar⟩ := hrel
    have HF := Lib.hid hfar
    clear hfar
    clear HO HR
    have HO := Lib.hid hown
    have HR := Lib.hid hrow
    have HC := Lib.hid hch
    clear hown hrow hch
    by_cases hlt : j < xss.length
    · have hu : vs[j]? = some (vs[j]'(by rw [HL.out]; exact hlt)) := List.getElem?_eq_getElem _
      have hz : xss[j]? = some (xss[j]'hlt) := List.getElem?_eq_getElem _
      generalize vs[j]'(by rw [HL.out]; exact hlt) = u at hu
      generalize xss[j]'hlt = zs at hz
      have hoi := HR.out.2.1 j u zs hu (markTo_get hz)
      obtain ⟨A', c', he, -, -, g3⟩ := HO.out.cells
      simp only [Value.slice.injEq] at he
      obtain ⟨rfl, -, rfl⟩ := he
      obtain ⟨ad, rfl, hc⟩ := g3 j u hu
      have hle := len_le_tot hz
      have HS := Lib.hid (tot_take_succ hz)
      have HSET := Lib.hid (markTo_set (k := k) hz)
      have HZ := Lib.hid hz
      have HU := Lib.hid hu
      have HOI := Lib.hid hoi
      clear hz hu hoi g3
      generalize tot (xss.take j) = m at hle HS HSET ⊢
      go_wp2_with fail
      refine (l_markInt64S _ B u zs (k + (m : Int)) HOI.out.1 (by omega) (by omega) (by omega)).mono ?_
      rintro e w1 ⟨rfl, hown1, hgr1, -⟩
      have HM := Lib.hid hown1
      have HG := Lib.hid hgr1
      clear hown1 hgr1 hc
      go_wp2_with fail
      go_roundw
      case rel =>
        have hne : (Value.slice (some ad) xss.length c).ownBlock = none ∨ (Value.slice (some ad) xss.length c).ownBlock ≠ u.ownBlock := HO.out.ne_of_type HOI.out.1.1 (by decide)
        refine ⟨j + 1, by omega, by go_num, by rw [HS.out]; push_cast; go_num, HO.out.kept HG.out hne, ?_, HC.out.trans (Chg.of_grown HG.out fun b hb => ⟨HOI.out.1.1.ge b hb, HOI.out.2 b hb⟩), HF.out.grown HC.out.size HU.out HG.out⟩
        rw [← HSET.out]
        exact HR.out.set HU.out HG.out HM.out
      case measure => simp [intOf]; omega
    · have : j = xss.length := by omega
      subst this
      go_wp2_with fail
      go_ret
      refine ⟨ret_int (by rw [List.take_length]), HO.out, ?_, HC.out, HF.out⟩
      rw [← markTo_all]
      exact HR.out

set_option maxHeartbeats 1000000 in
theorem l_heldInt64SS (w : World) (v : Value) (xss : List (List Int)) (k : Int) (ho : Rows w v (markRows k xss)) (hn : tot xss ≤ 4294967296) (h0 : 0 ≤ k) (h1 : k ≤ 4294967296) :
    Calls Try.prog 39 #[v, .int .i64 k] w fun e w' => e = .returned (.int .i64 (k + (tot xss : Nat))) ∧ w = w' := by
  obtain ⟨A, c, rfl, g1, g2, g3⟩ := ho.open_
  rw [markRows_len] at g1 g3 ⊢
  have G3 := Lib.hid g3
  clear g3 ho
  go_enter Try.func39, Try.ntmps39
  go_wp2_with fail
  go_loop [1, 5] (fun x i => ∃ j : Nat, j ≤ xss.length ∧ i = .int .i64 j ∧ x = .int .i64 (k + (tot (xss.take j) : Nat))) (fun _ i => xss.length - (intOf i).toNat)
  case atStart => exact ⟨0, Nat.zero_le _, rfl, by simp [tot]⟩
  case round =>
    obtain ⟨j, hj, rfl, rfl⟩ := hrel
    by_cases hlt : j < xss.length
    · obtain ⟨ad, u, zs', rfl, hz', hu, hc⟩ := G3.out j hlt
      have hz : xss[j]? = some (xss[j]'hlt) := List.getElem?_eq_getElem _
      generalize xss[j]'hlt = zs at hz
      rw [markRows_get k xss j zs hz] at hz'
      obtain rfl : marks (k + (tot (xss.take j) : Nat)) zs.length = zs' := by simpa using hz'
      have hle := len_le_tot hz
      have HS := Lib.hid (tot_take_succ hz)
      have HU := Lib.hid hu
      clear hz hu hz'
      generalize tot (xss.take j) = m at hle HS HU ⊢
      have hk0 : 0 ≤ k + (m : Int) + (zs.length : Int) := by omega
      go_wp2_with fail
      refine (l_heldInt64S _ u zs.length (k + (m : Int)) HU.out (by omega) (by omega) (by omega)).mono ?_
      rintro e w1 ⟨rfl, rfl⟩
      go_wp2_with fail
      go_round
      case rel => exact ⟨j + 1, by omega, by go_num, by rw [HS.out]; push_cast; go_num⟩
      case measure => simp [intOf]; omega
    · have : j = xss.length := by omega
      subst this
      go_wp2_with fail
      go_ret
      exact ⟨by first | rfl | exact ret_int (by rw [List.take_length]), rfl⟩

end Go.Proofs.Ytofabikjjkapmaa

set_option maxRecDepth 100000
set_option linter.unusedVariables false
set_option linter.unusedSimpArgs false
namespace Go.Proofs.Ytofabikjjkapmaa
open Go.RowKit

theorem n_to_ints (w : World) (v : Value) (zs : List Int) (ha : Ints w v zs) (hn : zs.length ≤ 4294967296) :
    Calls Try.prog 15 #[v] w fun e w' => ∃ u, e = .returned u ∧ OI w' w.heap.size w'.heap.size tI u zs ∧ Below w.heap.size w w' :=
  (l_toInt64S w v zs ha hn).mono (by rintro e w' ⟨u, rfl, h, hb⟩; exact ⟨u, rfl, OI.of h, hb⟩)
theorem n_eq_ints (w : World) (v v' : Value) (zs : List Int) (ha : Ints w v zs) (hb : Ints w v' zs) :
    Calls Try.prog 18 #[v, v'] w fun e w' => e = .returned (.bool true) ∧ Below w.heap.size w w' :=
  (l_eqInt64S w v v' zs zs ha hb).mono (by rintro e w' ⟨rfl, n, rfl⟩; exact ⟨by simp, below_drewN (Below.refl _ _) n⟩)
theorem n_mark_ints (w : World) (B C : Nat) (v : Value) (zs : List Int) (k : Int) (ho : OI w B C tI v zs) (hn : zs.length ≤ 1073741824) (h0 : 0 ≤ k) (h1 : k ≤ 1073741824) :
    Calls Try.prog 19 #[v, .int .i64 k] w fun e w' => e = .returned (.int .i64 (k + (zs.length : Int))) ∧ OI w' B C tI v (marks k zs.length) ∧ Chg B C w w' :=
  (l_markInt64S w B v zs k ho.1 (by omega) h0 (by omega)).mono (by rintro e w' ⟨rfl, h, hg, -⟩; exact ⟨rfl, ⟨h, ho.2⟩, Chg.of_grown hg fun b hb => ⟨ho.1.1.ge b hb, ho.2 b hb⟩⟩)
end Go.Proofs.Ytofabikjjkapmaa

set_option maxRecDepth 100000
set_option linter.unusedVariables false
set_option linter.unusedSimpArgs false
namespace Go.Proofs.Ytofabikjjkapmaa
open Go.RowKit

/-- the block of a slice has elements of type e -/
def BT (w : World) (e : TypeId) (v : Value) : Prop := v.ownBlock = none ∨ ∃ g cur fz, v.ownBlock = some g ∧ w.heap[g]? = some (.cells cur e fz)
theorem BT.ne {w : World} {e e' : TypeId} {v v' : Value} (h : BT w e v) (h' : BT w e' v') (hne : e ≠ e') : Apart v v' := by
  rcases h with h | ⟨g, cur, fz, h, hg⟩
  · exact .inl h
  · rcases h' with h' | ⟨g', cur', fz', h', hg'⟩
    · exact .inr (by rw [h, h']; simp)
    · refine .inr ?_
      rw [h, h']
      intro he
      injection he with he
      subst he
      rw [hg] at hg'
      injection hg' with hg'
      injection hg' with _ ht
      exact hne ht
theorem ownsRow_bt {w : World} {B e k n : Nat} {v : Value} {xs : List Value} (h : w.ownsRow B e k v n xs) : BT w e v := by
  rcases h.2 with ⟨rfl, _⟩ | ⟨g, cap, cur, rfl, _, hg, _⟩
  · exact .inl rfl
  · exact .inr ⟨g, cur, _, rfl, hg⟩
theorem Own.bt {w : World} {B : Nat} {e : TypeId} {v : Value} {vs : List Value} (h : Own w B e v vs) : BT w e v := ownsRow_bt h

/-- the call owns from block B on the slice v of elements of type e, k cells each -/
def OwnK (w : World) (B : Nat) (e : TypeId) (k : Nat) (v : Value) (css : List (List Value)) : Prop :=
  w.ownsRow B e k v css.length css.flatten ∧ ∀ c ∈ css, c.length = k

theorem flat_get {k : Nat} : ∀ {css : List (List Value)} {i j : Nat} {c : List Value} {u : Value}, (∀ c ∈ css, c.length = k) → css[i]? = some c → c[j]? = some u → css.flatten[i * k + j]? = some u
  | [], i, j, c, u, _, h, _ => by simp at h
  | d :: css, 0, j, c, u, hk, h, hu => by
    simp at h; subst h
    have := (List.getElem?_eq_some_iff.1 hu).1
    simp only [List.flatten_cons, Nat.zero_mul, Nat.zero_add]
    rw [List.getElem?_append_left this]
    exact hu
  | d :: css, i + 1, j, c, u, hk, h, hu => by
    have hd := hk d (by simp)
    rw [List.flatten_cons, List.getElem?_append_right (by rw [hd, Nat.add_mul]; omega), hd]
    have e : (i + 1) * k + j - k = i * k + j := by rw [Nat.add_mul]; omega
    rw [e]
    exact flat_get (fun c hc => hk c (by simp [hc])) (by simpa using h) hu
theorem flat_len {k : Nat} : ∀ {css : List (List Value)}, (∀ c ∈ css, c.length = k) → css.flatten.length = css.length * k
  | [], _ => by simp
  | d :: css, hk => by rw [List.flatten_cons, List.length_append, hk d (by simp), flat_len fun c hc => hk c (by simp [hc]), List.length_cons, Nat.add_mul]; omega
theorem flat_set {k : Nat} : ∀ {css : List (List Value)} {i j : Nat} {c : List Value} {u : Value}, (∀ c ∈ css, c.length = k) → css[i]? = some c → j < k → css.flatten.set (i * k + j) u = (css.set i (c.set j u)).flatten
  | [], i, j, c, u, _, h, _ => by simp at h
  | d :: css, 0, j, c, u, hk, h, hj => by
    simp at h; subst h
    have hd := hk d (by simp)
    rw [List.flatten_cons, Nat.zero_mul, Nat.zero_add, List.set_append, if_pos (by omega), List.set_cons_zero, List.flatten_cons]
  | d :: css, i + 1, j, c, u, hk, h, hj => by
    have hd := hk d (by simp)
    rw [List.flatten_cons, List.set_append, if_neg (by rw [hd, Nat.add_mul]; omega), hd]
    have e : (i + 1) * k + j - k = i * k + j := by rw [Nat.add_mul]; omega
    rw [e, flat_set (fun c hc => hk c (by simp [hc])) (by simpa using h) hj, List.set_cons_succ, List.flatten_cons]

section
variable {w w' : World} {B k : Nat} {e : TypeId} {v : Value} {css : List (List Value)}
theorem OwnK.cases (h : OwnK w B e k v css) : (v = .slice none 0 0 ∧ css = []) ∨
    ∃ g cap cur, v = .slice (some ⟨g, 0, none⟩) css.length cap ∧ B ≤ g ∧ g < w.heap.size ∧ w.heap[g]? = some (.cells cur e (0, 0)) ∧ css.length ≤ cap ∧ cap ≤ maxLen := by
  rcases h.1.2 with ⟨h1, h2⟩ | ⟨g, cap, cur, h1, h2, h3, h4, h5, h6, h7⟩
  · exact .inl ⟨h1, List.eq_nil_of_length_eq_zero h2⟩
  · exact .inr ⟨g, cap, cur, h1, h2, (Array.getElem?_eq_some_iff.1 h3).1, h3, h4, h5⟩
theorem OwnK.open_ (h : OwnK w B e k v css) : ∃ A c, v = .slice A css.length c ∧ css.length ≤ c ∧ c ≤ 9223372036854775807 := by
  rcases h.cases with ⟨rfl, rfl⟩ | ⟨g, cap, cur, rfl, -, -, -, h4, h5⟩
  · exact ⟨none, 0, rfl, Nat.le_refl _, by omega⟩
  · exact ⟨_, cap, rfl, h4, by simpa [maxLen] using h5⟩
theorem OwnK.nil (w : World) (B : Nat) (e : TypeId) (k : Nat) : OwnK w B e k (.slice none 0 0) [] := ⟨World.ownsRow_nil w B e k, fun c hc => by simp at hc⟩
theorem OwnK.of_block (h : OwnK w B e k v css) (hb : ∀ b, v.ownBlock = some b → w'.heap[b]? = w.heap[b]?) : OwnK w' B e k v css := by
  refine ⟨⟨h.1.1, ?_⟩, h.2⟩
  rcases h.1.2 with hn | ⟨g, cap, cur, rfl, hB, hgg, rest⟩
  · exact .inl hn
  · exact .inr ⟨g, cap, cur, rfl, hB, by rw [hb g rfl]; exact hgg, rest⟩
theorem OwnK.lt (h : OwnK w B e k v css) : ∀ b, v.ownBlock = some b → b < w.heap.size := fun b hb => (World.ownsRow.lt h.1 b hb).2
theorem OwnK.ge (h : OwnK w B e k v css) : ∀ b, v.ownBlock = some b → B ≤ b := fun b hb => (World.ownsRow.lt h.1 b hb).1
theorem OwnK.below (h : OwnK w B e k v css) (hb : Below w.heap.size w w') : OwnK w' B e k v css := h.of_block fun b hv => hb.block b (h.lt b hv)
theorem OwnK.kept (h : OwnK w B e k v css) {row : Option Nat} (hg : w.grownBy w' row) (hne : v.ownBlock = none ∨ v.ownBlock ≠ row) : OwnK w' B e k v css := ⟨World.ownsRow.kept h.1 hg hne, h.2⟩
theorem OwnK.mono {B' : Nat} (h : OwnK w B e k v css) (hB : B' ≤ B) : OwnK w B' e k v css := by
  refine ⟨⟨h.1.1, ?_⟩, h.2⟩
  rcases h.1.2 with hn | ⟨g, cap, cur, rfl, hB', rest⟩
  · exact .inl hn
  · exact .inr ⟨g, cap, cur, rfl, by omega, rest⟩
theorem OwnK.drewN (h : OwnK w B e k v css) (n : Nat) : OwnK (w.drewN n) B e k v css := h
theorem OwnK.bt (h : OwnK w B e k v css) : BT w e v := ownsRow_bt h.1
theorem addr_add (g n : Nat) : (⟨g, 0, none⟩ : Addr).add n = ⟨g, n, none⟩ := by by_cases h0 : n = 0 <;> simp [Addr.add, h0]
/-- cell j of element i -/
theorem OwnK.cell {i j : Nat} {c : List Value} {u : Value} (h : OwnK w B e k v css) (hc : css[i]? = some c) (hu : c[j]? = some u) : ∃ g cap, v = .slice (some ⟨g, 0, none⟩) css.length cap ∧ w.cell? ⟨g, i * k + j, none⟩ = some u := by
  rcases h.cases with ⟨_, rfl⟩ | ⟨g, cap, cur, rfl, h1, h2, h3, h4, h5⟩
  · simp at hc
  · refine ⟨g, cap, rfl, ?_⟩
    have := World.ownsRow.cells h.1 (g := g) rfl (i * k + j) u (flat_get h.2 hc hu)
    rwa [addr_add] at this
theorem OwnK.cellAt {g n cap i j : Nat} {c : List Value} {u : Value} (h : OwnK w B e k (.slice (some ⟨g, 0, none⟩) n cap) css) (hc : css[i]? = some c) (hu : c[j]? = some u) : w.cell? ⟨g, i * k + j, none⟩ = some u := by
  obtain ⟨g', cap', hv, h1⟩ := h.cell hc hu
  simp only [Value.slice.injEq, Option.some.injEq, Addr.mk.injEq, and_true, true_and] at hv
  rw [hv.1]; exact h1
/-- a store into cell j of element i -/
theorem OwnK.storeAt {g n cap i j : Nat} {c : List Value} (h : OwnK w B e k (.slice (some ⟨g, 0, none⟩) n cap) css) (hc : css[i]? = some c) (hj : j < k) (u : Value) :
    (∃ u0, w.cell? ⟨g, i * k + j, none⟩ = some u0) ∧ w.frozen? ⟨g, i * k + j, none⟩ = false ∧ B ≤ g ∧ OwnK (w.setCell ⟨g, i * k + j, none⟩ u) B e k (.slice (some ⟨g, 0, none⟩) n cap) (css.set i (c.set j u)) ∧ w.grownBy (w.setCell ⟨g, i * k + j, none⟩ u) (some g) := by
  have hck := h.2 c (List.mem_of_getElem? hc)
  have hu0 : c[j]? = some (c[j]'(by omega)) := List.getElem?_eq_getElem _
  have hn : n = css.length := by
    rcases h.cases with ⟨he, _⟩ | ⟨g', cap', cur, he, _⟩
    · cases he
    · simp only [Value.slice.injEq] at he; exact he.2.1
  subst hn
  have hs := World.ownsRow.stored h.1 (i * k + j) u
  refine ⟨⟨_, h.cellAt hc hu0⟩, World.ownsRow.frozenAt h.1 _, h.ge g rfl, ⟨?_, fun d hd => ?_⟩, hs.2⟩
  · rw [List.length_set, ← flat_set h.2 hc hj]; exact hs.1
  · rcases List.mem_or_eq_of_mem_set hd with hd | hd
    · exact h.2 d hd
    · rw [hd, List.length_set]; exact hck
end

/-- what is known of a slice type t over elements of type e, k cells each -/
structure ElemK (P : Program) (t e : TypeId) (z : Value) (k bytes : Nat) : Prop where
  under : P.underlying t = some (.slice e)
  info : (P.info? e).map (fun i => (i.zero, i.size, i.bytes)) = some (some z, k, bytes)
  cells : z.cells.size = k
  pos : 0 < k
  small : bytes ≤ 64

theorem OwnK.lit (W : World) (e : TypeId) (k : Nat) (css : List (List Value)) (hk : ∀ c ∈ css, c.length = k) (hn : css.length ≤ maxLen) (cs : Array Value) (hcs : cs.toList = css.flatten) :
    OwnK (W.alloc (.cells cs e)) W.heap.size e k (.slice (some ⟨W.heap.size, 0, none⟩) css.length css.length) css := by
  refine ⟨?_, hk⟩
  have := World.ownsRow_lit (base := W.heap.size) (e := e) (size := k) W cs css.length (Nat.le_refl _) hn (by rw [← Array.length_toList, hcs, flat_len hk])
  rwa [hcs] at this

/-- append of one element of k cells, which lies anywhere -/
theorem run_app1K {P : Program} {t e : TypeId} {z : Value} {k bytes B : Nat} {v : Value} {css : List (List Value)} {W : World} {c : List Value} {ad : Addr} (ty : TypeId)
    (T : ElemK P t e z k bytes) (hown : OwnK W B e k v css) (hlen : css.length < 1099511627776) (hB : B ≤ W.heap.size) (hc : c.length = k) (hu : ∀ u ∈ c, u.oneCell' = true)
    (hcell : ∀ j u, c[j]? = some u → W.cell? (ad.add j) = some u) :
    ∃ v' w', (Builtin.append_ #[t, t] ty #[v, .slice (some ad) 1 1]).run P W = .ok v' w' ∧ OwnK w' B e k v' (css ++ [c]) ∧ Grow W w' v v' := by
  obtain ⟨i, hi, hz, h1, h2⟩ := info_parts T.info
  have hby := T.small
  obtain ⟨v', w', hrun, r1, r2, _, r3⟩ := run_append_own_at (P := P) W B t ty e i z k bytes T.under hi hz h1 h2 T.cells T.pos v css.length css.flatten hown.1 ad 1 1 c (by omega) hcell hu (by simp only [maxLen]; omega) (by have := Nat.mul_le_mul_left (css.length + 1) hby; omega) hB
  refine ⟨v', w', hrun, ⟨by simpa using r1, fun d hd => ?_⟩, r2, ?_⟩
  · rcases List.mem_append.1 hd with hd | hd
    · exact hown.2 d hd
    · simp at hd; rw [hd]; exact hc
  · rcases r3 with r3 | r3
    · exact .inl r3
    · exact .inr ⟨_, r3, Nat.le_refl _⟩

theorem wpList_app1K {P : Program} {ops : Array Oper} {rest : List Oper} {o : Oper} {a : Act} {Q : Exit → Act → World → Prop} {s x : Operand} {t : TypeId}
    {e : TypeId} {z : Value} {k bytes : Nat} {B : Nat} {v : Value} {css : List (List Value)} {W : World} {c : List Value} {ad : Addr}
    (T : ElemK P t e z k bytes) (hown : OwnK W B e k v css) (hlen : css.length < 1099511627776) (hB : B ≤ W.heap.size) (hc : c.length = k) (hu : ∀ u ∈ c, u.oneCell' = true)
    (hcell : ∀ j u, c[j]? = some u → W.cell? (ad.add j) = some u)
    (hgd : o.guard = none) (ho : o.op = .call { callee := .builtin .append, args := #[s, x], argTypes := #[t, t] }) (hs : a.eval s = v)
    (hx : a.eval x = .slice (some ad) 1 1)
    (h : ∀ v' w', OwnK w' B e k v' (css ++ [c]) → Grow W w' v v' → wpList P ops Q rest (a.put o.dst v') w') : wpList P ops Q (o :: rest) a W := by
  obtain ⟨v', w', hrun, r1, r2⟩ := run_app1K o.type T hown hlen hB hc hu hcell
  refine wpList_plain hgd fun K hK => ?_
  unfold Oper.wp execOp
  simp only [ho, resolve, invoke, builtin, Sem.run_bind, Sem.run_pure, Result.andThen_ok, List.map_toArray, List.map_cons, List.map_nil, hs, hx, hrun]
  exact hK _ _ (h v' w' r1 r2)

/-- the same, met in a region that draws -/
theorem step_app1K {P : Program} {ops : Array Oper} {o : Oper} {a : Act} {K : Act → World → Prop} {Q : Exit → Act → World → Prop} {E : Prop} {s x : Operand} {t : TypeId}
    {e : TypeId} {z : Value} {k bytes : Nat} {B : Nat} {v : Value} {css : List (List Value)} {W : World} {c : List Value} {ad : Addr}
    (T : ElemK P t e z k bytes) (hown : OwnK W B e k v css) (hlen : css.length < 1099511627776) (hB : B ≤ W.heap.size) (hc : c.length = k) (hu : ∀ u ∈ c, u.oneCell' = true)
    (hcell : ∀ j u, c[j]? = some u → W.cell? (ad.add j) = some u)
    (hgd : o.guard = none) (ho : o.op = .call { callee := .builtin .append, args := #[s, x], argTypes := #[t, t] }) (hs : a.eval s = v)
    (hx : a.eval x = .slice (some ad) 1 1)
    (h : ∀ v' w', OwnK w' B e k v' (css ++ [c]) → Grow W w' v v' → K (a.put o.dst v') w') :
    if Region.wanted o (yielded ops a.tmps) = true then Oper.wp P o a W K Q else E := by
  have hw : Region.wanted o (yielded ops a.tmps) = true := by simp [Region.wanted, hgd]
  rw [if_pos hw]
  obtain ⟨v', w', hrun, r1, r2⟩ := run_app1K o.type T hown hlen hB hc hu hcell
  unfold Oper.wp execOp
  simp only [ho, resolve, invoke, builtin, Sem.run_bind, Sem.run_pure, Result.andThen_ok, List.map_toArray, List.map_cons, List.map_nil, hs, hx, hrun]
  exact h v' w' r1 r2

/-- the cells of a literal of one element of k cells, just laid -/
theorem lit_cells (W : World) (e : TypeId) (c : List Value) (cs : Array Value) (hcs : cs.toList = c) : ∀ j u, c[j]? = some u → (W.alloc (.cells cs e)).cell? ((⟨W.heap.size, 0, none⟩ : Addr).add j) = some u := by
  intro j u hu
  rw [addr_add, (Blk.new W cs e).cell, ← Array.getElem?_toList, hcs]
  exact hu
end Go.Proofs.Ytofabikjjkapmaa

