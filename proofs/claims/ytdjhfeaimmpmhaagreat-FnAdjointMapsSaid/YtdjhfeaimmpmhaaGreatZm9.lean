/- Walks: equality of lists and of lists of lists, of the library and of the reference. | Walks: isSuperfluous, the predicate of freeTreesOf, of the program. | Walks: slices.BinarySearchFunc at trees, indexIn of the program; l03Find of the reference. | Plain: strict total orders, lexicographic ones among them; sorting by insertion. -/
import Derived.Test.YtdjhfeaimmpmhaaGreatZm2
import Derived.Test.YtdjhfeaimmpmhaaGreatZm8
import Derived.Test.YtdjhfeaimmpmhaaGreatZm5
set_option maxRecDepth 100000
set_option linter.unusedVariables false
set_option linter.unusedSimpArgs false
namespace Go.Proofs.YtdjhfeaimmpmhaaGreat
open Go.RowKit

set_option maxHeartbeats 400000 in
theorem s_l01Same (w : World) (a b : Value) (xs ys : List Int) (ha : Ints w a xs) (hb : Ints w b ys) :
    Calls Tryz.prog 135 #[a, b] w fun e w' => e = .returned (.bool (decide (xs = ys))) ∧ ∃ n, w' = w.drewN n := by
  obtain ⟨A, c, rfl, h1, h2, h3⟩ := ha.open_
  obtain ⟨B, d, rfl, g1, g2, g3⟩ := hb.open_
  clear ha hb
  have H3 := Lib.hid h3
  have G3 := Lib.hid g3
  clear h3 g3
  by_cases hl : xs.length = ys.length
  · have hl' : (((xs.length : Nat) : Int) != ((ys.length : Nat) : Int)) = false := by simp [hl]
    have HL := Lib.hid hl
    clear hl
    have g4 : ys.length ≤ xs.length := by rw [HL.out]; omega
    have g5 : xs.length ≤ ys.length := by rw [HL.out]; omega
    go_enter Tryz.func135, Tryz.ntmps135
    go_wp2
    go_loopw [5] (fun i wr => ∃ k n : Nat, k ≤ xs.length ∧ i = .int .i64 k ∧ xs.take k = ys.take k ∧ wr = w.drewN n) (fun i _ => xs.length - (intOf i).toNat)
    case atStart => exact ⟨0, 0, Nat.zero_le _, rfl, rfl, rfl⟩
    case round =>
      obtain ⟨k, n, hk, rfl, ht, rfl⟩ := hrel
      have HT := Lib.hid ht
      clear ht
      by_cases hlt : k < xs.length
      · obtain ⟨ad, z, rfl, hz, hz2, hc⟩ := H3.out k hlt
        obtain ⟨ad', y, rfl, hy, hy2, hc'⟩ := G3.out k (by omega)
        have HZ := Lib.hid hz
        have HY := Lib.hid hy
        clear hz hy hz2 hy2
        go_wp2
        go_quiet (fail)
        go_wp2
        · have hne : (z != y) = true := by assumption
          go_ret
          refine ⟨ret_bool ?_, _, World.drewN_drewN _ _ _⟩
          symm
          simp only [decide_eq_false_iff_not]
          rintro rfl
          have := HZ.out.symm.trans HY.out
          simp at this hne
          exact hne this
        · have hne : (z != y) = false := by assumption
          go_roundw
          case rel => exact ⟨k + 1, _, by omega, by go_num, take_eq_succ HT.out HZ.out HY.out (by simpa using hne), rfl⟩
          case measure => simp [intOf]; omega
      · have : k = xs.length := by omega
        subst this
        go_wp2
        go_ret
        refine ⟨ret_bool ?_, _, rfl⟩
        have e := HT.out
        rw [List.take_length, List.take_of_length_le (by omega)] at e
        simp [e]
  · have hl' : (((xs.length : Nat) : Int) != ((ys.length : Nat) : Int)) = true := by simp; omega
    have HL := Lib.hid hl
    clear hl
    go_enter Tryz.func135, Tryz.ntmps135
    go_wp2
    go_ret
    refine ⟨ret_bool ?_, 0, rfl⟩
    have := HL.out
    symm
    simp only [decide_eq_false_iff_not]
    rintro rfl
    exact this rfl

set_option maxHeartbeats 400000 in
theorem lib_Equal (w : World) (a b : Value) (xs ys : List Int) (ha : Ints w a xs) (hb : Ints w b ys) :
    Calls Tryz.prog 83 #[a, b] w fun e w' => e = .returned (.bool (decide (xs = ys))) ∧ ∃ n, w' = w.drewN n := by
  obtain ⟨A, c, rfl, h1, h2, h3⟩ := ha.open_
  obtain ⟨B, d, rfl, g1, g2, g3⟩ := hb.open_
  clear ha hb
  have H3 := Lib.hid h3
  have G3 := Lib.hid g3
  clear h3 g3
  by_cases hl : xs.length = ys.length
  · have hl' : (((xs.length : Nat) : Int) != ((ys.length : Nat) : Int)) = false := by simp [hl]
    have HL := Lib.hid hl
    clear hl
    have g4 : ys.length ≤ xs.length := by rw [HL.out]; omega
    have g5 : xs.length ≤ ys.length := by rw [HL.out]; omega
    go_enter Tryz.func83, Tryz.ntmps83
    go_wp2
    go_loopw [13] (fun i wr => ∃ k n : Nat, k ≤ xs.length ∧ i = .int .i64 k ∧ xs.take k = ys.take k ∧ wr = w.drewN n) (fun i _ => xs.length - (intOf i).toNat)
    case atStart => exact ⟨0, 0, Nat.zero_le _, rfl, rfl, rfl⟩
    case round =>
      obtain ⟨k, n, hk, rfl, ht, rfl⟩ := hrel
      have HT := Lib.hid ht
      clear ht
      by_cases hlt : k < xs.length
      · obtain ⟨ad, z, rfl, hz, hz2, hc⟩ := H3.out k hlt
        obtain ⟨ad', y, rfl, hy, hy2, hc'⟩ := G3.out k (by omega)
        have HZ := Lib.hid hz
        have HY := Lib.hid hy
        clear hz hy hz2 hy2
        go_wp2
        go_quiet (fail)
        go_wp2
        · have hne : (z != y) = true := by assumption
          go_ret
          refine ⟨ret_bool ?_, _, World.drewN_drewN _ _ _⟩
          symm
          simp only [decide_eq_false_iff_not]
          rintro rfl
          have := HZ.out.symm.trans HY.out
          simp at this hne
          exact hne this
        · have hne : (z != y) = false := by assumption
          go_roundw
          case rel => exact ⟨k + 1, _, by omega, by go_num, take_eq_succ HT.out HZ.out HY.out (by simpa using hne), rfl⟩
          case measure => simp [intOf]; omega
      · have : k = xs.length := by omega
        subst this
        go_wp2
        go_ret
        refine ⟨ret_bool ?_, _, rfl⟩
        have e := HT.out
        rw [List.take_length, List.take_of_length_le (by omega)] at e
        simp [e]
  · have hl' : (((xs.length : Nat) : Int) != ((ys.length : Nat) : Int)) = true := by simp; omega
    have HL := Lib.hid hl
    clear hl
    go_enter Tryz.func83, Tryz.ntmps83
    go_wp2
    go_ret
    refine ⟨ret_bool ?_, 0, rfl⟩
    have := HL.out
    symm
    simp only [decide_eq_false_iff_not]
    rintro rfl
    exact this rfl

end Go.Proofs.YtdjhfeaimmpmhaaGreat

set_option maxRecDepth 100000
set_option linter.unusedVariables false
set_option linter.unusedSimpArgs false
namespace Go.Proofs.YtdjhfeaimmpmhaaGreat
open Go.RowKit

end Go.Proofs.YtdjhfeaimmpmhaaGreat

set_option maxRecDepth 100000
set_option linter.unusedVariables false
set_option linter.unusedSimpArgs false
namespace Go.Proofs.YtdjhfeaimmpmhaaGreat
open Go.RowKit

/-- the binary search -/
def bsF (xs : List (List Nat)) (t : List Nat) : Nat → Nat → Nat → Nat
  | 0, i, _ => i
  | f + 1, i, j => bif Nat.blt i j then (bif befN (xs.getD ((i + j) / 2) []) t then bsF xs t f ((i + j) / 2 + 1) j else bsF xs t f i ((i + j) / 2)) else i
/-- one more than the place that the binary search finds, or 0 -/
def idxN (xs : List (List Nat)) (t : List Nat) : Nat := bif Nat.blt (bsF xs t xs.length 0 xs.length) xs.length && eqN (xs.getD (bsF xs t xs.length 0 xs.length) []) t then bsF xs t xs.length 0 xs.length + 1 else 0
/-- one more than the first place of a tree in a list, or 0 -/
def fndF (t : List Nat) : Nat → List (List Nat) → Nat
  | _, [] => 0
  | i, x :: xs => bif eqN x t then i + 1 else fndF t (i + 1) xs
def fndN (xs : List (List Nat)) (t : List Nat) : Nat := fndF t 0 xs

theorem bsF_end {xs : List (List Nat)} {t : List Nat} : ∀ {f i j : Nat}, ¬ i < j → bsF xs t f i j = i
  | 0, i, j, _ => rfl
  | f + 1, i, j, h => by
    have : Nat.blt i j = false := by
      cases hh : Nat.blt i j with
      | true => exact absurd ((blt_iff _ _).1 hh) h
      | false => rfl
    rw [bsF, this]; rfl
theorem bsF_step {xs : List (List Nat)} {t : List Nat} {f i j : Nat} (h : i < j) (hf : j - i ≤ f) : ∃ g, f = g + 1 ∧ bsF xs t f i j = bif befN (xs.getD ((i + j) / 2) []) t then bsF xs t g ((i + j) / 2 + 1) j else bsF xs t g i ((i + j) / 2) := by
  obtain ⟨g, rfl⟩ : ∃ g, f = g + 1 := ⟨f - 1, by omega⟩
  exact ⟨g, rfl, by rw [bsF, (blt_iff _ _).2 h]; rfl⟩
theorem ret_i64 {a b : Int} (h : a = b) : Ending.returned (.int .i64 a) = Ending.returned (.int .i64 b) := by rw [h]
theorem cmpL_zero : ∀ a b : List Int, cmpL a b = 0 ↔ a = b
  | [], [] => by simp [cmpL]
  | [], _ :: _ => by simp [cmpL]
  | _ :: _, [] => by simp [cmpL]
  | x :: xs, y :: ys => by
    rw [cmpL]
    by_cases h1 : x < y
    · rw [if_pos h1]; constructor
      · intro h; omega
      · intro h; injection h with h _; omega
    · rw [if_neg h1]
      by_cases h2 : y < x
      · rw [if_pos h2]; constructor
        · intro h; omega
        · intro h; injection h with h _; omega
      · rw [if_neg h2, cmpL_zero xs ys, show x = y by omega]
        simp
theorem cmpT_zero (a b : List Nat) : (cmpT (up a) (up b) == 0) = eqN a b := by
  have h : cmpT (up a) (up b) = 0 ↔ a = b := by
    unfold cmpT
    rw [up_len, up_len]
    by_cases hl : a.length = b.length
    · rw [if_pos hl, cmpL_zero]
      exact ⟨fun h => (up_inj h).symm, fun h => by rw [h]⟩
    · rw [if_neg hl]
      exact ⟨fun h => absurd (by omega) hl, fun h => absurd (by rw [h]) hl⟩
  by_cases e : a = b
  · rw [eqN_iff.2 e, h.2 e]; rfl
  · have h1 : eqN a b = false := by
      cases hh : eqN a b with
      | true => exact absurd (eqN_iff.1 hh) e
      | false => rfl
    rw [h1]
    have : cmpT (up a) (up b) ≠ 0 := fun hz => e (h.1 hz)
    simpa using this

set_option maxHeartbeats 4000000 in
theorem lib_Search (w : World) (v tv : Value) (xs : List (List Nat)) (t : List Nat) (ha : Rows w v (xs.map up)) (ht : Ints w tv (up t)) (hn : xs.length ≤ 1000) :
    Calls Tryz.prog 117 #[v, tv, .func (.func 118) #[] #[]] w fun e w' => e = .returned (.tuple #[.int .i64 (bsF xs t xs.length 0 xs.length), .bool (Nat.blt (bsF xs t xs.length 0 xs.length) xs.length && eqN (xs.getD (bsF xs t xs.length 0 xs.length) []) t)]) ∧ w = w' := by
  obtain ⟨A, c, rfl, l1, l2, h3⟩ := ha.open_
  rw [List.length_map] at l1 h3 ⊢
  have HT := Lib.hid ht
  have H3 := Lib.hid (show ∀ k, k < xs.length → ∃ ad q A5 c5, A = some ad ∧ xs[k]? = some q ∧ Ints w (.slice A5 q.length c5) (up q) ∧ w.cell? (ad.add k) = some (.slice A5 q.length c5) from fun k hk => by
    obtain ⟨ad, u, zs, h1, h2, h4, h5⟩ := h3 k hk
    have hq : xs[k]? = some (xs[k]'hk) := List.getElem?_eq_getElem _
    rw [List.getElem?_map, hq] at h2
    injection h2 with h2
    subst h2
    obtain ⟨A5, c5, he5, -, -, -⟩ := h4.open_
    rw [up_len] at he5
    subst he5
    exact ⟨ad, _, A5, c5, h1, hq, h4, h5⟩)
  obtain ⟨At, ct, rfl, -, -, -⟩ := ht.open_
  rw [up_len] at HT ⊢
  obtain ⟨R, hR⟩ : ∃ R, R = bsF xs t xs.length 0 xs.length := ⟨_, rfl⟩
  rw [← hR]
  obtain ⟨BB, hBB⟩ : ∃ BB, BB = (Nat.blt R xs.length && eqN (xs.getD R []) t) := ⟨_, rfl⟩
  rw [← hBB]
  have HR := Lib.hid hR
  have HBB := Lib.hid hBB
  clear ha ht h3 hR hBB
  go_enter Tryz.func117, Tryz.ntmps117
  go_wp2_with fail
  go_loopw [9, 10] (fun x y wr => ∃ i j f : Nat, i ≤ j ∧ j ≤ xs.length ∧ x = .int .i64 i ∧ y = .int .i64 j ∧ j - i ≤ f ∧ Hid (bsF xs t f i j = R) ∧ w = wr) (fun x y _ => (intOf y).toNat - (intOf x).toNat)
  case atStart => exact ⟨0, xs.length, xs.length, Nat.zero_le _, Nat.le_refl _, rfl, rfl, by omega, HR.out.symm, rfl⟩
  case round =>
    obtain ⟨i, j, f, hij, hj, rfl, rfl, hf, HB, rfl⟩ := hrel
    by_cases hlt : i < j
    · obtain ⟨g, hfg, hbs⟩ := bsF_step (xs := xs) (t := t) hlt hf
      rw [HB.out] at hbs
      obtain ⟨ad, q, A5, c5, rfl, hq, hq2, hc⟩ := H3.out ((i + j) / 2) (by omega)
      have hgd : xs.getD ((i + j) / 2) [] = q := by simp [List.getD, hq]
      rw [hgd] at hbs
      have hcm := cmpT_up q t
      have hct := i_compareTrees w _ _ _ _ hq2 HT.out
      generalize cmpT (up q) (up t) = z at hcm hct
      have HCT := Lib.hid hct
      have hii : (i : Int) < (j : Int) := by omega
      have hw1 : IntKind.i64.wrap ((i : Int) + (j : Int)) = (i : Int) + (j : Int) := IntWalk.i64_in _ (by omega)
      have hw2 : IntKind.u64.wrap ((i : Int) + (j : Int)) = (i : Int) + (j : Int) := IntWalk.u64_in _ (by omega)
      clear hq hq2 hgd hct
      cases hb : befN q t with
      | true =>
        rw [hb] at hbs hcm
        have HBS := Lib.hid hbs
        have hz : z < 0 := by simpa using hcm
        have hw3 : IntKind.i64.wrap (((i : Int) + (j : Int)) / 2 + 1) = ((i : Int) + (j : Int)) / 2 + 1 := IntWalk.i64_in _ (by omega)
        clear hbs hb hcm
        go_wp2_with (go_at_call 118; refine HCT.out.mono ?_; rintro e w1 ⟨rfl, rfl⟩)
        go_roundw
        case rel =>
          clear hw1 hw2 hw3
          exact ⟨(i + j) / 2 + 1, j, g, by omega, hj, by congr 1 <;> omega, rfl, by omega, HBS.out.symm, by first | rfl | trivial⟩
        case measure => clear hw1 hw2 hw3; simp [intOf]; omega
      | false =>
        rw [hb] at hbs hcm
        have HBS := Lib.hid hbs
        have hz : ¬ (z < 0) := by simpa using hcm
        clear hbs hb hcm
        go_wp2_with (go_at_call 118; refine HCT.out.mono ?_; rintro e w1 ⟨rfl, rfl⟩)
        go_roundw
        case rel =>
          clear hw1 hw2
          exact ⟨i, (i + j) / 2, g, by omega, by omega, rfl, by congr 1 <;> omega, by omega, HBS.out.symm, by first | rfl | trivial⟩
        case measure => clear hw1 hw2; simp [intOf]; omega
    · have hiR : i = R := by rw [← HB.out, bsF_end hlt]
      have hii : ¬ ((i : Int) < (j : Int)) := by omega
      subst hiR
      by_cases hl : i < xs.length
      · obtain ⟨ad, q, A5, c5, rfl, hq, hq2, hc⟩ := H3.out i hl
        have hgd : xs.getD i [] = q := by simp [List.getD, hq]
        have hcm := cmpT_zero q t
        have hct := i_compareTrees w _ _ _ _ hq2 HT.out
        generalize cmpT (up q) (up t) = z at hcm hct
        have HCT := Lib.hid hct
        have HE := Lib.hid (show BB = (z == 0) from by rw [HBB.out, (blt_iff _ _).2 hl, hgd, hcm]; rfl)
        have hli : (i : Int) < (xs.length : Int) := by omega
        clear hq hq2 hgd hct hcm
        go_wp2_with (go_at_call 118; refine HCT.out.mono ?_; rintro e w1 ⟨rfl, rfl⟩)
        go_ret2
        obtain rfl := HE.out
        exact ⟨rfl, rfl⟩
      · have HE := Lib.hid (show BB = false from by
          have : Nat.blt i xs.length = false := by
            cases hh : Nat.blt i xs.length with
            | true => exact absurd ((blt_iff _ _).1 hh) hl
            | false => rfl
          rw [HBB.out, this]; rfl)
        have hli : ¬ ((i : Int) < (xs.length : Int)) := by omega
        go_wp2_with fail
        go_ret2
        obtain rfl := HE.out
        exact ⟨rfl, rfl⟩

set_option maxHeartbeats 2000000 in
theorem i_indexIn (w : World) (v tv : Value) (xs : List (List Nat)) (t : List Nat) (ha : Rows w v (xs.map up)) (ht : Ints w tv (up t)) (hn : xs.length ≤ 1000) :
    Calls Tryz.prog 57 #[v, tv] w fun e w' => e = .returned (.int .i64 ((idxN xs t : Int) - 1)) ∧ w = w' := by
  have HS := Lib.hid (lib_Search w v tv xs t ha ht hn)
  have hI : idxN xs t = bif Nat.blt (bsF xs t xs.length 0 xs.length) xs.length && eqN (xs.getD (bsF xs t xs.length 0 xs.length) []) t then bsF xs t xs.length 0 xs.length + 1 else 0 := rfl
  obtain ⟨A, c, rfl, -, -, -⟩ := ha.open_
  obtain ⟨At, ct, rfl, -, -, -⟩ := ht.open_
  rw [List.length_map, up_len] at HS ⊢
  generalize (Nat.blt (bsF xs t xs.length 0 xs.length) xs.length && eqN (xs.getD (bsF xs t xs.length 0 xs.length) []) t) = b at hI HS
  generalize bsF xs t xs.length 0 xs.length = R at hI HS
  clear ha ht
  cases b with
  | true =>
    have HI := Lib.hid (show ((idxN xs t : Int) - 1) = (R : Int) from by rw [hI]; simp)
    rw [HI.out]
    clear hI
    go_enter Tryz.func57, Tryz.ntmps57
    go_wp2_with (go_at_call 117; refine HS.out.mono ?_; rintro e w1 ⟨rfl, rfl⟩)
    go_ret
    exact ⟨rfl, rfl⟩
  | false =>
    have HI := Lib.hid (show ((idxN xs t : Int) - 1) = -1 from by rw [hI]; simp)
    rw [HI.out]
    clear hI
    go_enter Tryz.func57, Tryz.ntmps57
    go_wp2_with (go_at_call 117; refine HS.out.mono ?_; rintro e w1 ⟨rfl, rfl⟩)
    go_ret
    exact ⟨rfl, rfl⟩

theorem fndF_step {t : List Nat} {xs : List (List Nat)} {k : Nat} {q : List Nat} (hq : xs[k]? = some q) (i : Nat) : fndF t i (xs.drop k) = bif eqN q t then i + 1 else fndF t (i + 1) (xs.drop (k + 1)) := by
  have : xs.drop k = q :: xs.drop (k + 1) := by
    obtain ⟨hk, rfl⟩ := List.getElem?_eq_some_iff.1 hq
    exact List.drop_eq_getElem_cons hk
  rw [this, fndF]

set_option maxHeartbeats 2000000 in
theorem s_l03Find (w : World) (v tv : Value) (xs : List (List Nat)) (t : List Nat) (ha : Rows w v (xs.map up)) (ht : Ints w tv (up t)) (hn : xs.length ≤ 1000) :
    Calls Tryz.prog 72 #[v, tv] w fun e w' => e = .returned (.int .i64 ((fndN xs t : Int) - 1)) ∧ ∃ n, w' = w.drewN n := by
  obtain ⟨A, c, rfl, l1, l2, h3⟩ := ha.open_
  rw [List.length_map] at l1 h3 ⊢
  have HT := Lib.hid ht
  have H3 := Lib.hid (show ∀ k, k < xs.length → ∃ ad q A5 c5, A = some ad ∧ xs[k]? = some q ∧ Ints w (.slice A5 q.length c5) (up q) ∧ w.cell? (ad.add k) = some (.slice A5 q.length c5) from fun k hk => by
    obtain ⟨ad, u, zs, h1, h2, h4, h5⟩ := h3 k hk
    have hq : xs[k]? = some (xs[k]'hk) := List.getElem?_eq_getElem _
    rw [List.getElem?_map, hq] at h2
    injection h2 with h2
    subst h2
    obtain ⟨A5, c5, he5, -, -, -⟩ := h4.open_
    rw [up_len] at he5
    subst he5
    exact ⟨ad, _, A5, c5, h1, hq, h4, h5⟩)
  obtain ⟨At, ct, rfl, -, -, -⟩ := ht.open_
  rw [up_len] at HT ⊢
  have hF : fndF t 0 (xs.drop 0) = fndN xs t := rfl
  generalize fndN xs t = R at hF
  have HF := Lib.hid hF
  clear ha ht h3 hF
  go_enter Tryz.func72, Tryz.ntmps72
  go_wp2_with fail
  go_loopw [5] (fun x wr => ∃ i d : Nat, i ≤ xs.length ∧ x = .int .i64 i ∧ Hid (fndF t i (xs.drop i) = R) ∧ wr = w.drewN d) (fun x _ => xs.length - (intOf x).toNat)
  case atStart => exact ⟨0, 0, Nat.zero_le _, rfl, HF.out, rfl⟩
  case round =>
    obtain ⟨i, d, hi, rfl, HR, rfl⟩ := hrel
    by_cases hl : i < xs.length
    · obtain ⟨ad, q, A5, c5, rfl, hq, hq2, hc⟩ := H3.out i hl
      have hr := HR.out
      rw [fndF_step hq] at hr
      have HQ := Lib.hid (hq2.drewN d)
      have HTd := Lib.hid (HT.out.drewN d)
      have hsm := s_l01Same (w.drewN d) _ _ _ _ HQ.out HTd.out
      have hed : eqN q t = decide (up q = up t) := by
        by_cases e : q = t
        · rw [eqN_iff.2 e, e]; exact (decide_eq_true rfl).symm
        · have h1 : eqN q t = false := by
            cases hh : eqN q t with
            | true => exact absurd (eqN_iff.1 hh) e
            | false => rfl
          rw [h1]; exact (decide_eq_false fun h => e (up_inj h)).symm
      rw [← hed] at hsm
      have hli : (i : Int) < (xs.length : Int) := by omega
      clear hq hq2 hed HR
      cases hb : eqN q t with
      | true =>
        rw [hb] at hr hsm
        have HSM := Lib.hid hsm
        have HI := Lib.hid (show ((R : Int) - 1) = (i : Int) from by rw [← show i + 1 = R from hr]; omega)
        clear hr hsm hb
        go_wp2_with (go_at_call 135; refine HSM.out.mono ?_; rintro e w2 ⟨rfl, n2, rfl⟩)
        go_ret
        exact ⟨ret_i64 HI.out.symm, _, by first | rfl | exact World.drewN_drewN ..⟩
      | false =>
        rw [hb] at hr hsm
        have HSM := Lib.hid hsm
        have HI := Lib.hid (show fndF t (i + 1) (xs.drop (i + 1)) = R from hr)
        clear hr hsm hb
        go_wp2_with (go_at_call 135; refine HSM.out.mono ?_; rintro e w2 ⟨rfl, n2, rfl⟩)
        go_roundw
        case rel => exact ⟨i + 1, _, by omega, by go_num, HI.out, by first | rfl | exact World.drewN_drewN ..⟩
        case measure => simp [intOf]; omega
    · have hil : i = xs.length := by omega
      have HI := Lib.hid (show ((R : Int) - 1) = -1 from by rw [← HR.out, hil, List.drop_length, fndF]; rfl)
      have hli : ¬ ((i : Int) < (xs.length : Int)) := by omega
      go_wp2_with fail
      go_ret
      exact ⟨ret_i64 HI.out.symm, _, rfl⟩
end Go.Proofs.YtdjhfeaimmpmhaaGreat

set_option linter.unusedVariables false
set_option linter.unusedSimpArgs false
namespace Go.Proofs.YtdjhfeaimmpmhaaGreat

structure STO {α : Type} (lt : α → α → Bool) : Prop where
  irrefl : ∀ x, lt x x = false
  trans : ∀ {x y z}, lt x y = true → lt y z = true → lt x z = true
  tri : ∀ {x y}, lt x y = false → lt y x = false → x = y
namespace STO
variable {α β : Type} {lt : α → α → Bool} {l2 : β → β → Bool}
theorem asymm (h : STO lt) {x y : α} (a : lt x y = true) : lt y x = false := by
  cases b : lt y x with
  | false => rfl
  | true => have := h.trans a b; rw [h.irrefl] at this; cases this
theorem ntrans (h : STO lt) {x y z : α} (a : lt x y = false) (b : lt y z = false) : lt x z = false := by
  cases c : lt x z with
  | false => rfl
  | true =>
    cases d : lt y x with
    | true => have := h.trans d c; rw [b] at this; cases this
    | false => have := h.tri a d; subst this; rw [b] at c; cases c
theorem nat : STO Nat.blt where
  irrefl x := by cases h : Nat.blt x x with | false => rfl | true => have := (blt_iff _ _).1 h; omega
  trans {x y z} a b := (blt_iff _ _).2 (by have := (blt_iff _ _).1 a; have := (blt_iff _ _).1 b; omega)
  tri {x y} a b := by
    have h1 : ¬ x < y := fun h => by rw [(blt_iff _ _).2 h] at a; cases a
    have h2 : ¬ y < x := fun h => by rw [(blt_iff _ _).2 h] at b; cases b
    omega
theorem bef : STO befN := ⟨befN_irrefl, befN_trans, befN_tri⟩
theorem pull (h : STO lt) {f : β → α} (inj : ∀ {a b}, f a = f b → a = b) : STO (fun a b => lt (f a) (f b)) :=
  ⟨fun x => h.irrefl _, fun a b => h.trans a b, fun a b => inj (h.tri a b)⟩
end STO
/-- pairs: by the first, then by the second -/
def lexP {α β : Type} (l1 : α → α → Bool) (l2 : β → β → Bool) (a b : α × β) : Bool := bif l1 a.1 b.1 then true else bif l1 b.1 a.1 then false else l2 a.2 b.2
theorem lexP_eq {α β : Type} {l1 : α → α → Bool} {l2 : β → β → Bool} (h : STO l1) (a : α) (b c : β) : lexP l1 l2 (a, b) (a, c) = l2 b c := by simp [lexP, h.irrefl]
theorem lexP_tt {α β : Type} {l1 : α → α → Bool} {l2 : β → β → Bool} {a b : α × β} (h : l1 a.1 b.1 = true) : lexP l1 l2 a b = true := by simp [lexP, h]
theorem lexP_cases {α β : Type} {l1 : α → α → Bool} {l2 : β → β → Bool} (h1 : STO l1) {a b : α × β} (h : lexP l1 l2 a b = true) : l1 a.1 b.1 = true ∨ (a.1 = b.1 ∧ l2 a.2 b.2 = true) := by
  unfold lexP at h
  cases h2 : l1 a.1 b.1 with
  | true => exact .inl rfl
  | false =>
    cases h3 : l1 b.1 a.1 with
    | true => rw [h2, h3] at h; cases h
    | false => rw [h2, h3] at h; exact .inr ⟨h1.tri h2 h3, h⟩
theorem lexP_ncases {α β : Type} {l1 : α → α → Bool} {l2 : β → β → Bool} (h1 : STO l1) {a b : α × β} (h : lexP l1 l2 a b = false) : l1 b.1 a.1 = true ∨ (a.1 = b.1 ∧ l2 a.2 b.2 = false) := by
  unfold lexP at h
  cases h2 : l1 a.1 b.1 with
  | true => rw [h2] at h; cases h
  | false =>
    cases h3 : l1 b.1 a.1 with
    | true => exact .inl rfl
    | false => rw [h2, h3] at h; exact .inr ⟨h1.tri h2 h3, h⟩
theorem STO.lexP {α β : Type} {l1 : α → α → Bool} {l2 : β → β → Bool} (h1 : STO l1) (h2 : STO l2) : STO (lexP l1 l2) where
  irrefl x := by simp [Go.Proofs.YtdjhfeaimmpmhaaGreat.lexP, h1.irrefl, h2.irrefl]
  trans {x y z} a b := by
    obtain ⟨x1, x2⟩ := x; obtain ⟨y1, y2⟩ := y; obtain ⟨z1, z2⟩ := z
    rcases lexP_cases h1 a with a | ⟨a1, a2⟩
    · rcases lexP_cases h1 b with b | ⟨b1, b2⟩
      · exact lexP_tt (h1.trans a b)
      · simp only at b1; subst b1; exact lexP_tt a
    · simp only at a1; subst a1
      rcases lexP_cases h1 b with b | ⟨b1, b2⟩
      · exact lexP_tt b
      · simp only at b1; subst b1; rw [lexP_eq h1]; exact h2.trans a2 b2
  tri {x y} a b := by
    obtain ⟨x1, x2⟩ := x; obtain ⟨y1, y2⟩ := y
    rcases lexP_ncases h1 a with a | ⟨a1, a2⟩
    · rw [lexP_tt a] at b; cases b
    · simp only at a1; subst a1
      rw [lexP_eq h1] at b
      have e : x2 = y2 := h2.tri a2 b
      rw [e]
/-- lists: element by element; a beginning first -/
def lexL {α : Type} (lt : α → α → Bool) : List α → List α → Bool
  | [], [] => false
  | [], _ :: _ => true
  | _ :: _, [] => false
  | x :: xs, y :: ys => bif lt x y then true else bif lt y x then false else lexL lt xs ys
theorem lexL_cons {α : Type} (lt : α → α → Bool) (x y : α) (xs ys : List α) : lexL lt (x :: xs) (y :: ys) = lexP lt (lexL lt) (x, xs) (y, ys) := rfl
theorem STO.lexL {α : Type} {lt : α → α → Bool} (h : STO lt) : STO (lexL lt) where
  irrefl x := by
    induction x with
    | nil => rfl
    | cons x xs ih => simp [Go.Proofs.YtdjhfeaimmpmhaaGreat.lexL, h.irrefl, ih]
  trans {x} := by
    induction x with
    | nil =>
      intro y z a b
      cases z with
      | nil => cases y with | nil => exact b | cons _ _ => cases b
      | cons z zs => rfl
    | cons x xs ih =>
      intro y z a b
      cases y with
      | nil => cases a
      | cons y ys =>
        cases z with
        | nil => cases b
        | cons z zs =>
          rw [lexL_cons] at a b ⊢
          rcases lexP_cases h a with a | ⟨a1, a2⟩
          · rcases lexP_cases h b with b | ⟨b1, b2⟩
            · exact lexP_tt (h.trans a b)
            · simp only at b1; subst b1; exact lexP_tt a
          · simp only at a1; subst a1
            rcases lexP_cases h b with b | ⟨b1, b2⟩
            · exact lexP_tt b
            · simp only at b1; subst b1; rw [lexP_eq h]; exact ih a2 b2
  tri {x} := by
    induction x with
    | nil =>
      intro y a b
      cases y with
      | nil => rfl
      | cons _ _ => cases a
    | cons x xs ih =>
      intro y a b
      cases y with
      | nil => cases b
      | cons y ys =>
        rw [lexL_cons] at a b
        rcases lexP_ncases h a with a | ⟨a1, a2⟩
        · rw [lexP_tt a] at b; cases b
        · simp only at a1; subst a1
          rw [lexP_eq h] at b
          rw [ih a2 b]

/-- sorting by insertion -/
def insS {α : Type} (lt : α → α → Bool) (p : α) : List α → List α
  | [] => [p]
  | q :: qs => bif lt p q then p :: q :: qs else q :: insS lt p qs
def srtSF {α : Type} (lt : α → α → Bool) (s : List α) : List α → List α
  | [] => s
  | p :: ps => srtSF lt (insS lt p s) ps
def srtS {α : Type} (lt : α → α → Bool) (ps : List α) : List α := srtSF lt [] ps
def AscS {α : Type} (lt : α → α → Bool) (l : List α) : Prop := l.Pairwise fun a b => lt b a = false
section
variable {α : Type} {lt : α → α → Bool}
theorem insS_perm (p : α) : ∀ qs : List α, (insS lt p qs).Perm (p :: qs)
  | [] => .refl _
  | q :: qs => by
    rw [insS]
    cases lt p q with
    | true => exact .refl _
    | false => exact ((insS_perm p qs).cons q).trans (.swap p q qs)
theorem insS_asc (h : STO lt) {p : α} : ∀ {qs : List α}, AscS lt qs → AscS lt (insS lt p qs)
  | [], _ => by simp [insS, AscS]
  | q :: qs, hq => by
    rw [AscS, List.pairwise_cons] at hq
    rw [insS]
    cases hb : lt p q with
    | true =>
      refine List.pairwise_cons.2 ⟨fun x hx => ?_, List.pairwise_cons.2 hq⟩
      rcases List.mem_cons.1 hx with rfl | hx
      · exact h.asymm hb
      · exact h.ntrans (hq.1 x hx) (h.asymm hb)
    | false =>
      refine List.pairwise_cons.2 ⟨fun x hx => ?_, insS_asc h hq.2⟩
      have := (insS_perm p qs).mem_iff.1 hx
      rcases List.mem_cons.1 this with rfl | hx
      · exact hb
      · exact hq.1 x hx
theorem srtSF_perm : ∀ (s ps : List α), (srtSF lt s ps).Perm (s ++ ps)
  | s, [] => by simp [srtSF]
  | s, p :: ps => by
    rw [srtSF]
    refine (srtSF_perm _ ps).trans ?_
    refine ((insS_perm p s).append_right ps).trans ?_
    exact List.perm_middle.symm
theorem srtSF_asc (h : STO lt) : ∀ {s ps : List α}, AscS lt s → AscS lt (srtSF lt s ps)
  | s, [], hs => hs
  | s, p :: ps, hs => by rw [srtSF]; exact srtSF_asc h (s := insS lt p s) (ps := ps) (insS_asc h hs)
theorem srtS_unique (h : STO lt) {l ps : List α} (hp : l.Perm ps) (hd : AscS lt l) : l = srtS lt ps :=
  List.Perm.eq_of_pairwise (fun a b _ _ (h1 : lt b a = false) (h2 : lt a b = false) => h.tri h2 h1) hd (srtSF_asc h (by simp [AscS])) (hp.trans (by have := srtSF_perm (lt := lt) [] ps; simpa [srtS] using this.symm))
end

/-- forests: fewer trees first, then tree by tree -/
def ltK (f g : List (List Nat)) : Bool := lexP Nat.blt (lexL befN) (f.length, f) (g.length, g)
theorem STO.ltK : STO ltK := (STO.nat.lexP STO.bef.lexL).pull (f := fun f : List (List Nat) => (f.length, f)) fun h => by injection h
def ndN : List (List Nat) → Nat
  | [] => 0
  | t :: ts => t.length + ndN ts
/-- forests: fewer nodes first -/
def ltW (f g : List (List Nat)) : Bool := lexP Nat.blt Go.Proofs.YtdjhfeaimmpmhaaGreat.ltK (ndN f, f) (ndN g, g)
theorem STO.ltW : STO ltW := (STO.nat.lexP STO.ltK).pull (f := fun f : List (List Nat) => (ndN f, f)) fun h => by injection h
abbrev SP := List (List Nat) × List (List Nat)
/-- cuts: by the crowns, then by the trunks -/
def ltS : SP → SP → Bool := lexP Go.Proofs.YtdjhfeaimmpmhaaGreat.ltW Go.Proofs.YtdjhfeaimmpmhaaGreat.ltK
theorem STO.ltS : STO ltS := STO.ltW.lexP STO.ltK
end Go.Proofs.YtdjhfeaimmpmhaaGreat

