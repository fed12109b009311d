/- Walks: slices.BinarySearchFunc at trees, indexIn of the program; l03Find of the reference. -/
import Derived.Test.YtbjeibcombjfgaaQf14
set_option maxRecDepth 100000
set_option linter.unusedVariables false
set_option linter.unusedSimpArgs false
namespace Go.Proofs.Ytbjeibcombjfgaa
open Go.RowKit

/-- the binary search -/
def bsF (xs : List (List Nat)) (t : List Nat) : Nat → Nat → Nat → Nat
  | 0, i, _ => i
  | f + 1, i, j => bif Nat.blt i j then (bif befN (xs.getD ((i + j) / 2) []) t then bsF xs t f ((i + j) / 2 + 1) j else bsF xs t f i ((i + j) / 2)) else i
/-- one more than the place that the binary search finds, or 0 -/
def idxN (xs : List (List Nat)) (t : List Nat) : Nat := bif Nat.blt (bsF xs t xs.length 0 xs.length) xs.length && eqN (xs.getD (bsF xs t xs.length 0 xs.length) []) t then bsF xs t xs.length 0 xs.length + 1 else 0
/-- one more than the first place of a tree in a list, or 0 -/
def fndF (t : List Nat) : Nat → List (List Nat) → Nat
  | _, [] => 0
  | i, x :: xs => bif eqN x t then i + 1 else fndF t (i + 1) xs
def fndN (xs : List (List Nat)) (t : List Nat) : Nat := fndF t 0 xs

theorem bsF_end {xs : List (List Nat)} {t : List Nat} : ∀ {f i j : Nat}, ¬ i < j → bsF xs t f i j = i
  | 0, i, j, _ => rfl
  | f + 1, i, j, h => by
    have : Nat.blt i j = false := by
      cases hh : Nat.blt i j with
      | true => exact absurd ((blt_iff _ _).1 hh) h
      | false => rfl
    rw [bsF, this]; rfl
theorem bsF_step {xs : List (List Nat)} {t : List Nat} {f i j : Nat} (h : i < j) (hf : j - i ≤ f) : ∃ g, f = g + 1 ∧ bsF xs t f i j = bif befN (xs.getD ((i + j) / 2) []) t then bsF xs t g ((i + j) / 2 + 1) j else bsF xs t g i ((i + j) / 2) := by
  obtain ⟨g, rfl⟩ : ∃ g, f = g + 1 := ⟨f - 1, by omega⟩
  exact ⟨g, rfl, by rw [bsF, (blt_iff _ _).2 h]; rfl⟩
theorem ret_i64 {a b : Int} (h : a = b) : Ending.returned (.int .i64 a) = Ending.returned (.int .i64 b) := by rw [h]
theorem cmpL_zero : ∀ a b : List Int, cmpL a b = 0 ↔ a = b
  | [], [] => by simp [cmpL]
  | [], _ :: _ => by simp [cmpL]
  | _ :: _, [] => by simp [cmpL]
  | x :: xs, y :: ys => by
    rw [cmpL]
    by_cases h1 : x < y
    · rw [if_pos h1]; constructor
      · intro h; omega
      · intro h; injection h with h _; omega
    · rw [if_neg h1]
      by_cases h2 : y < x
      · rw [if_pos h2]; constructor
        · intro h; omega
        · intro h; injection h with h _; omega
      · rw [if_neg h2, cmpL_zero xs ys, show x = y by omega]
        simp
theorem cmpT_zero (a b : List Nat) : (cmpT (up a) (up b) == 0) = eqN a b := by
  have h : cmpT (up a) (up b) = 0 ↔ a = b := by
    unfold cmpT
    rw [up_len, up_len]
    by_cases hl : a.length = b.length
    · rw [if_pos hl, cmpL_zero]
      exact ⟨fun h => (up_inj h).symm, fun h => by rw [h]⟩
    · rw [if_neg hl]
      exact ⟨fun h => absurd (by omega) hl, fun h => absurd (by rw [h]) hl⟩
  by_cases e : a = b
  · rw [eqN_iff.2 e, h.2 e]; rfl
  · have h1 : eqN a b = false := by
      cases hh : eqN a b with
      | true => exact absurd (eqN_iff.1 hh) e
      | false => rfl
    rw [h1]
    have : cmpT (up a) (up b) ≠ 0 := fun hz => e (h.1 hz)
    simpa using this

set_option maxHeartbeats 4000000 in
theorem lib_Search (w : World) (v tv : Value) (xs : List (List Nat)) (t : List Nat) (ha : Rows w v (xs.map up)) (ht : Ints w tv (up t)) (hn : xs.length ≤ 1000) :
    Calls Try.prog 174 #[v, tv, .func (.func 150) #[] #[]] w fun e w' => e = .returned (.tuple #[.int .i64 (bsF xs t xs.length 0 xs.length), .bool (Nat.blt (bsF xs t xs.length 0 xs.length) xs.length && eqN (xs.getD (bsF xs t xs.length 0 xs.length) []) t)]) ∧ w = w' := by
  obtain ⟨A, c, rfl, l1, l2, h3⟩ := ha.open_
  rw [List.length_map] at l1 h3 ⊢
  have HT := Lib.hid ht
  have H3 := Lib.hid (show ∀ k, k < xs.length → ∃ ad q A5 c5, A = some ad ∧ xs[k]? = some q ∧ Ints w (.slice A5 q.length c5) (up q) ∧ w.cell? (ad.add k) = some (.slice A5 q.length c5) from fun k hk => by
    obtain ⟨ad, u, zs, h1, h2, h4, h5⟩ := h3 k hk
    have hq : xs[k]? = some (xs[k]'hk) := List.getElem?_eq_getElem _
    rw [List.getElem?_map, hq] at h2
    injection h2 with h2
    subst h2
    obtain ⟨A5, c5, he5, -, -, -⟩ := h4.open_
    rw [up_len] at he5
    subst he5
    exact ⟨ad, _, A5, c5, h1, hq, h4, h5⟩)
  obtain ⟨At, ct, rfl, -, -, -⟩ := ht.open_
  rw [up_len] at HT ⊢
  obtain ⟨R, hR⟩ : ∃ R, R = bsF xs t xs.length 0 xs.length := ⟨_, rfl⟩
  rw [← hR]
  obtain ⟨BB, hBB⟩ : ∃ BB, BB = (Nat.blt R xs.length && eqN (xs.getD R []) t) := ⟨_, rfl⟩
  rw [← hBB]
  have HR := Lib.hid hR
  have HBB := Lib.hid hBB
  clear ha ht h3 hR hBB
  go_enter Try.func174, Try.ntmps174
  go_wp2_with fail
  go_loopw [9, 10] (fun x y wr => ∃ i j f : Nat, i ≤ j ∧ j ≤ xs.length ∧ x = .int .i64 i ∧ y = .int .i64 j ∧ j - i ≤ f ∧ Hid (bsF xs t f i j = R) ∧ w = wr) (fun x y _ => (intOf y).toNat - (intOf x).toNat)
  case atStart => exact ⟨0, xs.length, xs.length, Nat.zero_le _, Nat.le_refl _, rfl, rfl, by omega, HR.out.symm, rfl⟩
  case round =>
    obtain ⟨i, j, f, hij, hj, rfl, rfl, hf, HB, rfl⟩ := hrel
    by_cases hlt : i < j
    · obtain ⟨g, hfg, hbs⟩ := bsF_step (xs := xs) (t := t) hlt hf
      rw [HB.out] at hbs
      obtain ⟨ad, q, A5, c5, rfl, hq, hq2, hc⟩ := H3.out ((i + j) / 2) (by omega)
      have hgd : xs.getD ((i + j) / 2) [] = q := by simp [List.getD, hq]
      rw [hgd] at hbs
      have hcm := cmpT_up q t
      have hct := i_compareTrees w _ _ _ _ hq2 HT.out
      generalize cmpT (up q) (up t) = z at hcm hct
      have HCT := Lib.hid hct
      have hii : (i : Int) < (j : Int) := by omega
      have hw1 : IntKind.i64.wrap ((i : Int) + (j : Int)) = (i : Int) + (j : Int) := IntWalk.i64_in _ (by omega)
      have hw2 : IntKind.u64.wrap ((i : Int) + (j : Int)) = (i : Int) + (j : Int) := IntWalk.u64_in _ (by omega)
      clear hq hq2 hgd hct
      cases hb : befN q t with
      | true =>
        rw [hb] at hbs hcm
        have HBS := Lib.hid hbs
        have hz : z < 0 := by simpa using hcm
        have hw3 : IntKind.i64.wrap (((i : Int) + (j : Int)) / 2 + 1) = ((i : Int) + (j : Int)) / 2 + 1 := IntWalk.i64_in _ (by omega)
        clear hbs hb hcm
        go_wp2_with (go_at_call 150; refine HCT.out.mono ?_; rintro e w1 ⟨rfl, rfl⟩)
        go_roundw
        case rel =>
          clear hw1 hw2 hw3
          exact ⟨(i + j) / 2 + 1, j, g, by omega, hj, by congr 1 <;> omega, rfl, by omega, HBS.out.symm, by first | rfl | trivial⟩
        case measure => clear hw1 hw2 hw3; simp [intOf]; omega
      | false =>
        rw [hb] at hbs hcm
        have HBS := Lib.hid hbs
        have hz : ¬ (z < 0) := by simpa using hcm
        clear hbs hb hcm
        go_wp2_with (go_at_call 150; refine HCT.out.mono ?_; rintro e w1 ⟨rfl, rfl⟩)
        go_roundw
        case rel =>
          clear hw1 hw2
          exact ⟨i, (i + j) / 2, g, by omega, by omega, rfl, by congr 1 <;> omega, by omega, HBS.out.symm, by first | rfl | trivial⟩
        case measure => clear hw1 hw2; simp [intOf]; omega
    · have hiR : i = R := by rw [← HB.out, bsF_end hlt]
      have hii : ¬ ((i : Int) < (j : Int)) := by omega
      subst hiR
      by_cases hl : i < xs.length
      · obtain ⟨ad, q, A5, c5, rfl, hq, hq2, hc⟩ := H3.out i hl
        have hgd : xs.getD i [] = q := by simp [List.getD, hq]
        have hcm := cmpT_zero q t
        have hct := i_compareTrees w _ _ _ _ hq2 HT.out
        generalize cmpT (up q) (up t) = z at hcm hct
        have HCT := Lib.hid hct
        have HE := Lib.hid (show BB = (z == 0) from by rw [HBB.out, (blt_iff _ _).2 hl, hgd, hcm]; rfl)
        have hli : (i : Int) < (xs.length : Int) := by omega
        clear hq hq2 hgd hct hcm
        go_wp2_with (go_at_call 150; refine HCT.out.mono ?_; rintro e w1 ⟨rfl, rfl⟩)
        go_ret2
        obtain rfl := HE.out
        exact ⟨rfl, rfl⟩
      · have HE := Lib.hid (show BB = false from by
          have : Nat.blt i xs.length = false := by
            cases hh : Nat.blt i xs.length with
            | true => exact absurd ((blt_iff _ _).1 hh) hl
            | false => rfl
          rw [HBB.out, this]; rfl)
        have hli : ¬ ((i : Int) < (xs.length : Int)) := by omega
        go_wp2_with fail
        go_ret2
        obtain rfl := HE.out
        exact ⟨rfl, rfl⟩

set_option maxHeartbeats 2000000 in
theorem i_indexIn (w : World) (v tv : Value) (xs : List (List Nat)) (t : List Nat) (ha : Rows w v (xs.map up)) (ht : Ints w tv (up t)) (hn : xs.length ≤ 1000) :
    Calls Try.prog 106 #[v, tv] w fun e w' => e = .returned (.int .i64 ((idxN xs t : Int) - 1)) ∧ w = w' := by
  have HS := Lib.hid (lib_Search w v tv xs t ha ht hn)
  have hI : idxN xs t = bif Nat.blt (bsF xs t xs.length 0 xs.length) xs.length && eqN (xs.getD (bsF xs t xs.length 0 xs.length) []) t then bsF xs t xs.length 0 xs.length + 1 else 0 := rfl
  obtain ⟨A, c, rfl, -, -, -⟩ := ha.open_
  obtain ⟨At, ct, rfl, -, -, -⟩ := ht.open_
  rw [List.length_map, up_len] at HS ⊢
  generalize (Nat.blt (bsF xs t xs.length 0 xs.length) xs.length && eqN (xs.getD (bsF xs t xs.length 0 xs.length) []) t) = b at hI HS
  generalize bsF xs t xs.length 0 xs.length = R at hI HS
  clear ha ht
  cases b with
  | true =>
    have HI := Lib.hid (show ((idxN xs t : Int) - 1) = (R : Int) from by rw [hI]; simp)
    rw [HI.out]
    clear hI
    go_enter Try.func106, Try.ntmps106
    go_wp2_with (go_at_call 174; refine HS.out.mono ?_; rintro e w1 ⟨rfl, rfl⟩)
    go_ret
    exact ⟨rfl, rfl⟩
  | false =>
    have HI := Lib.hid (show ((idxN xs t : Int) - 1) = -1 from by rw [hI]; simp)
    rw [HI.out]
    clear hI
    go_enter Try.func106, Try.ntmps106
    go_wp2_with (go_at_call 174; refine HS.out.mono ?_; rintro e w1 ⟨rfl, rfl⟩)
    go_ret
    exact ⟨rfl, rfl⟩

theorem fndF_step {t : List Nat} {xs : List (List Nat)} {k : Nat} {q : List Nat} (hq : xs[k]? = some q) (i : Nat) : fndF t i (xs.drop k) = bif eqN q t then i + 1 else fndF t (i + 1) (xs.drop (k + 1)) := by
  have : xs.drop k = q :: xs.drop (k + 1) := by
    obtain ⟨hk, rfl⟩ := List.getElem?_eq_some_iff.1 hq
    exact List.drop_eq_getElem_cons hk
  rw [this, fndF]

set_option maxHeartbeats 2000000 in
theorem s_l03Find (w : World) (v tv : Value) (xs : List (List Nat)) (t : List Nat) (ha : Rows w v (xs.map up)) (ht : Ints w tv (up t)) (hn : xs.length ≤ 1000) :
    Calls Try.prog 169 #[v, tv] w fun e w' => e = .returned (.int .i64 ((fndN xs t : Int) - 1)) ∧ ∃ n, w' = w.drewN n := by
  obtain ⟨A, c, rfl, l1, l2, h3⟩ := ha.open_
  rw [List.length_map] at l1 h3 ⊢
  have HT := Lib.hid ht
  have H3 := Lib.hid (show ∀ k, k < xs.length → ∃ ad q A5 c5, A = some ad ∧ xs[k]? = some q ∧ Ints w (.slice A5 q.length c5) (up q) ∧ w.cell? (ad.add k) = some (.slice A5 q.length c5) from fun k hk => by
    obtain ⟨ad, u, zs, h1, h2, h4, h5⟩ := h3 k hk
    have hq : xs[k]? = some (xs[k]'hk) := List.getElem?_eq_getElem _
    rw [List.getElem?_map, hq] at h2
    injection h2 with h2
    subst h2
    obtain ⟨A5, c5, he5, -, -, -⟩ := h4.open_
    rw [up_len] at he5
    subst he5
    exact ⟨ad, _, A5, c5, h1, hq, h4, h5⟩)
  obtain ⟨At, ct, rfl, -, -, -⟩ := ht.open_
  rw [up_len] at HT ⊢
  have hF : fndF t 0 (xs.drop 0) = fndN xs t := rfl
  generalize fndN xs t = R at hF
  have HF := Lib.hid hF
  clear ha ht h3 hF
  go_enter Try.func169, Try.ntmps169
  go_wp2_with fail
  go_loopw [5] (fun x wr => ∃ i d : Nat, i ≤ xs.length ∧ x = .int .i64 i ∧ Hid (fndF t i (xs.drop i) = R) ∧ wr = w.drewN d) (fun x _ => xs.length - (intOf x).toNat)
  case atStart => exact ⟨0, 0, Nat.zero_le _, rfl, HF.out, rfl⟩
  case round =>
    obtain ⟨i, d, hi, rfl, HR, rfl⟩ := hrel
    by_cases hl : i < xs.length
    · obtain ⟨ad, q, A5, c5, rfl, hq, hq2, hc⟩ := H3.out i hl
      have hr := HR.out
      rw [fndF_step hq] at hr
      have HQ := Lib.hid (hq2.drewN d)
      have HTd := Lib.hid (HT.out.drewN d)
      have hsm := s_l01Same (w.drewN d) _ _ _ _ HQ.out HTd.out
      have hed : eqN q t = decide (up q = up t) := by
        by_cases e : q = t
        · rw [eqN_iff.2 e, e]; exact (decide_eq_true rfl).symm
        · have h1 : eqN q t = false := by
            cases hh : eqN q t with
            | true => exact absurd (eqN_iff.1 hh) e
            | false => rfl
          rw [h1]; exact (decide_eq_false fun h => e (up_inj h)).symm
      rw [← hed] at hsm
      have hli : (i : Int) < (xs.length : Int) := by omega
      clear hq hq2 hed HR
      cases hb : eqN q t with
      | true =>
        rw [hb] at hr hsm
        have HSM := Lib.hid hsm
        have HI := Lib.hid (show ((R : Int) - 1) = (i : Int) from by rw [← show i + 1 = R from hr]; omega)
        clear hr hsm hb
        go_wp2_with (go_at_call 86; refine HSM.out.mono ?_; rintro e w2 ⟨rfl, n2, rfl⟩)
        go_ret
        exact ⟨ret_i64 HI.out.symm, _, by first | rfl | exact World.drewN_drewN ..⟩
      | false =>
        rw [hb] at hr hsm
        have HSM := Lib.hid hsm
        have HI := Lib.hid (show fndF t (i + 1) (xs.drop (i + 1)) = R from hr)
        clear hr hsm hb
        go_wp2_with (go_at_call 86; refine HSM.out.mono ?_; rintro e w2 ⟨rfl, n2, rfl⟩)
        go_roundw
        case rel => exact ⟨i + 1, _, by omega, by go_num, HI.out, by first | rfl | exact World.drewN_drewN ..⟩
        case measure => simp [intOf]; omega
    · have hil : i = xs.length := by omega
      have HI := Lib.hid (show ((R : Int) - 1) = -1 from by rw [← HR.out, hil, List.drop_length, fndF]; rfl)
      have hli : ¬ ((i : Int) < (xs.length : Int)) := by omega
      go_wp2_with fail
      go_ret
      exact ⟨ret_i64 HI.out.symm, _, rfl⟩
end Go.Proofs.Ytbjeibcombjfgaa

