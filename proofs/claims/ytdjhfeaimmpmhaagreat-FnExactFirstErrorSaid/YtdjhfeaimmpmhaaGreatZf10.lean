/- Walks: slices.BinarySearchFunc at trees, indexIn of the program; l03Find of the reference. | Plain: strict total orders, lexicographic ones among them; sorting by insertion. | Lists of one's own of structs of k cells, over what an element's cells say; such a list sorted by the library. No program in sight. -/
import Derived.Test.YtdjhfeaimmpmhaaGreatZf9
import Derived.Test.YtdjhfeaimmpmhaaGreatZf5
import Derived.Test.YtdjhfeaimmpmhaaGreatZf8
import Derived.Test.YtdjhfeaimmpmhaaGreatZf7
import Derived.Test.YtdjhfeaimmpmhaaGreatZf6
import Derived.Shelf.SlSortCmp.WholeK
import Derived.Shelf.SlSortCmp.NoneTotal
set_option maxRecDepth 100000
set_option linter.unusedVariables false
set_option linter.unusedSimpArgs false
namespace Go.Proofs.YtdjhfeaimmpmhaaGreat
open Go.RowKit

/-- the binary search -/
def bsF (xs : List (List Nat)) (t : List Nat) : Nat → Nat → Nat → Nat
  | 0, i, _ => i
  | f + 1, i, j => bif Nat.blt i j then (bif befN (xs.getD ((i + j) / 2) []) t then bsF xs t f ((i + j) / 2 + 1) j else bsF xs t f i ((i + j) / 2)) else i
/-- one more than the place that the binary search finds, or 0 -/
def idxN (xs : List (List Nat)) (t : List Nat) : Nat := bif Nat.blt (bsF xs t xs.length 0 xs.length) xs.length && eqN (xs.getD (bsF xs t xs.length 0 xs.length) []) t then bsF xs t xs.length 0 xs.length + 1 else 0
/-- one more than the first place of a tree in a list, or 0 -/
def fndF (t : List Nat) : Nat → List (List Nat) → Nat
  | _, [] => 0
  | i, x :: xs => bif eqN x t then i + 1 else fndF t (i + 1) xs
def fndN (xs : List (List Nat)) (t : List Nat) : Nat := fndF t 0 xs

theorem bsF_end {xs : List (List Nat)} {t : List Nat} : ∀ {f i j : Nat}, ¬ i < j → bsF xs t f i j = i
  | 0, i, j, _ => rfl
  | f + 1, i, j, h => by
    have : Nat.blt i j = false := by
      cases hh : Nat.blt i j with
      | true => exact absurd ((blt_iff _ _).1 hh) h
      | false => rfl
    rw [bsF, this]; rfl
theorem bsF_step {xs : List (List Nat)} {t : List Nat} {f i j : Nat} (h : i < j) (hf : j - i ≤ f) : ∃ g, f = g + 1 ∧ bsF xs t f i j = bif befN (xs.getD ((i + j) / 2) []) t then bsF xs t g ((i + j) / 2 + 1) j else bsF xs t g i ((i + j) / 2) := by
  obtain ⟨g, rfl⟩ : ∃ g, f = g + 1 := ⟨f - 1, by omega⟩
  exact ⟨g, rfl, by rw [bsF, (blt_iff _ _).2 h]; rfl⟩
theorem ret_i64 {a b : Int} (h : a = b) : Ending.returned (.int .i64 a) = Ending.returned (.int .i64 b) := by rw [h]
theorem cmpL_zero : ∀ a b : List Int, cmpL a b = 0 ↔ a = b
  | [], [] => by simp [cmpL]
  | [], _ :: _ => by simp [cmpL]
  | _ :: _, [] => by simp [cmpL]
  | x :: xs, y :: ys => by
    rw [cmpL]
    by_cases h1 : x < y
    · rw [if_pos h1]; constructor
      · intro h; omega
      · intro h; injection h with h _; omega
    · rw [if_neg h1]
      by_cases h2 : y < x
      · rw [if_pos h2]; constructor
        · intro h; omega
        · intro h; injection h with h _; omega
      · rw [if_neg h2, cmpL_zero xs ys, show x = y by omega]
        simp
theorem cmpT_zero (a b : List Nat) : (cmpT (up a) (up b) == 0) = eqN a b := by
  have h : cmpT (up a) (up b) = 0 ↔ a = b := by
    unfold cmpT
    rw [up_len, up_len]
    by_cases hl : a.length = b.length
    · rw [if_pos hl, cmpL_zero]
      exact ⟨fun h => (up_inj h).symm, fun h => by rw [h]⟩
    · rw [if_neg hl]
      exact ⟨fun h => absurd (by omega) hl, fun h => absurd (by rw [h]) hl⟩
  by_cases e : a = b
  · rw [eqN_iff.2 e, h.2 e]; rfl
  · have h1 : eqN a b = false := by
      cases hh : eqN a b with
      | true => exact absurd (eqN_iff.1 hh) e
      | false => rfl
    rw [h1]
    have : cmpT (up a) (up b) ≠ 0 := fun hz => e (h.1 hz)
    simpa using this

set_option maxHeartbeats 4000000 in
theorem lib_Search (w : World) (v tv : Value) (xs : List (List Nat)) (t : List Nat) (ha : Rows w v (xs.map up)) (ht : Ints w tv (up t)) (hn : xs.length ≤ 1000) :
    Calls Tryz.prog 117 #[v, tv, .func (.func 118) #[] #[]] w fun e w' => e = .returned (.tuple #[.int .i64 (bsF xs t xs.length 0 xs.length), .bool (Nat.blt (bsF xs t xs.length 0 xs.length) xs.length && eqN (xs.getD (bsF xs t xs.length 0 xs.length) []) t)]) ∧ w = w' := by
  obtain ⟨A, c, rfl, l1, l2, h3⟩ := ha.open_
  rw [List.length_map] at l1 h3 ⊢
  have HT := Lib.hid ht
  have H3 := Lib.hid (show ∀ k, k < xs.length → ∃ ad q A5 c5, A = some ad ∧ xs[k]? = some q ∧ Ints w (.slice A5 q.length c5) (up q) ∧ w.cell? (ad.add k) = some (.slice A5 q.length c5) from fun k hk => by
    obtain ⟨ad, u, zs, h1, h2, h4, h5⟩ := h3 k hk
    have hq : xs[k]? = some (xs[k]'hk) := List.getElem?_eq_getElem _
    rw [List.getElem?_map, hq] at h2
    injection h2 with h2
    subst h2
    obtain ⟨A5, c5, he5, -, -, -⟩ := h4.open_
    rw [up_len] at he5
    subst he5
    exact ⟨ad, _, A5, c5, h1, hq, h4, h5⟩)
  obtain ⟨At, ct, rfl, -, -, -⟩ := ht.open_
  rw [up_len] at HT ⊢
  obtain ⟨R, hR⟩ : ∃ R, R = bsF xs t xs.length 0 xs.length := ⟨_, rfl⟩
  rw [← hR]
  obtain ⟨BB, hBB⟩ : ∃ BB, BB = (Nat.blt R xs.length && eqN (xs.getD R []) t) := ⟨_, rfl⟩
  rw [← hBB]
  have HR := Lib.hid hR
  have HBB := Lib.hid hBB
  clear ha ht h3 hR hBB
  go_enter Tryz.func117, Tryz.ntmps117
  go_wp2_with fail
  go_loopw [9, 10] (fun x y wr => ∃ i j f : Nat, i ≤ j ∧ j ≤ xs.length ∧ x = .int .i64 i ∧ y = .int .i64 j ∧ j - i ≤ f ∧ Hid (bsF xs t f i j = R) ∧ w = wr) (fun x y _ => (intOf y).toNat - (intOf x).toNat)
  case atStart => exact ⟨0, xs.length, xs.length, Nat.zero_le _, Nat.le_refl _, rfl, rfl, by omega, HR.out.symm, rfl⟩
  case round =>
    obtain ⟨i, j, f, hij, hj, rfl, rfl, hf, HB, rfl⟩ := hrel
    by_cases hlt : i < j
    · obtain ⟨g, hfg, hbs⟩ := bsF_step (xs := xs) (t := t) hlt hf
      rw [HB.out] at hbs
      obtain ⟨ad, q, A5, c5, rfl, hq, hq2, hc⟩ := H3.out ((i + j) / 2) (by omega)
      have hgd : xs.getD ((i + j) / 2) [] = q := by simp [List.getD, hq]
      rw [hgd] at hbs
      have hcm := cmpT_up q t
      have hct := i_compareTrees w _ _ _ _ hq2 HT.out
      generalize cmpT (up q) (up t) = z at hcm hct
      have HCT := Lib.hid hct
      have hii : (i : Int) < (j : Int) := by omega
      have hw1 : IntKind.i64.wrap ((i : Int) + (j : Int)) = (i : Int) + (j : Int) := IntWalk.i64_in _ (by omega)
      have hw2 : IntKind.u64.wrap ((i : Int) + (j : Int)) = (i : Int) + (j : Int) := IntWalk.u64_in _ (by omega)
      clear hq hq2 hgd hct
      cases hb : befN q t with
      | true =>
        rw [hb] at hbs hcm
        have HBS := Lib.hid hbs
        have hz : z < 0 := by simpa using hcm
        have hw3 : IntKind.i64.wrap (((i : Int) + (j : Int)) / 2 + 1) = ((i : Int) + (j : Int)) / 2 + 1 := IntWalk.i64_in _ (by omega)
        clear hbs hb hcm
        go_wp2_with (go_at_call 118; refine HCT.out.mono ?_; rintro e w1 ⟨rfl, rfl⟩)
        go_roundw
        case rel =>
          clear hw1 hw2 hw3
          exact ⟨(i + j) / 2 + 1, j, g, by omega, hj, by congr 1 <;> omega, rfl, by omega, HBS.out.symm, by first | rfl | trivial⟩
        case measure => clear hw1 hw2 hw3; simp [intOf]; omega
      | false =>
        rw [hb] at hbs hcm
        have HBS := Lib.hid hbs
        have hz : ¬ (z < 0) := by simpa using hcm
        clear hbs hb hcm
        go_wp2_with (go_at_call 118; refine HCT.out.mono ?_; rintro e w1 ⟨rfl, rfl⟩)
        go_roundw
        case rel =>
          clear hw1 hw2
          exact ⟨i, (i + j) / 2, g, by omega, by omega, rfl, by congr 1 <;> omega, by omega, HBS.out.symm, by first | rfl | trivial⟩
        case measure => clear hw1 hw2; simp [intOf]; omega
    · have hiR : i = R := by rw [← HB.out, bsF_end hlt]
      have hii : ¬ ((i : Int) < (j : Int)) := by omega
      subst hiR
      by_cases hl : i < xs.length
      · obtain ⟨ad, q, A5, c5, rfl, hq, hq2, hc⟩ := H3.out i hl
        have hgd : xs.getD i [] = q := by simp [List.getD, hq]
        have hcm := cmpT_zero q t
        have hct := i_compareTrees w _ _ _ _ hq2 HT.out
        generalize cmpT (up q) (up t) = z at hcm hct
        have HCT := Lib.hid hct
        have HE := Lib.hid (show BB = (z == 0) from by rw [HBB.out, (blt_iff _ _).2 hl, hgd, hcm]; rfl)
        have hli : (i : Int) < (xs.length : Int) := by omega
        clear hq hq2 hgd hct hcm
        go_wp2_with (go_at_call 118; refine HCT.out.mono ?_; rintro e w1 ⟨rfl, rfl⟩)
        go_ret2
        obtain rfl := HE.out
        exact ⟨rfl, rfl⟩
      · have HE := Lib.hid (show BB = false from by
          have : Nat.blt i xs.length = false := by
            cases hh : Nat.blt i xs.length with
            | true => exact absurd ((blt_iff _ _).1 hh) hl
            | false => rfl
          rw [HBB.out, this]; rfl)
        have hli : ¬ ((i : Int) < (xs.length : Int)) := by omega
        go_wp2_with fail
        go_ret2
        obtain rfl := HE.out
        exact ⟨rfl, rfl⟩

set_option maxHeartbeats 2000000 in
theorem i_indexIn (w : World) (v tv : Value) (xs : List (List Nat)) (t : List Nat) (ha : Rows w v (xs.map up)) (ht : Ints w tv (up t)) (hn : xs.length ≤ 1000) :
    Calls Tryz.prog 57 #[v, tv] w fun e w' => e = .returned (.int .i64 ((idxN xs t : Int) - 1)) ∧ w = w' := by
  have HS := Lib.hid (lib_Search w v tv xs t ha ht hn)
  have hI : idxN xs t = bif Nat.blt (bsF xs t xs.length 0 xs.length) xs.length && eqN (xs.getD (bsF xs t xs.length 0 xs.length) []) t then bsF xs t xs.length 0 xs.length + 1 else 0 := rfl
  obtain ⟨A, c, rfl, -, -, -⟩ := ha.open_
  obtain ⟨At, ct, rfl, -, -, -⟩ := ht.open_
  rw [List.length_map, up_len] at HS ⊢
  generalize (Nat.blt (bsF xs t xs.length 0 xs.length) xs.length && eqN (xs.getD (bsF xs t xs.length 0 xs.length) []) t) = b at hI HS
  generalize bsF xs t xs.length 0 xs.length = R at hI HS
  clear ha ht
  cases b with
  | true =>
    have HI := Lib.hid (show ((idxN xs t : Int) - 1) = (R : Int) from by rw [hI]; simp)
    rw [HI.out]
    clear hI
    go_enter Tryz.func57, Tryz.ntmps57
    go_wp2_with (go_at_call 117; refine HS.out.mono ?_; rintro e w1 ⟨rfl, rfl⟩)
    go_ret
    exact ⟨rfl, rfl⟩
  | false =>
    have HI := Lib.hid (show ((idxN xs t : Int) - 1) = -1 from by rw [hI]; simp)
    rw [HI.out]
    clear hI
    go_enter Tryz.func57, Tryz.ntmps57
    go_wp2_with (go_at_call 117; refine HS.out.mono ?_; rintro e w1 ⟨rfl, rfl⟩)
    go_ret
    exact ⟨rfl, rfl⟩

theorem fndF_step {t : List Nat} {xs : List (List Nat)} {k : Nat} {q : List Nat} (hq : xs[k]? = some q) (i : Nat) : fndF t i (xs.drop k) = bif eqN q t then i + 1 else fndF t (i + 1) (xs.drop (k + 1)) := by
  have : xs.drop k = q :: xs.drop (k + 1) := by
    obtain ⟨hk, rfl⟩ := List.getElem?_eq_some_iff.1 hq
    exact List.drop_eq_getElem_cons hk
  rw [this, fndF]

set_option maxHeartbeats 2000000 in
theorem s_l03Find (w : World) (v tv : Value) (xs : List (List Nat)) (t : List Nat) (ha : Rows w v (xs.map up)) (ht : Ints w tv (up t)) (hn : xs.length ≤ 1000) :
    Calls Tryz.prog 72 #[v, tv] w fun e w' => e = .returned (.int .i64 ((fndN xs t : Int) - 1)) ∧ ∃ n, w' = w.drewN n := by
  obtain ⟨A, c, rfl, l1, l2, h3⟩ := ha.open_
  rw [List.length_map] at l1 h3 ⊢
  have HT := Lib.hid ht
  have H3 := Lib.hid (show ∀ k, k < xs.length → ∃ ad q A5 c5, A = some ad ∧ xs[k]? = some q ∧ Ints w (.slice A5 q.length c5) (up q) ∧ w.cell? (ad.add k) = some (.slice A5 q.length c5) from fun k hk => by
    obtain ⟨ad, u, zs, h1, h2, h4, h5⟩ := h3 k hk
    have hq : xs[k]? = some (xs[k]'hk) := List.getElem?_eq_getElem _
    rw [List.getElem?_map, hq] at h2
    injection h2 with h2
    subst h2
    obtain ⟨A5, c5, he5, -, -, -⟩ := h4.open_
    rw [up_len] at he5
    subst he5
    exact ⟨ad, _, A5, c5, h1, hq, h4, h5⟩)
  obtain ⟨At, ct, rfl, -, -, -⟩ := ht.open_
  rw [up_len] at HT ⊢
  have hF : fndF t 0 (xs.drop 0) = fndN xs t := rfl
  generalize fndN xs t = R at hF
  have HF := Lib.hid hF
  clear ha ht h3 hF
  go_enter Tryz.func72, Tryz.ntmps72
  go_wp2_with fail
  go_loopw [5] (fun x wr => ∃ i d : Nat, i ≤ xs.length ∧ x = .int .i64 i ∧ Hid (fndF t i (xs.drop i) = R) ∧ wr = w.drewN d) (fun x _ => xs.length - (intOf x).toNat)
  case atStart => exact ⟨0, 0, Nat.zero_le _, rfl, HF.out, rfl⟩
  case round =>
    obtain ⟨i, d, hi, rfl, HR, rfl⟩ := hrel
    by_cases hl : i < xs.length
    · obtain ⟨ad, q, A5, c5, rfl, hq, hq2, hc⟩ := H3.out i hl
      have hr := HR.out
      rw [fndF_step hq] at hr
      have HQ := Lib.hid (hq2.drewN d)
      have HTd := Lib.hid (HT.out.drewN d)
      have hsm := s_l01Same (w.drewN d) _ _ _ _ HQ.out HTd.out
      have hed : eqN q t = decide (up q = up t) := by
        by_cases e : q = t
        · rw [eqN_iff.2 e, e]; exact (decide_eq_true rfl).symm
        · have h1 : eqN q t = false := by
            cases hh : eqN q t with
            | true => exact absurd (eqN_iff.1 hh) e
            | false => rfl
          rw [h1]; exact (decide_eq_false fun h => e (up_inj h)).symm
      rw [← hed] at hsm
      have hli : (i : Int) < (xs.length : Int) := by omega
      clear hq hq2 hed HR
      cases hb : eqN q t with
      | true =>
        rw [hb] at hr hsm
        have HSM := Lib.hid hsm
        have HI := Lib.hid (show ((R : Int) - 1) = (i : Int) from by rw [← show i + 1 = R from hr]; omega)
        clear hr hsm hb
        go_wp2_with (go_at_call 135; refine HSM.out.mono ?_; rintro e w2 ⟨rfl, n2, rfl⟩)
        go_ret
        exact ⟨ret_i64 HI.out.symm, _, by first | rfl | exact World.drewN_drewN ..⟩
      | false =>
        rw [hb] at hr hsm
        have HSM := Lib.hid hsm
        have HI := Lib.hid (show fndF t (i + 1) (xs.drop (i + 1)) = R from hr)
        clear hr hsm hb
        go_wp2_with (go_at_call 135; refine HSM.out.mono ?_; rintro e w2 ⟨rfl, n2, rfl⟩)
        go_roundw
        case rel => exact ⟨i + 1, _, by omega, by go_num, HI.out, by first | rfl | exact World.drewN_drewN ..⟩
        case measure => simp [intOf]; omega
    · have hil : i = xs.length := by omega
      have HI := Lib.hid (show ((R : Int) - 1) = -1 from by rw [← HR.out, hil, List.drop_length, fndF]; rfl)
      have hli : ¬ ((i : Int) < (xs.length : Int)) := by omega
      go_wp2_with fail
      go_ret
      exact ⟨ret_i64 HI.out.symm, _, rfl⟩
end Go.Proofs.YtdjhfeaimmpmhaaGreat

set_option linter.unusedVariables false
set_option linter.unusedSimpArgs false
namespace Go.Proofs.YtdjhfeaimmpmhaaGreat

structure STO {α : Type} (lt : α → α → Bool) : Prop where
  irrefl : ∀ x, lt x x = false
  trans : ∀ {x y z}, lt x y = true → lt y z = true → lt x z = true
  tri : ∀ {x y}, lt x y = false → lt y x = false → x = y
namespace STO
variable {α β : Type} {lt : α → α → Bool} {l2 : β → β → Bool}
theorem asymm (h : STO lt) {x y : α} (a : lt x y = true) : lt y x = false := by
  cases b : lt y x with
  | false => rfl
  | true => have := h.trans a b; rw [h.irrefl] at this; cases this
theorem ntrans (h : STO lt) {x y z : α} (a : lt x y = false) (b : lt y z = false) : lt x z = false := by
  cases c : lt x z with
  | false => rfl
  | true =>
    cases d : lt y x with
    | true => have := h.trans d c; rw [b] at this; cases this
    | false => have := h.tri a d; subst this; rw [b] at c; cases c
theorem nat : STO Nat.blt where
  irrefl x := by cases h : Nat.blt x x with | false => rfl | true => have := (blt_iff _ _).1 h; omega
  trans {x y z} a b := (blt_iff _ _).2 (by have := (blt_iff _ _).1 a; have := (blt_iff _ _).1 b; omega)
  tri {x y} a b := by
    have h1 : ¬ x < y := fun h => by rw [(blt_iff _ _).2 h] at a; cases a
    have h2 : ¬ y < x := fun h => by rw [(blt_iff _ _).2 h] at b; cases b
    omega
theorem bef : STO befN := ⟨befN_irrefl, befN_trans, befN_tri⟩
theorem pull (h : STO lt) {f : β → α} (inj : ∀ {a b}, f a = f b → a = b) : STO (fun a b => lt (f a) (f b)) :=
  ⟨fun x => h.irrefl _, fun a b => h.trans a b, fun a b => inj (h.tri a b)⟩
end STO
/-- pairs: by the first, then by the second -/
def lexP {α β : Type} (l1 : α → α → Bool) (l2 : β → β → Bool) (a b : α × β) : Bool := bif l1 a.1 b.1 then true else bif l1 b.1 a.1 then false else l2 a.2 b.2
theorem lexP_eq {α β : Type} {l1 : α → α → Bool} {l2 : β → β → Bool} (h : STO l1) (a : α) (b c : β) : lexP l1 l2 (a, b) (a, c) = l2 b c := by simp [lexP, h.irrefl]
theorem lexP_tt {α β : Type} {l1 : α → α → Bool} {l2 : β → β → Bool} {a b : α × β} (h : l1 a.1 b.1 = true) : lexP l1 l2 a b = true := by simp [lexP, h]
theorem lexP_cases {α β : Type} {l1 : α → α → Bool} {l2 : β → β → Bool} (h1 : STO l1) {a b : α × β} (h : lexP l1 l2 a b = true) : l1 a.1 b.1 = true ∨ (a.1 = b.1 ∧ l2 a.2 b.2 = true) := by
  unfold lexP at h
  cases h2 : l1 a.1 b.1 with
  | true => exact .inl rfl
  | false =>
    cases h3 : l1 b.1 a.1 with
    | true => rw [h2, h3] at h; cases h
    | false => rw [h2, h3] at h; exact .inr ⟨h1.tri h2 h3, h⟩
theorem lexP_ncases {α β : Type} {l1 : α → α → Bool} {l2 : β → β → Bool} (h1 : STO l1) {a b : α × β} (h : lexP l1 l2 a b = false) : l1 b.1 a.1 = true ∨ (a.1 = b.1 ∧ l2 a.2 b.2 = false) := by
  unfold lexP at h
  cases h2 : l1 a.1 b.1 with
  | true => rw [h2] at h; cases h
  | false =>
    cases h3 : l1 b.1 a.1 with
    | true => exact .inl rfl
    | false => rw [h2, h3] at h; exact .inr ⟨h1.tri h2 h3, h⟩
theorem STO.lexP {α β : Type} {l1 : α → α → Bool} {l2 : β → β → Bool} (h1 : STO l1) (h2 : STO l2) : STO (lexP l1 l2) where
  irrefl x := by simp [Go.Proofs.YtdjhfeaimmpmhaaGreat.lexP, h1.irrefl, h2.irrefl]
  trans {x y z} a b := by
    obtain ⟨x1, x2⟩ := x; obtain ⟨y1, y2⟩ := y; obtain ⟨z1, z2⟩ := z
    rcases lexP_cases h1 a with a | ⟨a1, a2⟩
    · rcases lexP_cases h1 b with b | ⟨b1, b2⟩
      · exact lexP_tt (h1.trans a b)
      · simp only at b1; subst b1; exact lexP_tt a
    · simp only at a1; subst a1
      rcases lexP_cases h1 b with b | ⟨b1, b2⟩
      · exact lexP_tt b
      · simp only at b1; subst b1; rw [lexP_eq h1]; exact h2.trans a2 b2
  tri {x y} a b := by
    obtain ⟨x1, x2⟩ := x; obtain ⟨y1, y2⟩ := y
    rcases lexP_ncases h1 a with a | ⟨a1, a2⟩
    · rw [lexP_tt a] at b; cases b
    · simp only at a1; subst a1
      rw [lexP_eq h1] at b
      have e : x2 = y2 := h2.tri a2 b
      rw [e]
/-- lists: element by element; a beginning first -/
def lexL {α : Type} (lt : α → α → Bool) : List α → List α → Bool
  | [], [] => false
  | [], _ :: _ => true
  | _ :: _, [] => false
  | x :: xs, y :: ys => bif lt x y then true else bif lt y x then false else lexL lt xs ys
theorem lexL_cons {α : Type} (lt : α → α → Bool) (x y : α) (xs ys : List α) : lexL lt (x :: xs) (y :: ys) = lexP lt (lexL lt) (x, xs) (y, ys) := rfl
theorem STO.lexL {α : Type} {lt : α → α → Bool} (h : STO lt) : STO (lexL lt) where
  irrefl x := by
    induction x with
    | nil => rfl
    | cons x xs ih => simp [Go.Proofs.YtdjhfeaimmpmhaaGreat.lexL, h.irrefl, ih]
  trans {x} := by
    induction x with
    | nil =>
      intro y z a b
      cases z with
      | nil => cases y with | nil => exact b | cons _ _ => cases b
      | cons z zs => rfl
    | cons x xs ih =>
      intro y z a b
      cases y with
      | nil => cases a
      | cons y ys =>
        cases z with
        | nil => cases b
        | cons z zs =>
          rw [lexL_cons] at a b ⊢
          rcases lexP_cases h a with a | ⟨a1, a2⟩
          · rcases lexP_cases h b with b | ⟨b1, b2⟩
            · exact lexP_tt (h.trans a b)
            · simp only at b1; subst b1; exact lexP_tt a
          · simp only at a1; subst a1
            rcases lexP_cases h b with b | ⟨b1, b2⟩
            · exact lexP_tt b
            · simp only at b1; subst b1; rw [lexP_eq h]; exact ih a2 b2
  tri {x} := by
    induction x with
    | nil =>
      intro y a b
      cases y with
      | nil => rfl
      | cons _ _ => cases a
    | cons x xs ih =>
      intro y a b
      cases y with
      | nil => cases b
      | cons y ys =>
        rw [lexL_cons] at a b
        rcases lexP_ncases h a with a | ⟨a1, a2⟩
        · rw [lexP_tt a] at b; cases b
        · simp only at a1; subst a1
          rw [lexP_eq h] at b
          rw [ih a2 b]

/-- sorting by insertion -/
def insS {α : Type} (lt : α → α → Bool) (p : α) : List α → List α
  | [] => [p]
  | q :: qs => bif lt p q then p :: q :: qs else q :: insS lt p qs
def srtSF {α : Type} (lt : α → α → Bool) (s : List α) : List α → List α
  | [] => s
  | p :: ps => srtSF lt (insS lt p s) ps
def srtS {α : Type} (lt : α → α → Bool) (ps : List α) : List α := srtSF lt [] ps
def AscS {α : Type} (lt : α → α → Bool) (l : List α) : Prop := l.Pairwise fun a b => lt b a = false
section
variable {α : Type} {lt : α → α → Bool}
theorem insS_perm (p : α) : ∀ qs : List α, (insS lt p qs).Perm (p :: qs)
  | [] => .refl _
  | q :: qs => by
    rw [insS]
    cases lt p q with
    | true => exact .refl _
    | false => exact ((insS_perm p qs).cons q).trans (.swap p q qs)
theorem insS_asc (h : STO lt) {p : α} : ∀ {qs : List α}, AscS lt qs → AscS lt (insS lt p qs)
  | [], _ => by simp [insS, AscS]
  | q :: qs, hq => by
    rw [AscS, List.pairwise_cons] at hq
    rw [insS]
    cases hb : lt p q with
    | true =>
      refine List.pairwise_cons.2 ⟨fun x hx => ?_, List.pairwise_cons.2 hq⟩
      rcases List.mem_cons.1 hx with rfl | hx
      · exact h.asymm hb
      · exact h.ntrans (hq.1 x hx) (h.asymm hb)
    | false =>
      refine List.pairwise_cons.2 ⟨fun x hx => ?_, insS_asc h hq.2⟩
      have := (insS_perm p qs).mem_iff.1 hx
      rcases List.mem_cons.1 this with rfl | hx
      · exact hb
      · exact hq.1 x hx
theorem srtSF_perm : ∀ (s ps : List α), (srtSF lt s ps).Perm (s ++ ps)
  | s, [] => by simp [srtSF]
  | s, p :: ps => by
    rw [srtSF]
    refine (srtSF_perm _ ps).trans ?_
    refine ((insS_perm p s).append_right ps).trans ?_
    exact List.perm_middle.symm
theorem srtSF_asc (h : STO lt) : ∀ {s ps : List α}, AscS lt s → AscS lt (srtSF lt s ps)
  | s, [], hs => hs
  | s, p :: ps, hs => by rw [srtSF]; exact srtSF_asc h (s := insS lt p s) (ps := ps) (insS_asc h hs)
theorem srtS_unique (h : STO lt) {l ps : List α} (hp : l.Perm ps) (hd : AscS lt l) : l = srtS lt ps :=
  List.Perm.eq_of_pairwise (fun a b _ _ (h1 : lt b a = false) (h2 : lt a b = false) => h.tri h2 h1) hd (srtSF_asc h (by simp [AscS])) (hp.trans (by have := srtSF_perm (lt := lt) [] ps; simpa [srtS] using this.symm))
end

/-- forests: fewer trees first, then tree by tree -/
def ltK (f g : List (List Nat)) : Bool := lexP Nat.blt (lexL befN) (f.length, f) (g.length, g)
theorem STO.ltK : STO ltK := (STO.nat.lexP STO.bef.lexL).pull (f := fun f : List (List Nat) => (f.length, f)) fun h => by injection h
def ndN : List (List Nat) → Nat
  | [] => 0
  | t :: ts => t.length + ndN ts
/-- forests: fewer nodes first -/
def ltW (f g : List (List Nat)) : Bool := lexP Nat.blt Go.Proofs.YtdjhfeaimmpmhaaGreat.ltK (ndN f, f) (ndN g, g)
theorem STO.ltW : STO ltW := (STO.nat.lexP STO.ltK).pull (f := fun f : List (List Nat) => (ndN f, f)) fun h => by injection h
abbrev SP := List (List Nat) × List (List Nat)
/-- cuts: by the crowns, then by the trunks -/
def ltS : SP → SP → Bool := lexP Go.Proofs.YtdjhfeaimmpmhaaGreat.ltW Go.Proofs.YtdjhfeaimmpmhaaGreat.ltK
theorem STO.ltS : STO ltS := STO.ltW.lexP STO.ltK
end Go.Proofs.YtdjhfeaimmpmhaaGreat

set_option maxRecDepth 100000
set_option linter.unusedVariables false
set_option linter.unusedSimpArgs false
namespace Go.Proofs.YtdjhfeaimmpmhaaGreat
open Go.RowKit Go.Sort Go.Shelf

/-- what k cells say of a datum; what they point to lies in blocks from B on, of numbers and of slices of numbers -/
structure Elt (α : Type) where
  k : Nat
  D : World → Nat → List Value → α → Prop
  len : ∀ {w B c x}, D w B c x → c.length = k
  one : ∀ {w B c x}, D w B c x → ∀ u ∈ c, u.oneCell' = true
  below : ∀ {w w' B c x}, D w B c x → Below w.heap.size w w' → D w' B c x
  mono : ∀ {w B B' c x}, D w B c x → B' ≤ B → D w B' c x
  kept : ∀ {w w' B c x} {e : TypeId} {v : Value}, D w B c x → w.grownBy w' v.ownBlock → BT w e v → tI ≠ e → tL ≠ e → D w' B c x

def Elts {α : Type} (E : Elt α) (w : World) (B : Nat) (css : List (List Value)) (xs : List α) : Prop := css.length = xs.length ∧ ∀ (i : Nat) (c : List Value) (x : α), css[i]? = some c → xs[i]? = some x → E.D w B c x
section
variable {α : Type} {E : Elt α} {w w' : World} {B : Nat} {css : List (List Value)} {xs : List α}
theorem Elts.nil (E : Elt α) (w : World) (B : Nat) : Elts E w B [] [] := ⟨rfl, fun i c x h => by simp at h⟩
theorem Elts.below (h : Elts E w B css xs) (hb : Below w.heap.size w w') : Elts E w' B css xs := ⟨h.1, fun i c x hc hx => E.below (h.2 i c x hc hx) hb⟩
theorem Elts.mono {B' : Nat} (h : Elts E w B css xs) (hB : B' ≤ B) : Elts E w B' css xs := ⟨h.1, fun i c x hc hx => E.mono (h.2 i c x hc hx) hB⟩
theorem Elts.kept {v : Value} {e : TypeId} (h : Elts E w B css xs) (hg : w.grownBy w' v.ownBlock) (hb : BT w e v) (h1 : tI ≠ e) (h2 : tL ≠ e) : Elts E w' B css xs := ⟨h.1, fun i c x hc hx => E.kept (h.2 i c x hc hx) hg hb h1 h2⟩
theorem Elts.snoc {c : List Value} {x : α} (h : Elts E w B css xs) (hx : E.D w B c x) : Elts E w B (css ++ [c]) (xs ++ [x]) := by
  refine ⟨by simp [h.1], fun i c' x' hc hx' => ?_⟩
  by_cases hlt : i < css.length
  · rw [List.getElem?_append_left hlt] at hc
    rw [List.getElem?_append_left (by rw [← h.1]; exact hlt)] at hx'
    exact h.2 i c' x' hc hx'
  · have hkl := (List.getElem?_eq_some_iff.1 hc).1
    simp at hkl
    have : i = css.length := by omega
    subst this
    rw [List.getElem?_append_right (Nat.le_refl _)] at hc
    rw [List.getElem?_append_right (by rw [h.1]; exact Nat.le_refl _), h.1] at hx'
    simp at hc hx'
    subst hc; subst hx'
    exact hx
theorem Elts.at_ {i : Nat} {x : α} (h : Elts E w B css xs) (hx : xs[i]? = some x) : ∃ c, css[i]? = some c ∧ E.D w B c x := by
  have hi : i < css.length := by rw [h.1]; exact (List.getElem?_eq_some_iff.1 hx).1
  exact ⟨_, List.getElem?_eq_getElem hi, h.2 i _ x (List.getElem?_eq_getElem hi) hx⟩
theorem Elts.set_ {i : Nat} {c : List Value} {x : α} (h : Elts E w B css xs) (hx : E.D w B c x) : Elts E w B (css.set i c) (xs.set i x) := by
  refine ⟨by simp [h.1], fun j c' x' hc hx' => ?_⟩
  rw [List.getElem?_set] at hc hx'
  by_cases hij : i = j
  · subst hij
    rw [if_pos rfl] at hc hx'
    split at hc
    · rw [if_pos (by rw [← h.1]; assumption)] at hx'
      injection hc with hc; injection hx' with hx'
      subst hc; subst hx'
      exact hx
    · cases hc
  · rw [if_neg hij] at hc hx'
    exact h.2 j c' x' hc hx'
end
/-- a list of one's own of such elements -/
def SLs {α : Type} (E : Elt α) (e : TypeId) (w : World) (B : Nat) (v : Value) (xs : List α) : Prop := ∃ css, OwnK w B e E.k v css ∧ Elts E w B css xs
section
variable {α : Type} {E : Elt α} {e : TypeId} {w w' : World} {B : Nat} {v : Value} {xs : List α}
theorem SLs.below (h : SLs E e w B v xs) (hb : Below w.heap.size w w') : SLs E e w' B v xs := by obtain ⟨css, h1, h2⟩ := h; exact ⟨css, h1.below hb, h2.below hb⟩
theorem SLs.mono {B' : Nat} (h : SLs E e w B v xs) (hB : B' ≤ B) : SLs E e w B' v xs := by obtain ⟨css, h1, h2⟩ := h; exact ⟨css, h1.mono hB, h2.mono hB⟩
theorem SLs.open_ (h : SLs E e w B v xs) : ∃ A c, v = .slice A xs.length c ∧ xs.length ≤ c ∧ c ≤ 9223372036854775807 := by
  obtain ⟨css, h1, h2⟩ := h
  have := h1.open_
  rwa [h2.1] at this
end

/-! ### sorted by the library -/
section
variable {α : Type} [Inhabited α] {enc : α → List Value} {k : Nat}
theorem flatK_list (hk : ∀ x, (enc x).length = k) (d : List α) : (flatK enc k d.toArray).toList = (d.map enc).flatten := by
  have hkk : ∀ c ∈ d.map enc, c.length = k := fun c hc => by obtain ⟨x, -, rfl⟩ := List.mem_map.1 hc; exact hk x
  apply List.ext_getElem?
  intro t
  by_cases ht : t < d.length * k
  · have k0 : 0 < k := by rcases Nat.eq_zero_or_pos k with h | h; subst h; simp at ht; exact h
    have hq : t / k < d.length := by rw [Nat.div_lt_iff_lt_mul k0]; exact ht
    have hm : t % k < k := Nat.mod_lt _ k0
    have hsz : t < (flatK enc k d.toArray).size := by rw [size_flatK]; simpa using ht
    have h1 : (flatK enc k d.toArray).toList[t]? = some ((enc (d[t / k]'hq))[t % k]'(by rw [hk]; exact hm)) := by
      rw [Array.getElem?_toList, Array.getElem?_eq_getElem hsz, ← getElem!_pos _ t hsz, get_flatK _ _ _ t (by simpa using ht)]
      rw [getElem!_pos d.toArray (t / k) (by simpa using hq), getElem!_pos _ (t % k) (by rw [hk]; exact hm)]
      simp
    rw [h1]
    have h2 := flat_get (css := d.map enc) (i := t / k) (j := t % k) hkk (by rw [List.getElem?_map, List.getElem?_eq_getElem hq]; rfl) (List.getElem?_eq_getElem (by rw [hk]; exact hm))
    rw [Nat.div_add_mod'] at h2
    exact h2.symm
  · rw [List.getElem?_eq_none (by rw [Array.length_toList, size_flatK]; simpa using ht), List.getElem?_eq_none (by rw [flat_len hkk, List.length_map]; omega)]
variable {w : World} {B g cap n : Nat} {e : TypeId} {d : List α} {os : Array Obj}
theorem holds_ownK (hk : ∀ x, (enc x).length = k) (h : OwnK w B e k (.slice (some ⟨g, 0, none⟩) d.length cap) (d.map enc)) : HoldsK enc k w g 0 d.toArray := by
  have hfl := flatK_list hk d
  rcases h.1.2 with ⟨e, _⟩ | ⟨g', cap', cur, he, h1, h2, h3, h4, h5, h6⟩
  · cases e
  simp only [Value.slice.injEq, Option.some.injEq, Addr.mk.injEq] at he
  obtain ⟨⟨rfl, -⟩, -, rfl⟩ := he
  intro j hj
  refine ⟨?_, by simp [World.frozen?, h2]⟩
  have h8 : (flatK enc k d.toArray)[j]? = cur[j]? := by
    rw [← Array.getElem?_toList, hfl, ← h6, List.getElem?_take_of_lt (by rw [List.length_map]; rw [size_flatK] at hj; simpa using hj), Array.getElem?_toList]
  simp only [World.cell?, h2, Nat.zero_add]
  simp only [Option.isSome_none, Bool.false_eq_true, if_false]
  rw [← h8, Array.getElem?_eq_getElem hj, getElem!_pos _ j hj]
  rfl
theorem grownBy_srtK (d : Array α) : w.grownBy (sortWorldK enc k w g 0 n d os) (some g) := by
  unfold sortWorldK putRowK
  refine ⟨rfl, rfl, rfl, by simp, fun k' hk' hne => ?_⟩
  rw [heap_grow_old _ _ (by simpa using hk')]
  have : g ≠ k' := fun e => hne (by rw [e])
  simp [putRow, mapBlock, Sort.ahead, Array.getElem?_modify, this]
theorem own_srtK (hk : ∀ x, (enc x).length = k) {ts : List α} (h : OwnK w B e k (.slice (some ⟨g, 0, none⟩) d.length cap) (d.map enc)) (hl : ts.length = d.length) :
    OwnK (sortWorldK enc k w g 0 n ts.toArray os) B e k (.slice (some ⟨g, 0, none⟩) d.length cap) (ts.map enc) := by
  have hkk : ∀ (l : List α), ∀ c ∈ l.map enc, c.length = k := fun l c hc => by obtain ⟨x, -, rfl⟩ := List.mem_map.1 hc; exact hk x
  rcases h.1.2 with ⟨e, _⟩ | ⟨g', cap', cur, he, h1, h2, h3, h4, h5, h6⟩
  · cases e
  simp only [Value.slice.injEq, Option.some.injEq, Addr.mk.injEq] at he
  obtain ⟨⟨rfl, -⟩, -, rfl⟩ := he
  rw [List.length_map] at h3 h6
  have hg : g < w.heap.size := (Array.getElem?_eq_some_iff.1 h2).1
  have hheap : (sortWorldK enc k w g 0 n ts.toArray os).heap[g]? = some (.cells (putCells id 0 (flatK enc k ts.toArray) cur) e (0, 0)) := by
    unfold sortWorldK putRowK
    rw [heap_grow_old _ _ (by simpa using hg)]
    simp [putRow, mapBlock, Sort.ahead, Array.getElem?_modify, h2, onCells]
  refine ⟨⟨by rw [flat_len (hkk ts)], .inr ⟨g, cap, _, by simp [hl], h1, hheap, by simp; omega, h4, by simp [putCells, h5], ?_⟩⟩, hkk ts⟩
  have hsz : (flatK enc k ts.toArray).size ≤ cur.size := by rw [size_flatK, h5]; simp only [List.size_toArray]; rw [hl]; exact Nat.mul_le_mul_right k h3
  have ht := take_put (α := Value) (enc := id) cur (flatK enc k ts.toArray).toList (by simpa using hsz)
  have e1 : (flatK enc k ts.toArray).toList.toArray = flatK enc k ts.toArray := by simp
  have e2 : (flatK enc k ts.toArray).toList.length = ts.length * k := by simp
  rw [e1, e2, List.map_id, flatK_list hk] at ht
  rw [List.length_map]
  exact ht
end

/-- an element with the cells that say it -/
abbrev EltS {α : Type} (E : Elt α) (w : World) (B : Nat) := {p : List Value × α // E.D w B p.1 p.2}
theorem mkElts {α : Type} {E : Elt α} {w : World} {B : Nat} : ∀ {css : List (List Value)} {xs : List α}, Elts E w B css xs → ∃ d : List (EltS E w B), d.map (fun x => x.1.1) = css ∧ d.map (fun x => x.1.2) = xs
  | [], [], _ => ⟨[], rfl, rfl⟩
  | [], _ :: _, h => by have := h.1; simp at this
  | _ :: _, [], h => by have := h.1; simp at this
  | c :: css, x :: xs, h => by
    obtain ⟨d, h1, h2⟩ := mkElts (css := css) (xs := xs) ⟨by have := h.1; simpa using this, fun i c' x' hc hx => h.2 (i + 1) c' x' (by simpa using hc) (by simpa using hx)⟩
    exact ⟨⟨(c, x), h.2 0 c x (by simp) (by simp)⟩ :: d, by simp [h1], by simp [h2]⟩

/-- slices.SortFunc at structs of one's own, where the comparison reads them -/
theorem sort_eltsP {P : Program} {ρ : Ren} (L : SlLaysF0.n6 P ρ) {α : Type} (E : Elt α) {e : TypeId} (aE : ∀ w, (isAgg (ρ.t 24)).run P w = .ok true w) (zE : ∀ w, (Go.sizeOf (ρ.t 24)).run P w = .ok E.k w)
    (lt : α → α → Bool) (sto : STO lt) (cf : α → α → Int) (hcf : ∀ x y, decide (cf x y < 0) = lt x y) (g : Nat) (eg : ∀ args w, (callFunc g args).run P w = .ok (.enter g args) w) (h1 : tI ≠ e) (h2 : tL ≠ e)
    (hcmp : ∀ (W : World) (B : Nat) (c c' : List Value) (x y : α), E.D W B c x → E.D W B c' y → Calls P g #[.agg c.toArray, .agg c'.toArray] W fun e w' => e = .returned (.int .i64 (cf x y)) ∧ ∃ q os, w' = grow (W.drewN q) os)
    (w : World) (B cap : Nat) (A : Option Addr) (css : List (List Value)) (xs : List α) (h : OwnK w B e E.k (.slice A css.length cap) css) (hr : Elts E w B css xs) (hn : css.length ≤ 1000000) :
    Calls P (ρ.f 6) #[.slice A css.length cap, .func (.func g) #[] #[]] w fun e' w' => e' = .returned (.tuple #[]) ∧
      ∃ css', css'.length = css.length ∧ OwnK w' B e E.k (.slice A css.length cap) css' ∧ Elts E w' B css' (srtS lt xs) ∧ w.grownBy w' (Value.ownBlock (.slice A css.length cap)) ∧ css'.Perm css := by
  rcases h.cases with ⟨he, rfl⟩ | ⟨gb, cap', cur, he, hBg, hgs, -⟩
  · simp only [Value.slice.injEq] at he
    obtain ⟨rfl, -, rfl⟩ := he
    have hb : xs = [] := by have h0 := hr.1; exact List.eq_nil_of_length_eq_zero h0.symm
    subst hb
    refine (AnyF.slices_SortFunc_none { L with } none 0 _ w).mono ?_
    rintro e w' ⟨rfl, rfl⟩
    exact ⟨rfl, [], rfl, h, hr, World.grownBy.refl _ _, List.Perm.refl _⟩
  · simp only [Value.slice.injEq] at he
    obtain ⟨rfl, -, rfl⟩ := he
    obtain ⟨d, hd1, hd2⟩ := mkElts hr
    by_cases hx0 : d = []
    · subst hx0
      simp at hd1
      subst hd1
      have hb : xs = [] := by simpa using hd2.symm
      subst hb
      refine (AnyF.slices_SortFunc_none { L with } (some ⟨gb, 0, none⟩) cap _ w).mono ?_
      rintro e w' ⟨rfl, rfl⟩
      exact ⟨rfl, [], rfl, h, hr, World.grownBy.refl _ _, List.Perm.refl _⟩
    haveI : Inhabited (EltS E w B) := ⟨d.head hx0⟩
    have hdl : d.length = css.length := by rw [← hd1, List.length_map]
    have hk : ∀ x : EltS E w B, (x.1.1).length = E.k := fun x => E.len x.2
    have ho : OwnK w B e E.k (.slice (some ⟨gb, 0, none⟩) d.length cap) (d.map fun x => x.1.1) := by rw [hd1, hdl]; exact h
    have hone : ∀ x : EltS E w B, ∀ v ∈ x.1.1, v.oneCell' = true := fun x => E.one x.2
    have hbt : BT w e (.slice (some ⟨gb, 0, none⟩) css.length cap) := h.bt
    have hkeep : ∀ (x : EltS E w B) (m : Nat) (dk : Array (EltS E w B)) (os : Array Obj), E.D (sortWorldK (fun x : EltS E w B => x.1.1) E.k w gb 0 m dk os) B x.1.1 x.1.2 := fun x m dk os =>
      E.kept (v := .slice (some ⟨gb, 0, none⟩) css.length cap) x.2 (grownBy_srtK dk) hbt h1 h2
    have hlay : CmpLays P g #[] (fun x : EltS E w B => x.1.1) E.k (fun x y => cf x.1.2 y.1.2) gb 0 d.toArray.size w := fun m os dk _ x y =>
      (hcmp _ B _ _ _ _ (hkeep x m dk os) (hkeep y m dk os)).mono fun e w' ⟨he, q, os', hw⟩ => ⟨he, q, os', hw⟩
    have hlt : ∀ x y : EltS E w B, ltOf (fun x y : EltS E w B => cf x.1.2 y.1.2) x y = lt x.1.2 y.1.2 := fun x y => hcf _ _
    have hswo : SWO (ltOf fun x y : EltS E w B => cf x.1.2 y.1.2) :=
      { irrefl := fun x => by rw [hlt]; exact sto.irrefl _
        trans := fun x y z a b => by rw [hlt] at *; exact sto.trans a b
        ntrans := fun x y z a b => by rw [hlt] at *; exact sto.ntrans a b }
    have hcon := AnyQ.slices_SortFunc L E.k aE zE (fun x : EltS E w B => x.1.1) hk hone _ hswo g #[] gb 0 cap d.toArray w eg hlay (holds_ownK hk ho) hgs (by simp; omega)
    rw [List.size_toArray, hdl] at hcon
    refine hcon.mono ?_
    rintro e' w' ⟨rfl, d', n, os, hp, hs, rfl⟩
    have hsz : d'.size = css.length := by have := hp.1; simp at this; omega
    have hperm : d'.toList.Perm d := by
      have h3 := hp.2.2
      rw [← hsz] at h3
      simp only [Array.extract_size] at h3
      have e : (d.toArray.extract 0 d'.size).toList = d := by
        rw [show d'.size = d.toArray.size by simp; omega, Array.extract_size]
      rw [e] at h3
      exact h3
    have hasc : AscS lt (d'.toList.map fun x => x.1.2) := by
      rw [AscS, List.pairwise_iff_getElem]
      intro i j hi hj hij
      simp at hi hj
      have h4 := hs i j (Nat.zero_le _) hij (by omega)
      rw [hlt, getElem!_pos d' i (by omega), getElem!_pos d' j (by omega)] at h4
      simpa using h4
    have hL : (d'.toList.map fun x => x.1.2) = srtS lt xs := srtS_unique sto (by rw [← hd2]; exact hperm.map _) hasc
    have hl : d'.toList.length = d.length := by simp; omega
    have hfin := own_srtK (n := n) (os := os) hk ho hl
    simp only [Array.toArray_toList] at hfin
    rw [hdl] at hfin
    refine ⟨rfl, d'.toList.map (fun x => x.1.1), by simp; omega, hfin, ⟨by rw [← hL]; simp, fun i c x hc hx => ?_⟩, grownBy_srtK d', by rw [← hd1]; exact hperm.map _⟩
    rw [← hL, List.getElem?_map] at hx
    rw [List.getElem?_map] at hc
    cases hx' : d'.toList[i]? with
    | none => rw [hx'] at hc; cases hc
    | some z =>
      rw [hx'] at hc hx
      simp only [Option.map_some, Option.some.injEq] at hc hx
      subst hc; subst hx
      exact hkeep z _ _ _
theorem sort_elts {P : Program} {ρ : Ren} (L : SlLaysF0.n6 P ρ) {α : Type} (E : Elt α) {e : TypeId} (aE : ∀ w, (isAgg (ρ.t 24)).run P w = .ok true w) (zE : ∀ w, (Go.sizeOf (ρ.t 24)).run P w = .ok E.k w)
    (lt : α → α → Bool) (sto : STO lt) (cf : α → α → Int) (hcf : ∀ x y, decide (cf x y < 0) = lt x y) (g : Nat) (eg : ∀ args w, (callFunc g args).run P w = .ok (.enter g args) w) (h1 : tI ≠ e) (h2 : tL ≠ e)
    (hcmp : ∀ (W : World) (B : Nat) (c c' : List Value) (x y : α), E.D W B c x → E.D W B c' y → Calls P g #[.agg c.toArray, .agg c'.toArray] W fun e w' => e = .returned (.int .i64 (cf x y)) ∧ ∃ q os, w' = grow (W.drewN q) os)
    (w : World) (B cap : Nat) (A : Option Addr) (css : List (List Value)) (xs : List α) (h : OwnK w B e E.k (.slice A css.length cap) css) (hr : Elts E w B css xs) (hn : css.length ≤ 1000000) :
    Calls P (ρ.f 6) #[.slice A css.length cap, .func (.func g) #[] #[]] w fun e' w' => e' = .returned (.tuple #[]) ∧
      ∃ css', css'.length = css.length ∧ OwnK w' B e E.k (.slice A css.length cap) css' ∧ Elts E w' B css' (srtS lt xs) ∧ w.grownBy w' (Value.ownBlock (.slice A css.length cap)) := by
  refine (sort_eltsP L E aE zE lt sto cf hcf g eg h1 h2 hcmp w B cap A css xs h hr hn).mono ?_
  rintro e' w' ⟨he, css', a, b, c, d, -⟩
  exact ⟨he, css', a, b, c, d⟩
end Go.Proofs.YtdjhfeaimmpmhaaGreat

