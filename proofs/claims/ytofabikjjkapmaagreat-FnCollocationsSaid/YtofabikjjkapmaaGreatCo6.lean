/- Walks: equality of lists and of lists of lists, of the library and of the reference. | Walks: isSuperfluous, the predicate of freeTreesOf, of the program. | Walks: slices.BinarySearchFunc at trees, indexIn of the program; l03Find of the reference. | Plain: strict total orders, lexicographic ones among them; sorting by insertion. | Lists of one's own of structs of k cells, over what an element's cells say; such a list sorted by the library. No program in sight. | Walks: slices.CompareFunc at forests; words for structs of two lists and a count. | Walks: nodesIn, compareTrunks, compareForests, the comparison of cuts; slices.SortFunc at cuts. | Walks: the comparison of cuts; slices.SortFunc at cuts. | Words: lists of structs that are stored into; equal ones in a list in order gathered with their numbers. No program in sight. | A region that draws its order, whose operations yield one value each in every world of a class S, and leave a world of S: one walk in the order of the text. No program in sight. | Walks: masks: l16Mask of the reference, isCutMask of the program. | Walks: isCutMask, checkCutMask of the program; l16Code of the reference. | Plain: a canonical tree cut up above the nodes of a mask: the program's pieces and skeleton and the reference's are made from the same lists. | Walks: isCutMask, checkCutMask of the program. | Plain: what holds of the program's state while it cuts a tree up. | A region that draws its order and stores at its end what it has loaded: those loads may be taken first. No program in sight. | Steps in a region that draws: append of one element, of a list, make. No program in sight. | Walks: l03Before, l03Sort, l16Skeleton of the reference. | Walk: l03Sort of the reference. | Plain: all trees with n nodes, from a canonical list to the next smaller one. | Walks: l03Grow, l03Trees of the reference. | Walks: l04End, l04Graft of the reference. | Walk: l04Graft of the reference. -/
import Derived.Test.YtofabikjjkapmaaGreatCo3
import Derived.Test.YtofabikjjkapmaaGreatCo5
import Derived.Test.YtofabikjjkapmaaGreatCo4
import Derived.Shelf.SlSortCmp.WholeK
import Derived.Shelf.SlSortCmp.NoneTotal
import Derived.Shelf.SlGeneric
import Derived.Ground.SlsfProg
import Derived.BigQuiet
import Derived.Below
import Derived.OrdersHeld
import Derived.RegionTactic
import Derived.Deep.RegionHeld
import Derived.Deep.QuietTactic
import Derived.Deep.RegionLaw
set_option maxRecDepth 100000
set_option linter.unusedVariables false
set_option linter.unusedSimpArgs false
namespace Go.Proofs.YtofabikjjkapmaaGreat
open Go.RowKit

set_option maxHeartbeats 400000 in
theorem lib_Equal (w : World) (a b : Value) (xs ys : List Int) (ha : Ints w a xs) (hb : Ints w b ys) :
    Calls Tryz.prog 87 #[a, b] w fun e w' => e = .returned (.bool (decide (xs = ys))) ∧ ∃ n, w' = w.drewN n := by
  obtain ⟨A, c, rfl, h1, h2, h3⟩ := ha.open_
  obtain ⟨B, d, rfl, g1, g2, g3⟩ := hb.open_
  clear ha hb
  have H3 := Lib.hid h3
  have G3 := Lib.hid g3
  clear h3 g3
  by_cases hl : xs.length = ys.length
  · have hl' : (((xs.length : Nat) : Int) != ((ys.length : Nat) : Int)) = false := by simp [hl]
    have HL := Lib.hid hl
    clear hl
    have g4 : ys.length ≤ xs.length := by rw [HL.out]; omega
    have g5 : xs.length ≤ ys.length := by rw [HL.out]; omega
    go_enter Tryz.func87, Tryz.ntmps87
    go_wp2
    go_loopw [13] (fun i wr => ∃ k n : Nat, k ≤ xs.length ∧ i = .int .i64 k ∧ xs.take k = ys.take k ∧ wr = w.drewN n) (fun i _ => xs.length - (intOf i).toNat)
    case atStart => exact ⟨0, 0, Nat.zero_le _, rfl, rfl, rfl⟩
    case round =>
      obtain ⟨k, n, hk, rfl, ht, rfl⟩ := hrel
      have HT := Lib.hid ht
      clear ht
      by_cases hlt : k < xs.length
      · obtain ⟨ad, z, rfl, hz, hz2, hc⟩ := H3.out k hlt
        obtain ⟨ad', y, rfl, hy, hy2, hc'⟩ := G3.out k (by omega)
        have HZ := Lib.hid hz
        have HY := Lib.hid hy
        clear hz hy hz2 hy2
        go_wp2
        go_quiet (fail)
        go_wp2
        · have hne : (z != y) = true := by assumption
          go_ret
          refine ⟨ret_bool ?_, _, World.drewN_drewN _ _ _⟩
          symm
          simp only [decide_eq_false_iff_not]
          rintro rfl
          have := HZ.out.symm.trans HY.out
          simp at this hne
          exact hne this
        · have hne : (z != y) = false := by assumption
          go_roundw
          case rel => exact ⟨k + 1, _, by omega, by go_num, take_eq_succ HT.out HZ.out HY.out (by simpa using hne), rfl⟩
          case measure => simp [intOf]; omega
      · have : k = xs.length := by omega
        subst this
        go_wp2
        go_ret
        refine ⟨ret_bool ?_, _, rfl⟩
        have e := HT.out
        rw [List.take_length, List.take_of_length_le (by omega)] at e
        simp [e]
  · have hl' : (((xs.length : Nat) : Int) != ((ys.length : Nat) : Int)) = true := by simp; omega
    have HL := Lib.hid hl
    clear hl
    go_enter Tryz.func87, Tryz.ntmps87
    go_wp2
    go_ret
    refine ⟨ret_bool ?_, 0, rfl⟩
    have := HL.out
    symm
    simp only [decide_eq_false_iff_not]
    rintro rfl
    exact this rfl

set_option maxHeartbeats 1000000 in
theorem lib_EqualFunc (w : World) (a b : Value) (xs ys : List (List Int)) (ha : Rows w a xs) (hb : Rows w b ys) :
    Calls Tryz.prog 142 #[a, b, .func (.func 87) #[] #[]] w fun e w' => e = .returned (.bool (decide (xs = ys))) ∧ ∃ n, w' = w.drewN n := by
  obtain ⟨A, c, rfl, h1, h2, h3⟩ := ha.open_
  obtain ⟨B, d, rfl, g1, g2, g3⟩ := hb.open_
  clear ha hb
  have hcf : ∀ (args : Array Value) (w : World), Sem.run Tryz.prog (callFunc 87 args) w = .ok (.enter 87 args) w := fun _ _ => by kernel_rfl
  have H3 := Lib.hid h3
  have G3 := Lib.hid g3
  clear h3 g3
  by_cases hl : xs.length = ys.length
  · have hl' : (((xs.length : Nat) : Int) != ((ys.length : Nat) : Int)) = false := by simp [hl]
    have HL := Lib.hid hl
    clear hl
    have g4 : ys.length ≤ xs.length := by rw [HL.out]; omega
    have g5 : xs.length ≤ ys.length := by rw [HL.out]; omega
    go_enter Tryz.func142, Tryz.ntmps142
    go_wp2
    go_loopw [17] (fun i wr => ∃ k n : Nat, k ≤ xs.length ∧ i = .int .i64 k ∧ xs.take k = ys.take k ∧ wr = w.drewN n) (fun i _ => xs.length - (intOf i).toNat)
    case atStart => exact ⟨0, 0, Nat.zero_le _, rfl, rfl, rfl⟩
    case round =>
      obtain ⟨k, n, hk, rfl, ht, rfl⟩ := hrel
      have HT := Lib.hid ht
      clear ht
      by_cases hlt : k < xs.length
      · obtain ⟨ad, u, z, rfl, hz, hz2, hc⟩ := H3.out k hlt
        obtain ⟨ad', u', y, rfl, hy, hy2, hc'⟩ := G3.out k (by omega)
        have HZ := Lib.hid hz
        have HY := Lib.hid hy
        have HZ2 := Lib.hid hz2
        have HY2 := Lib.hid hy2
        clear hz hy hz2 hy2
        go_wp2_with fail
        refine (lib_Equal _ _ _ _ _ (HZ2.out.drewN _) (HY2.out.drewN _)).mono ?_
        rintro e w' ⟨rfl, n2, rfl⟩
        go_wp2_with fail
        · have hne : (!decide (z = y)) = true := by assumption
          go_ret
          refine ⟨ret_bool ?_, _, rfl⟩
          symm
          simp only [decide_eq_false_iff_not]
          rintro rfl
          have := HZ.out.symm.trans HY.out
          simp at this hne
          exact hne this
        · have hne : (!decide (z = y)) = false := by assumption
          go_roundw
          case rel => exact ⟨k + 1, _, by omega, by go_num, rtake_succ HT.out HZ.out HY.out (by simpa using hne), rfl⟩
          case measure => simp [intOf]; omega
      · have : k = xs.length := by omega
        subst this
        go_wp2_with fail
        go_ret
        refine ⟨ret_bool ?_, _, rfl⟩
        have e := HT.out
        rw [List.take_length, List.take_of_length_le (by omega)] at e
        simp [e]
  · have hl' : (((xs.length : Nat) : Int) != ((ys.length : Nat) : Int)) = true := by simp; omega
    have HL := Lib.hid hl
    clear hl
    go_enter Tryz.func142, Tryz.ntmps142
    go_wp2
    go_ret
    refine ⟨ret_bool ?_, 0, rfl⟩
    have := HL.out
    symm
    simp only [decide_eq_false_iff_not]
    rintro rfl
    exact this rfl

end Go.Proofs.YtofabikjjkapmaaGreat

set_option maxRecDepth 100000
set_option linter.unusedVariables false
set_option linter.unusedSimpArgs false
namespace Go.Proofs.YtofabikjjkapmaaGreat
open Go.RowKit

end Go.Proofs.YtofabikjjkapmaaGreat

set_option maxRecDepth 100000
set_option linter.unusedVariables false
set_option linter.unusedSimpArgs false
namespace Go.Proofs.YtofabikjjkapmaaGreat
open Go.RowKit

/-- the binary search -/
def bsF (xs : List (List Nat)) (t : List Nat) : Nat → Nat → Nat → Nat
  | 0, i, _ => i
  | f + 1, i, j => bif Nat.blt i j then (bif befN (xs.getD ((i + j) / 2) []) t then bsF xs t f ((i + j) / 2 + 1) j else bsF xs t f i ((i + j) / 2)) else i
/-- one more than the place that the binary search finds, or 0 -/
def idxN (xs : List (List Nat)) (t : List Nat) : Nat := bif Nat.blt (bsF xs t xs.length 0 xs.length) xs.length && eqN (xs.getD (bsF xs t xs.length 0 xs.length) []) t then bsF xs t xs.length 0 xs.length + 1 else 0
/-- one more than the first place of a tree in a list, or 0 -/
def fndF (t : List Nat) : Nat → List (List Nat) → Nat
  | _, [] => 0
  | i, x :: xs => bif eqN x t then i + 1 else fndF t (i + 1) xs
def fndN (xs : List (List Nat)) (t : List Nat) : Nat := fndF t 0 xs

theorem ret_i64 {a b : Int} (h : a = b) : Ending.returned (.int .i64 a) = Ending.returned (.int .i64 b) := by rw [h]
end Go.Proofs.YtofabikjjkapmaaGreat

set_option linter.unusedVariables false
set_option linter.unusedSimpArgs false
namespace Go.Proofs.YtofabikjjkapmaaGreat

structure STO {α : Type} (lt : α → α → Bool) : Prop where
  irrefl : ∀ x, lt x x = false
  trans : ∀ {x y z}, lt x y = true → lt y z = true → lt x z = true
  tri : ∀ {x y}, lt x y = false → lt y x = false → x = y
namespace STO
variable {α β : Type} {lt : α → α → Bool} {l2 : β → β → Bool}
theorem nat : STO Nat.blt where
  irrefl x := by cases h : Nat.blt x x with | false => rfl | true => have := (blt_iff _ _).1 h; omega
  trans {x y z} a b := (blt_iff _ _).2 (by have := (blt_iff _ _).1 a; have := (blt_iff _ _).1 b; omega)
  tri {x y} a b := by
    have h1 : ¬ x < y := fun h => by rw [(blt_iff _ _).2 h] at a; cases a
    have h2 : ¬ y < x := fun h => by rw [(blt_iff _ _).2 h] at b; cases b
    omega
theorem bef : STO befN := ⟨befN_irrefl, befN_trans, befN_tri⟩
theorem pull (h : STO lt) {f : β → α} (inj : ∀ {a b}, f a = f b → a = b) : STO (fun a b => lt (f a) (f b)) :=
  ⟨fun x => h.irrefl _, fun a b => h.trans a b, fun a b => inj (h.tri a b)⟩
end STO
/-- pairs: by the first, then by the second -/
def lexP {α β : Type} (l1 : α → α → Bool) (l2 : β → β → Bool) (a b : α × β) : Bool := bif l1 a.1 b.1 then true else bif l1 b.1 a.1 then false else l2 a.2 b.2
theorem lexP_eq {α β : Type} {l1 : α → α → Bool} {l2 : β → β → Bool} (h : STO l1) (a : α) (b c : β) : lexP l1 l2 (a, b) (a, c) = l2 b c := by simp [lexP, h.irrefl]
theorem lexP_tt {α β : Type} {l1 : α → α → Bool} {l2 : β → β → Bool} {a b : α × β} (h : l1 a.1 b.1 = true) : lexP l1 l2 a b = true := by simp [lexP, h]
theorem lexP_cases {α β : Type} {l1 : α → α → Bool} {l2 : β → β → Bool} (h1 : STO l1) {a b : α × β} (h : lexP l1 l2 a b = true) : l1 a.1 b.1 = true ∨ (a.1 = b.1 ∧ l2 a.2 b.2 = true) := by
  unfold lexP at h
  cases h2 : l1 a.1 b.1 with
  | true => exact .inl rfl
  | false =>
    cases h3 : l1 b.1 a.1 with
    | true => rw [h2, h3] at h; cases h
    | false => rw [h2, h3] at h; exact .inr ⟨h1.tri h2 h3, h⟩
theorem lexP_ncases {α β : Type} {l1 : α → α → Bool} {l2 : β → β → Bool} (h1 : STO l1) {a b : α × β} (h : lexP l1 l2 a b = false) : l1 b.1 a.1 = true ∨ (a.1 = b.1 ∧ l2 a.2 b.2 = false) := by
  unfold lexP at h
  cases h2 : l1 a.1 b.1 with
  | true => rw [h2] at h; cases h
  | false =>
    cases h3 : l1 b.1 a.1 with
    | true => exact .inl rfl
    | false => rw [h2, h3] at h; exact .inr ⟨h1.tri h2 h3, h⟩
theorem STO.lexP {α β : Type} {l1 : α → α → Bool} {l2 : β → β → Bool} (h1 : STO l1) (h2 : STO l2) : STO (lexP l1 l2) where
  irrefl x := by simp [Go.Proofs.YtofabikjjkapmaaGreat.lexP, h1.irrefl, h2.irrefl]
  trans {x y z} a b := by
    obtain ⟨x1, x2⟩ := x; obtain ⟨y1, y2⟩ := y; obtain ⟨z1, z2⟩ := z
    rcases lexP_cases h1 a with a | ⟨a1, a2⟩
    · rcases lexP_cases h1 b with b | ⟨b1, b2⟩
      · exact lexP_tt (h1.trans a b)
      · simp only at b1; subst b1; exact lexP_tt a
    · simp only at a1; subst a1
      rcases lexP_cases h1 b with b | ⟨b1, b2⟩
      · exact lexP_tt b
      · simp only at b1; subst b1; rw [lexP_eq h1]; exact h2.trans a2 b2
  tri {x y} a b := by
    obtain ⟨x1, x2⟩ := x; obtain ⟨y1, y2⟩ := y
    rcases lexP_ncases h1 a with a | ⟨a1, a2⟩
    · rw [lexP_tt a] at b; cases b
    · simp only at a1; subst a1
      rw [lexP_eq h1] at b
      have e : x2 = y2 := h2.tri a2 b
      rw [e]
/-- lists: element by element; a beginning first -/
def lexL {α : Type} (lt : α → α → Bool) : List α → List α → Bool
  | [], [] => false
  | [], _ :: _ => true
  | _ :: _, [] => false
  | x :: xs, y :: ys => bif lt x y then true else bif lt y x then false else lexL lt xs ys
theorem lexL_cons {α : Type} (lt : α → α → Bool) (x y : α) (xs ys : List α) : lexL lt (x :: xs) (y :: ys) = lexP lt (lexL lt) (x, xs) (y, ys) := rfl
theorem STO.lexL {α : Type} {lt : α → α → Bool} (h : STO lt) : STO (lexL lt) where
  irrefl x := by
    induction x with
    | nil => rfl
    | cons x xs ih => simp [Go.Proofs.YtofabikjjkapmaaGreat.lexL, h.irrefl, ih]
  trans {x} := by
    induction x with
    | nil =>
      intro y z a b
      cases z with
      | nil => cases y with | nil => exact b | cons _ _ => cases b
      | cons z zs => rfl
    | cons x xs ih =>
      intro y z a b
      cases y with
      | nil => cases a
      | cons y ys =>
        cases z with
        | nil => cases b
        | cons z zs =>
          rw [lexL_cons] at a b ⊢
          rcases lexP_cases h a with a | ⟨a1, a2⟩
          · rcases lexP_cases h b with b | ⟨b1, b2⟩
            · exact lexP_tt (h.trans a b)
            · simp only at b1; subst b1; exact lexP_tt a
          · simp only at a1; subst a1
            rcases lexP_cases h b with b | ⟨b1, b2⟩
            · exact lexP_tt b
            · simp only at b1; subst b1; rw [lexP_eq h]; exact ih a2 b2
  tri {x} := by
    induction x with
    | nil =>
      intro y a b
      cases y with
      | nil => rfl
      | cons _ _ => cases a
    | cons x xs ih =>
      intro y a b
      cases y with
      | nil => cases b
      | cons y ys =>
        rw [lexL_cons] at a b
        rcases lexP_ncases h a with a | ⟨a1, a2⟩
        · rw [lexP_tt a] at b; cases b
        · simp only at a1; subst a1
          rw [lexP_eq h] at b
          rw [ih a2 b]

/-- sorting by insertion -/
def insS {α : Type} (lt : α → α → Bool) (p : α) : List α → List α
  | [] => [p]
  | q :: qs => bif lt p q then p :: q :: qs else q :: insS lt p qs
def srtSF {α : Type} (lt : α → α → Bool) (s : List α) : List α → List α
  | [] => s
  | p :: ps => srtSF lt (insS lt p s) ps
def srtS {α : Type} (lt : α → α → Bool) (ps : List α) : List α := srtSF lt [] ps
section
variable {α : Type} {lt : α → α → Bool}
end

/-- forests: fewer trees first, then tree by tree -/
def ltK (f g : List (List Nat)) : Bool := lexP Nat.blt (lexL befN) (f.length, f) (g.length, g)
theorem STO.ltK : STO ltK := (STO.nat.lexP STO.bef.lexL).pull (f := fun f : List (List Nat) => (f.length, f)) fun h => by injection h
def ndN : List (List Nat) → Nat
  | [] => 0
  | t :: ts => t.length + ndN ts
/-- forests: fewer nodes first -/
def ltW (f g : List (List Nat)) : Bool := lexP Nat.blt Go.Proofs.YtofabikjjkapmaaGreat.ltK (ndN f, f) (ndN g, g)
theorem STO.ltW : STO ltW := (STO.nat.lexP STO.ltK).pull (f := fun f : List (List Nat) => (ndN f, f)) fun h => by injection h
abbrev SP := List (List Nat) × List (List Nat)
/-- cuts: by the crowns, then by the trunks -/
def ltS : SP → SP → Bool := lexP Go.Proofs.YtofabikjjkapmaaGreat.ltW Go.Proofs.YtofabikjjkapmaaGreat.ltK
theorem STO.ltS : STO ltS := STO.ltW.lexP STO.ltK
end Go.Proofs.YtofabikjjkapmaaGreat

set_option maxRecDepth 100000
set_option linter.unusedVariables false
set_option linter.unusedSimpArgs false
namespace Go.Proofs.YtofabikjjkapmaaGreat
open Go.RowKit Go.Sort Go.Shelf

/-- what k cells say of a datum; what they point to lies in blocks from B on, of numbers and of slices of numbers -/
structure Elt (α : Type) where
  k : Nat
  D : World → Nat → List Value → α → Prop
  len : ∀ {w B c x}, D w B c x → c.length = k
  one : ∀ {w B c x}, D w B c x → ∀ u ∈ c, u.oneCell' = true
  below : ∀ {w w' B c x}, D w B c x → Below w.heap.size w w' → D w' B c x
  mono : ∀ {w B B' c x}, D w B c x → B' ≤ B → D w B' c x
  kept : ∀ {w w' B c x} {e : TypeId} {v : Value}, D w B c x → w.grownBy w' v.ownBlock → BT w e v → tI ≠ e → tL ≠ e → D w' B c x

def Elts {α : Type} (E : Elt α) (w : World) (B : Nat) (css : List (List Value)) (xs : List α) : Prop := css.length = xs.length ∧ ∀ (i : Nat) (c : List Value) (x : α), css[i]? = some c → xs[i]? = some x → E.D w B c x
section
variable {α : Type} {E : Elt α} {w w' : World} {B : Nat} {css : List (List Value)} {xs : List α}
theorem Elts.nil (E : Elt α) (w : World) (B : Nat) : Elts E w B [] [] := ⟨rfl, fun i c x h => by simp at h⟩
theorem Elts.below (h : Elts E w B css xs) (hb : Below w.heap.size w w') : Elts E w' B css xs := ⟨h.1, fun i c x hc hx => E.below (h.2 i c x hc hx) hb⟩
theorem Elts.mono {B' : Nat} (h : Elts E w B css xs) (hB : B' ≤ B) : Elts E w B' css xs := ⟨h.1, fun i c x hc hx => E.mono (h.2 i c x hc hx) hB⟩
theorem Elts.kept {v : Value} {e : TypeId} (h : Elts E w B css xs) (hg : w.grownBy w' v.ownBlock) (hb : BT w e v) (h1 : tI ≠ e) (h2 : tL ≠ e) : Elts E w' B css xs := ⟨h.1, fun i c x hc hx => E.kept (h.2 i c x hc hx) hg hb h1 h2⟩
theorem Elts.snoc {c : List Value} {x : α} (h : Elts E w B css xs) (hx : E.D w B c x) : Elts E w B (css ++ [c]) (xs ++ [x]) := by
  refine ⟨by simp [h.1], fun i c' x' hc hx' => ?_⟩
  by_cases hlt : i < css.length
  · rw [List.getElem?_append_left hlt] at hc
    rw [List.getElem?_append_left (by rw [← h.1]; exact hlt)] at hx'
    exact h.2 i c' x' hc hx'
  · have hkl := (List.getElem?_eq_some_iff.1 hc).1
    simp at hkl
    have : i = css.length := by omega
    subst this
    rw [List.getElem?_append_right (Nat.le_refl _)] at hc
    rw [List.getElem?_append_right (by rw [h.1]; exact Nat.le_refl _), h.1] at hx'
    simp at hc hx'
    subst hc; subst hx'
    exact hx
theorem Elts.at_ {i : Nat} {x : α} (h : Elts E w B css xs) (hx : xs[i]? = some x) : ∃ c, css[i]? = some c ∧ E.D w B c x := by
  have hi : i < css.length := by rw [h.1]; exact (List.getElem?_eq_some_iff.1 hx).1
  exact ⟨_, List.getElem?_eq_getElem hi, h.2 i _ x (List.getElem?_eq_getElem hi) hx⟩
theorem Elts.set_ {i : Nat} {c : List Value} {x : α} (h : Elts E w B css xs) (hx : E.D w B c x) : Elts E w B (css.set i c) (xs.set i x) := by
  refine ⟨by simp [h.1], fun j c' x' hc hx' => ?_⟩
  rw [List.getElem?_set] at hc hx'
  by_cases hij : i = j
  · subst hij
    rw [if_pos rfl] at hc hx'
    split at hc
    · rw [if_pos (by rw [← h.1]; assumption)] at hx'
      injection hc with hc; injection hx' with hx'
      subst hc; subst hx'
      exact hx
    · cases hc
  · rw [if_neg hij] at hc hx'
    exact h.2 j c' x' hc hx'
end
/-- a list of one's own of such elements -/
def SLs {α : Type} (E : Elt α) (e : TypeId) (w : World) (B : Nat) (v : Value) (xs : List α) : Prop := ∃ css, OwnK w B e E.k v css ∧ Elts E w B css xs
section
variable {α : Type} {E : Elt α} {e : TypeId} {w w' : World} {B : Nat} {v : Value} {xs : List α}
theorem SLs.below (h : SLs E e w B v xs) (hb : Below w.heap.size w w') : SLs E e w' B v xs := by obtain ⟨css, h1, h2⟩ := h; exact ⟨css, h1.below hb, h2.below hb⟩
theorem SLs.mono {B' : Nat} (h : SLs E e w B v xs) (hB : B' ≤ B) : SLs E e w B' v xs := by obtain ⟨css, h1, h2⟩ := h; exact ⟨css, h1.mono hB, h2.mono hB⟩
theorem SLs.open_ (h : SLs E e w B v xs) : ∃ A c, v = .slice A xs.length c ∧ xs.length ≤ c ∧ c ≤ 9223372036854775807 := by
  obtain ⟨css, h1, h2⟩ := h
  have := h1.open_
  rwa [h2.1] at this
end

/-! ### sorted by the library -/
section
variable {α : Type} [Inhabited α] {enc : α → List Value} {k : Nat}
variable {w : World} {B g cap n : Nat} {e : TypeId} {d : List α} {os : Array Obj}
end

end Go.Proofs.YtofabikjjkapmaaGreat

set_option maxRecDepth 100000
set_option linter.unusedVariables false
set_option linter.unusedSimpArgs false
namespace Go.Proofs.YtofabikjjkapmaaGreat
open Go.RowKit Go.Sort Go.Shelf

/-- a field that points to memory of its own -/
structure Fld (α : Type) where
  P : World → Nat → Value → α → Prop
  one : ∀ {w B u x}, P w B u x → u.oneCell' = true
  below : ∀ {w w' B u x}, P w B u x → Below w.heap.size w w' → P w' B u x
  mono : ∀ {w B B' u x}, P w B u x → B' ≤ B → P w B' u x
  kept : ∀ {w w' B u x} {e : TypeId} {v : Value}, P w B u x → w.grownBy w' v.ownBlock → BT w e v → tI ≠ e → tL ≠ e → P w' B u x
section
variable {α β : Type}
end

/-- the program's comparison of forests, tree by tree -/
def cmpFL : List (List Nat) → List (List Nat) → Int
  | [], [] => 0
  | [], _ :: _ => -1
  | _ :: _, [] => 1
  | x :: xs, y :: ys => if cmpT (up x) (up y) = 0 then cmpFL xs ys else cmpT (up x) (up y)
theorem rowsAt {w : World} {v : Value} {xs : List (List Nat)} (h : Rows w v (xs.map up)) : ∃ A c, v = .slice A xs.length c ∧ xs.length ≤ c ∧ c ≤ 9223372036854775807 ∧
    ∀ k, k < xs.length → ∃ ad q A5 c5, A = some ad ∧ xs[k]? = some q ∧ Ints w (.slice A5 q.length c5) (up q) ∧ w.cell? (ad.add k) = some (.slice A5 q.length c5) := by
  obtain ⟨A, c, rfl, l1, l2, h3⟩ := h.open_
  rw [List.length_map] at l1 h3
  refine ⟨A, c, by rw [List.length_map], l1, l2, fun k hk => ?_⟩
  obtain ⟨ad, u, zs, h1, h2, h4, h5⟩ := h3 k hk
  have hq : xs[k]? = some (xs[k]'hk) := List.getElem?_eq_getElem _
  rw [List.getElem?_map, hq] at h2
  injection h2 with h2
  subst h2
  obtain ⟨A5, c5, he5, -, -, -⟩ := h4.open_
  rw [up_len] at he5
  subst he5
  exact ⟨ad, _, A5, c5, h1, hq, h4, h5⟩

end Go.Proofs.YtofabikjjkapmaaGreat

set_option maxRecDepth 100000
set_option linter.unusedVariables false
set_option linter.unusedSimpArgs false
namespace Go.Proofs
open Go.Shelf Go.RowKit Go.Lib Go.Sort
def Tryz.ssort_ren : Go.Shelf.Ren := ⟨fun | 6 => 210 | 15 => 246 | 14 => 245 | 28 => 266 | 29 => 267 | 20 => 258 | 21 => 259 | 22 => 260 | 23 => 261 | 24 => 262 | 25 => 263 | 26 => 264 | 27 => 265 | 46 => 283 | 47 => 284 | 48 => 285 | 49 => 286 | 50 => 287 | 57 => 295 | n => n, fun | 22 => 131 | 24 => 135 | 25 => 159 | 3 => 3 | 39 => 84 | 0 => 0 | 53 => 197 | 55 => 26 | 4 => 4 | 46 => 191 | 45 => 190 | 50 => 127 | 5 => 5 | 9 => 9 | 66 => 210 | 70 => 214 | 76 => 220 | 77 => 221 | n => n, fun | n => n⟩
theorem Tryz.ssort : Go.Proofs.SlLaysF0.n6 Tryz.prog Tryz.ssort_ren := {
  mixed := by kernel_rfl
  f6 := ⟨Tryz.f210.name, by decide, Tryz.func210.trans (congrArg some (by kernel_rfl))⟩
  f14 := ⟨Tryz.f245.name, by decide, Tryz.func245.trans (congrArg some (by kernel_rfl))⟩
  f15 := Tryz.func246.trans (congrArg some (by kernel_rfl))
  f20 := ⟨Tryz.f258.name, by decide, Tryz.func258.trans (congrArg some (by kernel_rfl))⟩
  f21 := ⟨Tryz.f259.name, by decide, Tryz.func259.trans (congrArg some (by kernel_rfl))⟩
  f22 := ⟨Tryz.f260.name, by decide, Tryz.func260.trans (congrArg some (by kernel_rfl))⟩
  f23 := ⟨Tryz.f261.name, by decide, Tryz.func261.trans (congrArg some (by kernel_rfl))⟩
  f24 := ⟨Tryz.f262.name, by decide, Tryz.func262.trans (congrArg some (by kernel_rfl))⟩
  f25 := ⟨Tryz.f263.name, by decide, Tryz.func263.trans (congrArg some (by kernel_rfl))⟩
  f26 := ⟨Tryz.f264.name, by decide, Tryz.func264.trans (congrArg some (by kernel_rfl))⟩
  f27 := ⟨Tryz.f265.name, by decide, Tryz.func265.trans (congrArg some (by kernel_rfl))⟩
  f28 := Tryz.func266.trans (congrArg some (by kernel_rfl))
  f29 := Tryz.func267.trans (congrArg some (by kernel_rfl))
  f46 := ⟨Tryz.f283.name, by decide, Tryz.func283.trans (congrArg some (by kernel_rfl))⟩
  f47 := Tryz.func284.trans (congrArg some (by kernel_rfl))
  f48 := Tryz.func285.trans (congrArg some (by kernel_rfl))
  f49 := ⟨Tryz.f286.name, by decide, Tryz.func286.trans (congrArg some (by kernel_rfl))⟩
  f50 := ⟨Tryz.f287.name, by decide, Tryz.func287.trans (congrArg some (by kernel_rfl))⟩
  f57 := ⟨Tryz.f295.name, by decide, Tryz.func295.trans (congrArg some (by kernel_rfl))⟩
  t0 := Tryz.underlying0
  a0 := Tryz.isAgg0
  z0 := Tryz.sizeOf0
  v0 := Tryz.zeroValue0
  t3 := Tryz.underlying3
  a3 := Tryz.isAgg3
  z3 := Tryz.sizeOf3
  v3 := Tryz.zeroValue3
  t4 := Tryz.underlying4
  a4 := Tryz.isAgg4
  z4 := Tryz.sizeOf4
  v4 := Tryz.zeroValue4
  t5 := Tryz.underlying5
  a5 := Tryz.isAgg5
  z5 := Tryz.sizeOf5
  v5 := Tryz.zeroValue5
  t9 := Tryz.underlying9
  a9 := Tryz.isAgg9
  z9 := Tryz.sizeOf9
  v9 := Tryz.zeroValue9
  t22 := Tryz.underlying131
  a22 := Tryz.isAgg131
  z22 := Tryz.sizeOf131
  v22 := Tryz.zeroValue131
  t25 := Tryz.underlying159
  a25 := Tryz.isAgg159
  z25 := Tryz.sizeOf159
  v25 := Tryz.zeroValue159
  t39 := Tryz.underlying84
  a39 := Tryz.isAgg84
  z39 := Tryz.sizeOf84
  v39 := Tryz.zeroValue84
  t45 := Tryz.underlying190
  a45 := Tryz.isAgg190
  z45 := Tryz.sizeOf190
  v45 := Tryz.zeroValue190
  t46 := Tryz.underlying191
  a46 := Tryz.isAgg191
  z46 := Tryz.sizeOf191
  v46 := Tryz.zeroValue191
  t50 := Tryz.underlying127
  a50 := Tryz.isAgg127
  z50 := Tryz.sizeOf127
  v50 := Tryz.zeroValue127
  t53 := Tryz.underlying197
  a53 := Tryz.isAgg197
  z53 := Tryz.sizeOf197
  v53 := Tryz.zeroValue197
  t55 := Tryz.underlying26
  a55 := Tryz.isAgg26
  z55 := Tryz.sizeOf26
  v55 := Tryz.zeroValue26
  t66 := Tryz.underlying210
  a66 := Tryz.isAgg210
  z66 := Tryz.sizeOf210
  v66 := Tryz.zeroValue210
  t70 := Tryz.underlying214
  a70 := Tryz.isAgg214
  z70 := Tryz.sizeOf214
  v70 := Tryz.zeroValue214
  t76 := Tryz.underlying220
  a76 := Tryz.isAgg220
  z76 := Tryz.sizeOf220
  v76 := Tryz.zeroValue220
  t77 := Tryz.underlying221
  a77 := Tryz.isAgg221
  z77 := Tryz.sizeOf221
  v77 := Tryz.zeroValue221 }
end Go.Proofs
namespace Go.Proofs.YtofabikjjkapmaaGreat
open Go.RowKit Go.Sort Go.Shelf

def cmpK (f g : List (List Nat)) : Int := if (f.length : Int) - (g.length : Int) = 0 then cmpFL f g else (f.length : Int) - (g.length : Int)
def cmpW (f g : List (List Nat)) : Int := if (ndN f : Int) - (ndN g : Int) = 0 then cmpK f g else (ndN f : Int) - (ndN g : Int)
def cmpS (x y : SP) : Int := if cmpW x.1 y.1 = 0 then cmpK x.2 y.2 else cmpW x.1 y.1
end Go.Proofs.YtofabikjjkapmaaGreat

set_option maxRecDepth 100000
set_option linter.unusedVariables false
set_option linter.unusedSimpArgs false
namespace Go.Proofs.YtofabikjjkapmaaGreat
open Go.RowKit Go.Sort Go.Shelf

end Go.Proofs.YtofabikjjkapmaaGreat

set_option maxRecDepth 100000
set_option linter.unusedVariables false
set_option linter.unusedSimpArgs false
namespace Go.Proofs.YtofabikjjkapmaaGreat
open Go.RowKit

/-- equal ones once, with their numbers: one more -/
def grpS {α : Type} (cmp : α → α → Int) (out : List (α × Nat)) (s : α) : List (α × Nat) := match out.getLast? with
  | none => [(s, 1)]
  | some (r, n) => if cmp r s = 0 then out.set (out.length - 1) (r, n + 1) else out ++ [(s, 1)]
def grpL {α : Type} (cmp : α → α → Int) (l : List α) : List (α × Nat) := l.foldl (grpS cmp) []
end Go.Proofs.YtofabikjjkapmaaGreat

set_option linter.unusedVariables false
set_option linter.unusedSimpArgs false
namespace Go.Proofs.YtofabikjjkapmaaGreat
open Go Go.RowKit

/-- a world of the class -/
structure GW (S : World → Prop) where
  w : World
  h : S w

end Go.Proofs.YtofabikjjkapmaaGreat

set_option maxRecDepth 100000
set_option linter.unusedVariables false
set_option linter.unusedSimpArgs false
namespace Go.Proofs.YtofabikjjkapmaaGreat
open Go.RowKit

end Go.Proofs.YtofabikjjkapmaaGreat

set_option maxRecDepth 100000
set_option linter.unusedVariables false
set_option linter.unusedSimpArgs false
namespace Go.Proofs.YtofabikjjkapmaaGreat
open Go.RowKit

end Go.Proofs.YtofabikjjkapmaaGreat

set_option linter.unusedVariables false
set_option linter.unusedSimpArgs false
set_option maxRecDepth 100000
namespace Go.Proofs.YtofabikjjkapmaaGreat

/-- what the program knows of the nodes so far: the neighbours in the pieces, the piece of each node, the pieces' roots, the joints -/
structure CutS where
  near : List (List Nat)
  top : List Nat
  tops : List Nat
  bet : List (Nat × Nat)
def cutStep (mask : Nat) (s : CutS) (i p : Nat) : CutS :=
  match p with
  | 0 => ⟨s.near, s.top.set i s.tops.length, s.tops ++ [i], s.bet⟩
  | k + 1 => bif mask.testBit i then ⟨s.near, s.top.set i s.tops.length, s.tops ++ [i], s.bet ++ [(s.top.getD k 0, s.tops.length)]⟩
    else ⟨addAt i k (addAt k i s.near), s.top.set i (s.top.getD k 0), s.tops, s.bet⟩
/-- the nodes of a piece of the reference's: whether each is in it, and its list -/
def pieF (t : List Nat) (mask root : Nat) : List Nat → Nat → List Bool → List Nat → List Nat
  | [], _, _, out => out
  | l :: ls, i, inn, out =>
    let p := parN t l i
    bif Nat.blt root p && (inn.getD (p - 1) false && !mask.testBit i) then pieF t mask root ls (i + 1) (inn.set i true) (out ++ [l - t.getD root 0])
    else pieF t mask root ls (i + 1) inn out
def pieN (t : List Nat) (mask root : Nat) : List Nat := pieF t mask root (t.drop (root + 1)) (root + 1) ((List.replicate t.length false).set root true) [0]
/-- the nodes at which the reference cuts -/
def cutsN (mask : Nat) : Nat → Nat → List Nat
  | 0, _ => []
  | n + 1, i => bif mask.testBit i then i :: cutsN mask n (i + 1) else cutsN mask n (i + 1)
/-- the number of nodes with a cut on the way from a node (by one more than its place) to the root -/
def wayN (t : List Nat) (mask : Nat) : Nat → Nat → Nat
  | 0, _ => 0
  | f + 1, 0 => 0
  | f + 1, 1 => 0
  | f + 1, k + 2 => (bif mask.testBit (k + 1) then 1 else 0) + wayN t mask f (parN t (t.getD (k + 1) 0) (k + 1))
def sklN (t : List Nat) (mask : Nat) : List Nat := 0 :: (cutsN mask (t.length - 1) 1).map fun i => 1 + wayN t mask 9 (parN t (t.getD i 0) i)

end Go.Proofs.YtofabikjjkapmaaGreat

set_option maxRecDepth 100000
set_option linter.unusedVariables false
set_option linter.unusedSimpArgs false
namespace Go.Proofs.YtofabikjjkapmaaGreat
open Go.RowKit

end Go.Proofs.YtofabikjjkapmaaGreat

set_option linter.unusedVariables false
set_option linter.unusedSimpArgs false
namespace Go.Proofs.YtofabikjjkapmaaGreat

structure CI (n j : Nat) (s : CutS) : Prop where
  near : NB s.near (2 * j) n
  top : s.top.length = n ∧ ∀ x ∈ s.top, x ≤ s.tops.length
  tops : s.tops.length ≤ j ∧ ∀ x ∈ s.tops, x < n
  bet : s.bet.length ≤ j ∧ ∀ p ∈ s.bet, p.1 < s.tops.length ∧ p.2 < s.tops.length
theorem CI.topLe {n j : Nat} {s : CutS} (h : CI n j s) (k : Nat) : s.top.getD k 0 ≤ s.tops.length := by
  cases hx : s.top[k]? with
  | none => simp [List.getD, hx]
  | some x => have := h.top.2 x (List.mem_of_getElem? hx); simpa [List.getD, hx] using this
theorem CI.step {n j P mask : Nat} {s : CutS} (h : CI n j s) (hj : j < n) (hP : P ≤ j) : CI n (j + 1) (cutStep mask s j P) := by
  have hnew : ∀ x ∈ s.top.set j s.tops.length, x ≤ (s.tops ++ [j]).length := by
    intro x hx
    rcases List.mem_or_eq_of_mem_set hx with hx | hx
    · have := h.top.2 x hx; simp; omega
    · simp [hx]
  have htops : (s.tops ++ [j]).length ≤ j + 1 ∧ ∀ x ∈ s.tops ++ [j], x < n := by
    refine ⟨by have := h.tops.1; simp; omega, fun x hx => ?_⟩
    rcases List.mem_append.1 hx with hx | hx
    · exact h.tops.2 x hx
    · simp at hx; omega
  cases P with
  | zero =>
    exact ⟨h.near.mono (by omega), ⟨by simp [cutStep, h.top.1], hnew⟩, htops, ⟨by have := h.bet.1; show s.bet.length ≤ _; omega, fun p hp => by have := h.bet.2 p hp; simp [cutStep]; omega⟩⟩
  | succ k =>
    rw [cutStep]
    cases mask.testBit j with
    | true =>
      refine ⟨h.near.mono (by omega), ⟨by simp [h.top.1], hnew⟩, htops, ⟨by have := h.bet.1; simp; omega, fun p hp => ?_⟩⟩
      simp only [cond_true, List.length_append, List.length_singleton] at hp ⊢
      rcases List.mem_append.1 hp with hp | hp
      · have := h.bet.2 p hp; omega
      · simp at hp
        have := h.topLe k
        subst hp
        simp only [List.getD_eq_getElem?_getD] at this
        exact ⟨by simpa using Nat.lt_succ_of_le this, by simp⟩
    | false =>
      refine ⟨((h.near.add (x := k) (i := j) (by omega)).add (x := j) (i := k) hj).mono (by omega), ⟨by simp [h.top.1], fun x hx => ?_⟩, ⟨by have := h.tops.1; simp; omega, h.tops.2⟩, ⟨by have := h.bet.1; simp; omega, h.bet.2⟩⟩
      rcases List.mem_or_eq_of_mem_set hx with hx | hx
      · exact h.top.2 x hx
      · rw [hx]; exact h.topLe k
end Go.Proofs.YtofabikjjkapmaaGreat

set_option linter.unusedVariables false
set_option linter.unusedSimpArgs false
namespace Go.Proofs.YtofabikjjkapmaaGreat
open Go

section
variable {P : Program} {ops : Array Oper} {Q : Exit → Act → World → Prop} {md : Region.Mode} {S : Bool → World → Prop} {k : Nat}

/-- whatever order comes: 'S false' holds of the worlds ahead of operation k, 'S true' of those behind it -/
def AnyT (P : Program) (md : Region.Mode) (ops : Array Oper) (Q : Exit → Act → World → Prop) (S : Bool → World → Prop) (k : Nat) : Nat → Array Bool → Act → World → Prop
  | 0, L, a, w => Region.ready md ops L = [] ∧ Q .normal a w
  | f + 1, L, a, w => (Region.ready md ops L = [] → Q .normal a w) ∧
      ∀ i ∈ Region.ready md ops L, wpOp P ops Q i (fun a' w' => S ((L.setIfInBounds i true).getD k true) w' ∧ AnyT P md ops Q S k f (L.setIfInBounds i true) a' w') a w

theorem AnyT.any : ∀ (f : Nat) (L : Array Bool) (a : Act) (w : World), AnyT P md ops Q S k f L a w → wpAny P md ops Q f L a w
  | 0, _, _, _, h => h
  | f + 1, _, _, _, h => ⟨h.1, fun i hi => wpOp_mono (fun a' w' h' => AnyT.any f _ a' w' h'.2) (h.2 i hi)⟩

theorem AnyT.first {i : Nat} {oi : Oper} {v : Value} {U : World → Prop} {G : Array Bool → Prop} (hi : ops[i]? = some oi)
    (hsel : ∀ (j : Nat) (o : Oper) cs b, ops[j]? = some o → o.op ≠ .select cs b)
    (hQ : ∀ c a w, Q (.panic c) (a.put oi.dst v) w → Q (.panic c) a w) (hik : i ≠ k)
    (hG : ∀ (L : Array Bool) (j : Nat), G L → i ∈ Region.ready md ops L → j ∈ Region.ready md ops L → j ≠ i → G (L.setIfInBounds j true))
    (hU : ∀ (L : Array Bool) (w : World), G L → S (L.getD k true) w → U w) :
    ∀ (f : Nat) (L : Array Bool) (a : Act) (w : World),
      (∀ j oj, ops[j]? = some oj → j ≠ i → L.getD j true = false → (∀ e ∈ oj.after, Region.binds md e = true → e.on ≠ i) → oi.apart ops oj = true) →
      i ∈ Region.ready md ops L → G L → YieldsIf P ops U oi v a → S (L.getD k true) w →
      AnyT P md ops Q S k f (L.setIfInBounds i true) (a.put oi.dst v) w → AnyT P md ops Q S k (f + 1) L a w := by
  have hkeep : ∀ (L : Array Bool), (L.setIfInBounds i true).getD k true = L.getD k true := fun L => getD_set_ne true hik
  intro f
  induction f with
  | zero =>
    intro L a w _ hr g hy hS H
    refine ⟨fun h => (by rw [h] at hr; cases hr), fun j hj => ?_⟩
    by_cases hji : j = i
    · subst hji
      exact hy.wpOp hi (hU L w g hS) ⟨by rw [hkeep]; exact hS, H⟩
    · have h1 := ready_mono hj hji
      rw [H.1] at h1
      cases h1
  | succ f ih =>
    intro L a w hfree hr g hy hS H
    refine ⟨fun h => (by rw [h] at hr; cases hr), fun j hj => ?_⟩
    by_cases hji : j = i
    · subst hji
      exact hy.wpOp hi (hU L w g hS) ⟨by rw [hkeep]; exact hS, H⟩
    · obtain ⟨hjun, oj, hoj, hall⟩ := mem_ready.1 hj
      have hiun := (mem_ready.1 hr).1
      have hnot : ∀ e ∈ oj.after, Region.binds md e = true → e.on ≠ i := fun e he hb heq => by
        have h1 := hall e he hb
        rw [heq] at h1
        rcases Nat.lt_or_ge i L.size with h' | h'
        · simp [h'] at hiun h1; rw [hiun] at h1; cases h1
        · simp [Array.getElem?_eq_none h'] at h1
      have h2 := wpOp_putIf hoj (hfree j oj hoj hji hjun hnot) (fun cs b => hsel i oi cs b hi) (fun cs b => hsel j oj cs b hoj) hQ hy (H.2 j (ready_mono hj hji))
      refine wpOp_mono (fun a' w' h3 => ?_) h2
      have e : (L.setIfInBounds i true).setIfInBounds j true = (L.setIfInBounds j true).setIfInBounds i true := Array.setIfInBounds_comm _ _ (Ne.symm hji)
      obtain ⟨hy', hS', H'⟩ := h3
      rw [e] at H'
      rw [e, hkeep] at hS'
      refine ⟨hS', ih (L.setIfInBounds j true) a' w' (fun m om hm hmi hun hno => hfree m om hm hmi ?_ hno) (ready_mono hr (Ne.symm hji)) (hG L j g hr hj hji) hy' hS' H'⟩
      by_cases hjm : j = m
      · subst hjm; exact hjun
      · rw [getD_set_ne true hjm] at hun; exact hun

/-- operation i, which yields in every world that meets S, may be taken first -/
theorem AnyT.take0 {i : Nat} {oi : Oper} {v : Value} {f : Nat} {L : Array Bool} {a : Act} {w : World} (hi : ops[i]? = some oi)
    (hs : Region.noSelect ops = true) (hf : Region.free md ops L i = true) (hr : (Region.ready md ops L).contains i = true) (hik : i ≠ k)
    (hQ : ∀ c a w, Q (.panic c) (a.put oi.dst v) w → Q (.panic c) a w) (hS : S (L.getD k true) w) (hy : YieldsIf P ops (fun w => ∃ b, S b w) oi v a)
    (h : AnyT P md ops Q S k f (L.setIfInBounds i true) (a.put oi.dst v) w) : AnyT P md ops Q S k (f + 1) L a w :=
  AnyT.first (G := fun _ => True) (U := fun w => ∃ b, S b w) hi (Region.noSelect_spec hs) hQ hik (fun _ _ _ _ _ _ => trivial) (fun L w _ h => ⟨_, h⟩) f L a w (Region.free_spec hi hf) (by simpa using hr) trivial hy hS h

/-- does operation k wait for i? -/
def waitsB (md : Region.Mode) (ops : Array Oper) (k i : Nat) : Bool := ((ops[k]?).map fun o => o.after.any fun e => Region.binds md e && e.on == i).getD false

/-- operation i, for which k waits, and which yields in every world ahead of k, may be taken first -/
theorem AnyT.take1 {i : Nat} {oi : Oper} {v : Value} {f : Nat} {L : Array Bool} {a : Act} {w : World} (hi : ops[i]? = some oi)
    (hs : Region.noSelect ops = true) (hf : Region.free md ops L i = true) (hr : (Region.ready md ops L).contains i = true) (hik : i ≠ k)
    (hk : waitsB md ops k i = true) (hkL : L.getD k true = false)
    (hQ : ∀ c a w, Q (.panic c) (a.put oi.dst v) w → Q (.panic c) a w) (hS : S (L.getD k true) w) (hy : YieldsIf P ops (S false) oi v a)
    (h : AnyT P md ops Q S k f (L.setIfInBounds i true) (a.put oi.dst v) w) : AnyT P md ops Q S k (f + 1) L a w := by
  refine AnyT.first (G := fun L => L.getD k true = false) (U := S false) hi (Region.noSelect_spec hs) hQ hik (fun L j g hr hj hji => ?_) (fun L w g h => by rw [g] at h; exact h) f L a w (Region.free_spec hi hf) (by simpa using hr) hkL hy hS h
  have hne : j ≠ k := by
    rintro rfl
    obtain ⟨-, oj, hoj, hall⟩ := mem_ready.1 hj
    have hiun := (mem_ready.1 hr).1
    unfold waitsB at hk
    rw [hoj] at hk
    simp only [Option.map_some, Option.getD_some, Array.any_eq_true', Bool.and_eq_true, beq_iff_eq] at hk
    obtain ⟨e, he, hb, hon⟩ := hk
    have h1 := hall e he hb
    rw [hon] at h1
    rcases Nat.lt_or_ge i L.size with h' | h'
    · simp [h'] at hiun h1; rw [hiun] at h1; cases h1
    · simp [Array.getElem?_eq_none h'] at h1
  rw [getD_set_ne true hne]
  exact g

/-- each of the operations rs comes next -/
def AllT (P : Program) (md : Region.Mode) (ops : Array Oper) (Q : Exit → Act → World → Prop) (S : Bool → World → Prop) (k : Nat) (f : Nat) (L : Array Bool) (a : Act) (w : World) (rs : List Nat) : Prop :=
  ∀ i ∈ rs, wpOp P ops Q i (fun a' w' => S ((L.setIfInBounds i true).getD k true) w' ∧ AnyT P md ops Q S k f (L.setIfInBounds i true) a' w') a w
theorem AllT.nil {f : Nat} {L : Array Bool} {a : Act} {w : World} : AllT P md ops Q S k f L a w [] := fun _ h => by cases h
theorem AllT.cons {f : Nat} {L : Array Bool} {a : Act} {w : World} {i : Nat} {o : Oper} {rs : List Nat} (ho : ops[i]? = some o)
    (h : ∀ K' : Act → World → Prop, Shut (∀ a w, S ((L.setIfInBounds i true).getD k true) w → (S ((L.setIfInBounds i true).getD k true) w → AnyT P md ops Q S k f (L.setIfInBounds i true) a w) → K' a w) →
      if Region.wanted o (yielded ops a.tmps) = true then Oper.wp P o a w K' Q else K' (a.put o.dst undef) w)
    (hs : AllT P md ops Q S k f L a w rs) : AllT P md ops Q S k f L a w (i :: rs) := fun j hj => by
  rcases List.mem_cons.1 hj with rfl | hj
  · exact wpOp_step ho (fun K' hK => h K' (fun a w hS hW => hK a w ⟨hS, hW hS⟩))
  · exact hs j hj
theorem AnyT.go {rs : List Nat} {f : Nat} {L : Array Bool} {a : Act} {w : World} (hr : Region.ready md ops L = rs) (hne : rs ≠ []) (h : AllT P md ops Q S k f L a w rs) : AnyT P md ops Q S k (f + 1) L a w :=
  ⟨fun h0 => absurd (hr ▸ h0) hne, hr ▸ h⟩
theorem AnyT.done {L : Array Bool} {a : Act} {w : World} (hr : Region.ready md ops L = []) (h : Q .normal a w) : ∀ f, AnyT P md ops Q S k f L a w
  | 0 => ⟨hr, h⟩
  | _ + 1 => ⟨fun _ => h, by rw [hr]; simp⟩
theorem AnyT.begin {id : Nat} {a : Act} {w : World} (hm : P.follows .mixedOrders = true) (h : AnyT P .any ops Q S k ops.size (Array.replicate ops.size false) a w.drew) : (Code.region id ops true).wp P Q a w :=
  wp_region_any hm (AnyT.any _ _ _ _ h)
end
end Go.Proofs.YtofabikjjkapmaaGreat

set_option maxRecDepth 100000
set_option linter.unusedVariables false
set_option linter.unusedSimpArgs false
namespace Go.Proofs.YtofabikjjkapmaaGreat
open Go.RowKit

end Go.Proofs.YtofabikjjkapmaaGreat

set_option maxRecDepth 100000
set_option linter.unusedVariables false
set_option linter.unusedSimpArgs false
namespace Go.Proofs.YtofabikjjkapmaaGreat
open Go.RowKit

end Go.Proofs.YtofabikjjkapmaaGreat

set_option maxRecDepth 100000
set_option linter.unusedVariables false
set_option linter.unusedSimpArgs false
namespace Go.Proofs.YtofabikjjkapmaaGreat
open Go.RowKit

end Go.Proofs.YtofabikjjkapmaaGreat

set_option linter.unusedVariables false
set_option linter.unusedSimpArgs false
set_option maxRecDepth 100000
namespace Go.Proofs.YtofabikjjkapmaaGreat

/-- one more than the last place below k with a level of more than 1; 0 if there is none -/
def pN (t : List Nat) : Nat → Nat
  | 0 => 0
  | k + 1 => bif Nat.ble (t.getD k 0) 1 then pN t k else k + 1
def fillF (t : List Nat) (d : Nat) : Nat → Nat → List Nat
  | 0, _ => t
  | m + 1, i => fillF (t.set i (t.getD (i - d) 0)) d m (i + 1)
/-- the next smaller list -/
def succT (t : List Nat) : Option (List Nat) := match pN t t.length with
  | 0 => none
  | p + 1 => some (fillF t (p - (parN t (t.getD p 0) p - 1)) (t.length - p) p)
def treesF : Nat → List Nat → List (List Nat)
  | 0, _ => []
  | f + 1, t => t :: match succT t with
    | none => []
    | some t' => treesF f t'
/-- all trees with n nodes, in order -/
def treesN (n : Nat) : List (List Nat) := treesF 200 (List.range n)

def okT (n : Nat) : Bool := Nat.ble (treesN n).length 115 && (treesN n).all fun t => Nat.beq t.length n && (lvl t && (match canO 9 t with | none => false | some r => eqN r t) &&
  match pN t t.length with
    | 0 => true
    | p + 1 => Nat.blt 0 (parN t (t.getD p 0) p))
theorem okT_8 : (List.range 8).all (fun n => okT (n + 1)) = true := by decide +kernel
theorem treesN_at {n : Nat} (h1 : 1 ≤ n) (h8 : n ≤ 8) : (treesN n).length ≤ 115 ∧ ∀ t ∈ treesN n, t.length = n ∧ lvl t = true ∧ canO 9 t = some t ∧ ∀ p, pN t t.length = p + 1 → 0 < parN t (t.getD p 0) p := by
  have h := okT_8
  rw [List.all_eq_true] at h
  have h2 := h (n - 1) (List.mem_range.2 (by omega))
  rw [show n - 1 + 1 = n by omega, okT] at h2
  simp only [Bool.and_eq_true, List.all_eq_true] at h2
  refine ⟨Nat.le_of_ble_eq_true h2.1, fun t ht => ?_⟩
  obtain ⟨a, ⟨b, c⟩, d⟩ := h2.2 t ht
  refine ⟨Nat.eq_of_beq_eq_true a, b, ?_, fun p hp => ?_⟩
  · cases hc : canO 9 t with
    | none => rw [hc] at c; cases c
    | some r => rw [hc] at c; rw [eqN_iff.1 c]
  · rw [hp] at d
    simpa using d
end Go.Proofs.YtofabikjjkapmaaGreat

set_option maxRecDepth 100000
set_option linter.unusedVariables false
set_option linter.unusedSimpArgs false
namespace Go.Proofs.YtofabikjjkapmaaGreat
open Go.RowKit

theorem Grow.refl (w : World) (v : Value) : Grow w w v v := ⟨World.grownBy.refl _ _, .inl rfl⟩
theorem Grow.of_below {w w' : World} {v : Value} (h : Below w.heap.size w w') : w.grownBy w' v.ownBlock := ⟨h.os, h.tape, h.output, h.size, fun k hk _ => h.block k hk⟩
theorem Grow.trans {w w1 w2 : World} {v v1 v2 : Value} (h : Grow w w1 v v1) (h' : Grow w1 w2 v1 v2) : Grow w w2 v v2 := by
  refine ⟨⟨h'.1.os.trans h.1.os, h'.1.tape.trans h.1.tape, h'.1.output.trans h.1.output, Nat.le_trans h.1.size h'.1.size, fun k hk hne => ?_⟩, ?_⟩
  · refine (h'.1.block k (Nat.lt_of_lt_of_le hk h.1.size) ?_).trans (h.1.block k hk hne)
    rcases h.2 with h2 | ⟨g, h2, h3⟩
    · rw [h2]; exact hne
    · rw [h2]; intro e; injection e with e; omega
  · rcases h'.2 with h3 | ⟨g, h3, h4⟩
    · rw [h3]; exact h.2
    · exact .inr ⟨g, h3, Nat.le_trans h.1.size h4⟩
theorem Grow.pre {w w1 w2 : World} {v v2 : Value} (hb : Below w.heap.size w w1) (h : Grow w1 w2 v v2) : Grow w w2 v v2 := Grow.trans ⟨Grow.of_below hb, .inl rfl⟩ h

end Go.Proofs.YtofabikjjkapmaaGreat

set_option maxRecDepth 100000
set_option linter.unusedVariables false
set_option linter.unusedSimpArgs false
namespace Go.Proofs.YtofabikjjkapmaaGreat
open Go.RowKit

end Go.Proofs.YtofabikjjkapmaaGreat

set_option maxRecDepth 100000
set_option linter.unusedVariables false
set_option linter.unusedSimpArgs false
namespace Go.Proofs.YtofabikjjkapmaaGreat
open Go.RowKit

/-- the list that is grafted -/
def graL (u : List Nat) (node : Nat) (v : List Nat) : List Nat := u.take (endN u node) ++ (v.map fun x => u.getD node 0 + 1 + x) ++ u.drop (endN u node)
theorem w64_in' (n : Int) (h : -9223372036854775808 ≤ n ∧ n ≤ 9223372036854775807) : wrap64 n = n := by unfold wrap64; omega

end Go.Proofs.YtofabikjjkapmaaGreat

