/- Walks: equality of lists and of lists of lists, of the library and of the reference. | Walks: isSuperfluous, the predicate of freeTreesOf, of the program. | Walks: slices.BinarySearchFunc at trees, indexIn of the program; l03Find of the reference. | Walks: slices.CompareFunc at forests; words for structs of two lists and a count. | slices.SortFunc at partitions: laid. | Walks: the comparison of partitions; slices.SortFunc at partitions. | Plain: a canonical tree cut up above the nodes of a mask: the program's pieces and skeleton and the reference's are made from the same lists. | Walks: masks: l16Mask of the reference, isCutMask of the program. | Walks: isCutMask, checkCutMask of the program; l16Code of the reference. | Walks: isCutMask, checkCutMask of the program. | Plain: what holds of the program's state while it cuts a tree up. | Plain: the trees of at most eight nodes, cut up: the kernel looks at all of them. First part. | Plain: the trees of at most eight nodes, cut up: the kernel looks at all of them. Second part. | Plain: the trees of at most eight nodes, cut up: put together. | A region that draws its order and stores at its end what it has loaded: those loads may be taken first. No program in sight. | Steps in a region that draws: append of one element, of a list, make. No program in sight. | Walk: cutUp of the program. | Plain: lists of partitions of one's own whose rows lie apart, across the partitions too. No walk. | A region that draws its order, whose operations yield one value each in every world of a class S, and leave a world of S: one walk in the order of the text. No program in sight. | The laws' equality, marking and holding of partitions. -/
import Derived.Test.YtofabikjjkapmaaLf2
import Derived.Test.YtofabikjjkapmaaLf5
import Derived.Test.YtofabikjjkapmaaLf4
import Derived.Shelf.SlSortCmp.WholeK
import Derived.Shelf.SlSortCmp.NoneTotal
import Derived.Shelf.SlGeneric
import Derived.Ground.SlsfProg
import Derived.OrdersHeld
import Derived.RegionTactic
import Derived.Deep.RegionHeld
import Derived.Deep.CutRange
import Derived.Deep.DeepCutAuto
import Derived.BigQuiet
import Derived.Below
import Derived.Deep.RegionLaw
set_option maxRecDepth 100000
set_option linter.unusedVariables false
set_option linter.unusedSimpArgs false
namespace Go.Proofs.Ytofabikjjkapmaa
open Go.RowKit

set_option maxHeartbeats 400000 in
theorem s_l01Same (w : World) (a b : Value) (xs ys : List Int) (ha : Ints w a xs) (hb : Ints w b ys) :
    Calls Try.prog 70 #[a, b] w fun e w' => e = .returned (.bool (decide (xs = ys))) ∧ ∃ n, w' = w.drewN n := by
  obtain ⟨A, c, rfl, h1, h2, h3⟩ := ha.open_
  obtain ⟨B, d, rfl, g1, g2, g3⟩ := hb.open_
  clear ha hb
  have H3 := Lib.hid h3
  have G3 := Lib.hid g3
  clear h3 g3
  by_cases hl : xs.length = ys.length
  · have hl' : (((xs.length : Nat) : Int) != ((ys.length : Nat) : Int)) = false := by simp [hl]
    have HL := Lib.hid hl
    clear hl
    have g4 : ys.length ≤ xs.length := by rw [HL.out]; omega
    have g5 : xs.length ≤ ys.length := by rw [HL.out]; omega
    go_enter Try.func70, Try.ntmps70
    go_wp2
    go_loopw [5] (fun i wr => ∃ k n : Nat, k ≤ xs.length ∧ i = .int .i64 k ∧ xs.take k = ys.take k ∧ wr = w.drewN n) (fun i _ => xs.length - (intOf i).toNat)
    case atStart => exact ⟨0, 0, Nat.zero_le _, rfl, rfl, rfl⟩
    case round =>
      obtain ⟨k, n, hk, rfl, ht, rfl⟩ := hrel
      have HT := Lib.hid ht
      clear ht
      by_cases hlt : k < xs.length
      · obtain ⟨ad, z, rfl, hz, hz2, hc⟩ := H3.out k hlt
        obtain ⟨ad', y, rfl, hy, hy2, hc'⟩ := G3.out k (by omega)
        have HZ := Lib.hid hz
        have HY := Lib.hid hy
        clear hz hy hz2 hy2
        go_wp2
        go_quiet (fail)
        go_wp2
        · have hne : (z != y) = true := by assumption
          go_ret
          refine ⟨ret_bool ?_, _, World.drewN_drewN _ _ _⟩
          symm
          simp only [decide_eq_false_iff_not]
          rintro rfl
          have := HZ.out.symm.trans HY.out
          simp at this hne
          exact hne this
        · have hne : (z != y) = false := by assumption
          go_roundw
          case rel => exact ⟨k + 1, _, by omega, by go_num, take_eq_succ HT.out HZ.out HY.out (by simpa using hne), rfl⟩
          case measure => simp [intOf]; omega
      · have : k = xs.length := by omega
        subst this
        go_wp2
        go_ret
        refine ⟨ret_bool ?_, _, rfl⟩
        have e := HT.out
        rw [List.take_length, List.take_of_length_le (by omega)] at e
        simp [e]
  · have hl' : (((xs.length : Nat) : Int) != ((ys.length : Nat) : Int)) = true := by simp; omega
    have HL := Lib.hid hl
    clear hl
    go_enter Try.func70, Try.ntmps70
    go_wp2
    go_ret
    refine ⟨ret_bool ?_, 0, rfl⟩
    have := HL.out
    symm
    simp only [decide_eq_false_iff_not]
    rintro rfl
    exact this rfl

end Go.Proofs.Ytofabikjjkapmaa

set_option maxRecDepth 100000
set_option linter.unusedVariables false
set_option linter.unusedSimpArgs false
namespace Go.Proofs.Ytofabikjjkapmaa
open Go.RowKit

end Go.Proofs.Ytofabikjjkapmaa

set_option maxRecDepth 100000
set_option linter.unusedVariables false
set_option linter.unusedSimpArgs false
namespace Go.Proofs.Ytofabikjjkapmaa
open Go.RowKit

end Go.Proofs.Ytofabikjjkapmaa

set_option maxRecDepth 100000
set_option linter.unusedVariables false
set_option linter.unusedSimpArgs false
namespace Go.Proofs.Ytofabikjjkapmaa
open Go.RowKit Go.Sort Go.Shelf

/-- a field that points to memory of its own -/
structure Fld (α : Type) where
  P : World → Nat → Value → α → Prop
  one : ∀ {w B u x}, P w B u x → u.oneCell' = true
  below : ∀ {w w' B u x}, P w B u x → Below w.heap.size w w' → P w' B u x
  mono : ∀ {w B B' u x}, P w B u x → B' ≤ B → P w B' u x
  kept : ∀ {w w' B u x} {e : TypeId} {v : Value}, P w B u x → w.grownBy w' v.ownBlock → BT w e v → tI ≠ e → tL ≠ e → P w' B u x
theorem LA.keptE {w w' : World} {B : Nat} {u v : Value} {e : TypeId} {xss : List (List Int)} (h : LA w B u xss) (hg : w.grownBy w' v.ownBlock) (hb : BT w e v) (h1 : tI ≠ e) (h2 : tL ≠ e) : LA w' B u xss := by
  obtain ⟨vs, a, b, c⟩ := h
  exact ⟨vs, a.kept hg (a.bt.ne hb h2), ⟨b.1, fun k u zs hu hz => (b.2 k u zs hu hz).kept hg ((b.2 k u zs hu hz).1.bt.ne hb h1)⟩, c⟩
def fldR : Fld (List (List Nat)) where
  P w B u x := LA w B u (x.map up)
  one h := by
    obtain ⟨A, c, rfl, -⟩ := h.rows.open_
    cases A <;> rfl
  below h hb := h.below hb
  mono h hB := h.mono hB
  kept h hg hb h1 h2 := h.keptE hg hb h1 h2
def fldI : Fld (List Nat) where
  P w B u x := OwnInts w B tI u (up x)
  one h := by
    obtain ⟨A, c, rfl, -⟩ := h.ints.open_
    cases A <;> rfl
  below h hb := h.below hb
  mono h hB := h.mono hB
  kept h hg hb h1 _ := h.kept hg (h.1.bt.ne hb h1)
section
variable {α β : Type}
/-- two fields and a count -/
def elt3 (F : Fld α) (G : Fld β) : Elt ((α × β) × Nat) where
  k := 3
  D w B c x := ∃ u s, c = [u, s, .int .i64 (x.2 : Nat)] ∧ F.P w B u x.1.1 ∧ G.P w B s x.1.2
  len h := by obtain ⟨u, s, rfl, -, -⟩ := h; rfl
  one h := by
    obtain ⟨u, s, rfl, h1, h2⟩ := h
    intro v hv
    simp at hv
    rcases hv with rfl | rfl | rfl
    · exact F.one h1
    · exact G.one h2
    · rfl
  below h hb := by obtain ⟨u, s, rfl, h1, h2⟩ := h; exact ⟨u, s, rfl, F.below h1 hb, G.below h2 hb⟩
  mono h hB := by obtain ⟨u, s, rfl, h1, h2⟩ := h; exact ⟨u, s, rfl, F.mono h1 hB, G.mono h2 hB⟩
  kept h hg hb h1' h2' := by obtain ⟨u, s, rfl, h1, h2⟩ := h; exact ⟨u, s, rfl, F.kept h1 hg hb h1' h2', G.kept h2 hg hb h1' h2'⟩
/-- .. where the count is n -/
def elt2 (F : Fld α) (G : Fld β) (n : Nat) : Elt (α × β) where
  k := 3
  D w B c x := (elt3 F G).D w B c (x, n)
  len h := (elt3 F G).len h
  one h := (elt3 F G).one h
  below h hb := (elt3 F G).below h hb
  mono h hB := (elt3 F G).mono h hB
  kept h hg hb h1 h2 := (elt3 F G).kept h hg hb h1 h2
end

end Go.Proofs.Ytofabikjjkapmaa

set_option maxRecDepth 100000
namespace Go.Proofs
open Go.Shelf Go.RowKit Go.Lib Go.Sort
def Try.psort_ren : Go.Shelf.Ren := ⟨fun | 6 => 62 | 15 => 87 | 14 => 86 | 28 => 103 | 29 => 104 | 20 => 95 | 21 => 96 | 22 => 97 | 23 => 98 | 24 => 99 | 25 => 100 | 26 => 101 | 27 => 102 | 46 => 123 | 47 => 124 | 48 => 125 | 49 => 126 | 50 => 127 | 57 => 135 | n => n, fun | 22 => 35 | 24 => 57 | 25 => 76 | 3 => 3 | 39 => 97 | 0 => 0 | 53 => 113 | 55 => 68 | 4 => 4 | 46 => 106 | 45 => 105 | 50 => 110 | 5 => 5 | 9 => 9 | 66 => 126 | 70 => 130 | 76 => 136 | 77 => 137 | n => n, fun | n => n⟩
theorem Try.psort : Go.Proofs.SlLaysF0.n6 Try.prog Try.psort_ren := {
  mixed := by kernel_rfl
  f6 := ⟨Try.f62.name, by decide, Try.func62.trans (congrArg some (by kernel_rfl))⟩
  f14 := ⟨Try.f86.name, by decide, Try.func86.trans (congrArg some (by kernel_rfl))⟩
  f15 := Try.func87.trans (congrArg some (by kernel_rfl))
  f20 := ⟨Try.f95.name, by decide, Try.func95.trans (congrArg some (by kernel_rfl))⟩
  f21 := ⟨Try.f96.name, by decide, Try.func96.trans (congrArg some (by kernel_rfl))⟩
  f22 := ⟨Try.f97.name, by decide, Try.func97.trans (congrArg some (by kernel_rfl))⟩
  f23 := ⟨Try.f98.name, by decide, Try.func98.trans (congrArg some (by kernel_rfl))⟩
  f24 := ⟨Try.f99.name, by decide, Try.func99.trans (congrArg some (by kernel_rfl))⟩
  f25 := ⟨Try.f100.name, by decide, Try.func100.trans (congrArg some (by kernel_rfl))⟩
  f26 := ⟨Try.f101.name, by decide, Try.func101.trans (congrArg some (by kernel_rfl))⟩
  f27 := ⟨Try.f102.name, by decide, Try.func102.trans (congrArg some (by kernel_rfl))⟩
  f28 := Try.func103.trans (congrArg some (by kernel_rfl))
  f29 := Try.func104.trans (congrArg some (by kernel_rfl))
  f46 := ⟨Try.f123.name, by decide, Try.func123.trans (congrArg some (by kernel_rfl))⟩
  f47 := Try.func124.trans (congrArg some (by kernel_rfl))
  f48 := Try.func125.trans (congrArg some (by kernel_rfl))
  f49 := ⟨Try.f126.name, by decide, Try.func126.trans (congrArg some (by kernel_rfl))⟩
  f50 := ⟨Try.f127.name, by decide, Try.func127.trans (congrArg some (by kernel_rfl))⟩
  f57 := ⟨Try.f135.name, by decide, Try.func135.trans (congrArg some (by kernel_rfl))⟩
  t0 := Try.underlying0
  a0 := Try.isAgg0
  z0 := Try.sizeOf0
  v0 := Try.zeroValue0
  t3 := Try.underlying3
  a3 := Try.isAgg3
  z3 := Try.sizeOf3
  v3 := Try.zeroValue3
  t4 := Try.underlying4
  a4 := Try.isAgg4
  z4 := Try.sizeOf4
  v4 := Try.zeroValue4
  t5 := Try.underlying5
  a5 := Try.isAgg5
  z5 := Try.sizeOf5
  v5 := Try.zeroValue5
  t9 := Try.underlying9
  a9 := Try.isAgg9
  z9 := Try.sizeOf9
  v9 := Try.zeroValue9
  t22 := Try.underlying35
  a22 := Try.isAgg35
  z22 := Try.sizeOf35
  v22 := Try.zeroValue35
  t25 := Try.underlying76
  a25 := Try.isAgg76
  z25 := Try.sizeOf76
  v25 := Try.zeroValue76
  t39 := Try.underlying97
  a39 := Try.isAgg97
  z39 := Try.sizeOf97
  v39 := Try.zeroValue97
  t45 := Try.underlying105
  a45 := Try.isAgg105
  z45 := Try.sizeOf105
  v45 := Try.zeroValue105
  t46 := Try.underlying106
  a46 := Try.isAgg106
  z46 := Try.sizeOf106
  v46 := Try.zeroValue106
  t50 := Try.underlying110
  a50 := Try.isAgg110
  z50 := Try.sizeOf110
  v50 := Try.zeroValue110
  t53 := Try.underlying113
  a53 := Try.isAgg113
  z53 := Try.sizeOf113
  v53 := Try.zeroValue113
  t55 := Try.underlying68
  a55 := Try.isAgg68
  z55 := Try.sizeOf68
  v55 := Try.zeroValue68
  t66 := Try.underlying126
  a66 := Try.isAgg126
  z66 := Try.sizeOf126
  v66 := Try.zeroValue126
  t70 := Try.underlying130
  a70 := Try.isAgg130
  z70 := Try.sizeOf130
  v70 := Try.zeroValue130
  t76 := Try.underlying136
  a76 := Try.isAgg136
  z76 := Try.sizeOf136
  v76 := Try.zeroValue136
  t77 := Try.underlying137
  a77 := Try.isAgg137
  z77 := Try.sizeOf137
  v77 := Try.zeroValue137 }
end Go.Proofs

set_option maxRecDepth 100000
set_option linter.unusedVariables false
set_option linter.unusedSimpArgs false
namespace Go.Proofs.Ytofabikjjkapmaa
open Go.RowKit Go.Sort Go.Shelf

abbrev tPt : TypeId := 57
/-- pieces and skeleton -/
abbrev PK := List (List Nat) × List Nat
abbrev ePt (n : Nat) : Elt PK := elt2 fldR fldI n
end Go.Proofs.Ytofabikjjkapmaa

set_option linter.unusedVariables false
set_option linter.unusedSimpArgs false
set_option maxRecDepth 100000
namespace Go.Proofs.Ytofabikjjkapmaa

/-- what the program knows of the nodes so far: the neighbours in the pieces, the piece of each node, the pieces' roots, the joints -/
structure CutS where
  near : List (List Nat)
  top : List Nat
  tops : List Nat
  bet : List (Nat × Nat)
def cutStep (mask : Nat) (s : CutS) (i p : Nat) : CutS :=
  match p with
  | 0 => ⟨s.near, s.top.set i s.tops.length, s.tops ++ [i], s.bet⟩
  | k + 1 => bif mask.testBit i then ⟨s.near, s.top.set i s.tops.length, s.tops ++ [i], s.bet ++ [(s.top.getD k 0, s.tops.length)]⟩
    else ⟨addAt i k (addAt k i s.near), s.top.set i (s.top.getD k 0), s.tops, s.bet⟩
end Go.Proofs.Ytofabikjjkapmaa

set_option maxRecDepth 100000
set_option linter.unusedVariables false
set_option linter.unusedSimpArgs false
namespace Go.Proofs.Ytofabikjjkapmaa
open Go.RowKit

end Go.Proofs.Ytofabikjjkapmaa

set_option maxRecDepth 100000
set_option linter.unusedVariables false
set_option linter.unusedSimpArgs false
namespace Go.Proofs.Ytofabikjjkapmaa
open Go.RowKit

end Go.Proofs.Ytofabikjjkapmaa

set_option maxRecDepth 100000
set_option linter.unusedVariables false
set_option linter.unusedSimpArgs false
namespace Go.Proofs.Ytofabikjjkapmaa
open Go.RowKit

end Go.Proofs.Ytofabikjjkapmaa

set_option linter.unusedVariables false
set_option linter.unusedSimpArgs false
namespace Go.Proofs.Ytofabikjjkapmaa

structure CI (n j : Nat) (s : CutS) : Prop where
  near : NB s.near (2 * j) n
  top : s.top.length = n ∧ ∀ x ∈ s.top, x ≤ s.tops.length
  tops : s.tops.length ≤ j ∧ ∀ x ∈ s.tops, x < n
  bet : s.bet.length ≤ j ∧ ∀ p ∈ s.bet, p.1 < s.tops.length ∧ p.2 < s.tops.length
theorem CI.topLe {n j : Nat} {s : CutS} (h : CI n j s) (k : Nat) : s.top.getD k 0 ≤ s.tops.length := by
  cases hx : s.top[k]? with
  | none => simp [List.getD, hx]
  | some x => have := h.top.2 x (List.mem_of_getElem? hx); simpa [List.getD, hx] using this
theorem CI.step {n j P mask : Nat} {s : CutS} (h : CI n j s) (hj : j < n) (hP : P ≤ j) : CI n (j + 1) (cutStep mask s j P) := by
  have hnew : ∀ x ∈ s.top.set j s.tops.length, x ≤ (s.tops ++ [j]).length := by
    intro x hx
    rcases List.mem_or_eq_of_mem_set hx with hx | hx
    · have := h.top.2 x hx; simp; omega
    · simp [hx]
  have htops : (s.tops ++ [j]).length ≤ j + 1 ∧ ∀ x ∈ s.tops ++ [j], x < n := by
    refine ⟨by have := h.tops.1; simp; omega, fun x hx => ?_⟩
    rcases List.mem_append.1 hx with hx | hx
    · exact h.tops.2 x hx
    · simp at hx; omega
  cases P with
  | zero =>
    exact ⟨h.near.mono (by omega), ⟨by simp [cutStep, h.top.1], hnew⟩, htops, ⟨by have := h.bet.1; show s.bet.length ≤ _; omega, fun p hp => by have := h.bet.2 p hp; simp [cutStep]; omega⟩⟩
  | succ k =>
    rw [cutStep]
    cases mask.testBit j with
    | true =>
      refine ⟨h.near.mono (by omega), ⟨by simp [h.top.1], hnew⟩, htops, ⟨by have := h.bet.1; simp; omega, fun p hp => ?_⟩⟩
      simp only [cond_true, List.length_append, List.length_singleton] at hp ⊢
      rcases List.mem_append.1 hp with hp | hp
      · have := h.bet.2 p hp; omega
      · simp at hp
        have := h.topLe k
        subst hp
        simp only [List.getD_eq_getElem?_getD] at this
        exact ⟨by simpa using Nat.lt_succ_of_le this, by simp⟩
    | false =>
      refine ⟨((h.near.add (x := k) (i := j) (by omega)).add (x := j) (i := k) hj).mono (by omega), ⟨by simp [h.top.1], fun x hx => ?_⟩, ⟨by have := h.tops.1; simp; omega, h.tops.2⟩, ⟨by have := h.bet.1; simp; omega, h.bet.2⟩⟩
      rcases List.mem_or_eq_of_mem_set hx with hx | hx
      · exact h.top.2 x hx
      · rw [hx]; exact h.topLe k
end Go.Proofs.Ytofabikjjkapmaa

set_option maxRecDepth 100000
namespace Go.Proofs.Ytofabikjjkapmaa
end Go.Proofs.Ytofabikjjkapmaa

set_option maxRecDepth 100000
namespace Go.Proofs.Ytofabikjjkapmaa
end Go.Proofs.Ytofabikjjkapmaa

set_option linter.unusedVariables false
set_option linter.unusedSimpArgs false
set_option maxRecDepth 100000
namespace Go.Proofs.Ytofabikjjkapmaa

end Go.Proofs.Ytofabikjjkapmaa

set_option linter.unusedVariables false
set_option linter.unusedSimpArgs false
namespace Go.Proofs.Ytofabikjjkapmaa
open Go

section
variable {P : Program} {ops : Array Oper} {Q : Exit → Act → World → Prop} {md : Region.Mode} {S : Bool → World → Prop} {k : Nat}

/-- whatever order comes: 'S false' holds of the worlds ahead of operation k, 'S true' of those behind it -/
def AnyT (P : Program) (md : Region.Mode) (ops : Array Oper) (Q : Exit → Act → World → Prop) (S : Bool → World → Prop) (k : Nat) : Nat → Array Bool → Act → World → Prop
  | 0, L, a, w => Region.ready md ops L = [] ∧ Q .normal a w
  | f + 1, L, a, w => (Region.ready md ops L = [] → Q .normal a w) ∧
      ∀ i ∈ Region.ready md ops L, wpOp P ops Q i (fun a' w' => S ((L.setIfInBounds i true).getD k true) w' ∧ AnyT P md ops Q S k f (L.setIfInBounds i true) a' w') a w

theorem AnyT.any : ∀ (f : Nat) (L : Array Bool) (a : Act) (w : World), AnyT P md ops Q S k f L a w → wpAny P md ops Q f L a w
  | 0, _, _, _, h => h
  | f + 1, _, _, _, h => ⟨h.1, fun i hi => wpOp_mono (fun a' w' h' => AnyT.any f _ a' w' h'.2) (h.2 i hi)⟩

theorem AnyT.first {i : Nat} {oi : Oper} {v : Value} {U : World → Prop} {G : Array Bool → Prop} (hi : ops[i]? = some oi)
    (hsel : ∀ (j : Nat) (o : Oper) cs b, ops[j]? = some o → o.op ≠ .select cs b)
    (hQ : ∀ c a w, Q (.panic c) (a.put oi.dst v) w → Q (.panic c) a w) (hik : i ≠ k)
    (hG : ∀ (L : Array Bool) (j : Nat), G L → i ∈ Region.ready md ops L → j ∈ Region.ready md ops L → j ≠ i → G (L.setIfInBounds j true))
    (hU : ∀ (L : Array Bool) (w : World), G L → S (L.getD k true) w → U w) :
    ∀ (f : Nat) (L : Array Bool) (a : Act) (w : World),
      (∀ j oj, ops[j]? = some oj → j ≠ i → L.getD j true = false → (∀ e ∈ oj.after, Region.binds md e = true → e.on ≠ i) → oi.apart ops oj = true) →
      i ∈ Region.ready md ops L → G L → YieldsIf P ops U oi v a → S (L.getD k true) w →
      AnyT P md ops Q S k f (L.setIfInBounds i true) (a.put oi.dst v) w → AnyT P md ops Q S k (f + 1) L a w := by
  have hkeep : ∀ (L : Array Bool), (L.setIfInBounds i true).getD k true = L.getD k true := fun L => getD_set_ne true hik
  intro f
  induction f with
  | zero =>
    intro L a w _ hr g hy hS H
    refine ⟨fun h => (by rw [h] at hr; cases hr), fun j hj => ?_⟩
    by_cases hji : j = i
    · subst hji
      exact hy.wpOp hi (hU L w g hS) ⟨by rw [hkeep]; exact hS, H⟩
    · have h1 := ready_mono hj hji
      rw [H.1] at h1
      cases h1
  | succ f ih =>
    intro L a w hfree hr g hy hS H
    refine ⟨fun h => (by rw [h] at hr; cases hr), fun j hj => ?_⟩
    by_cases hji : j = i
    · subst hji
      exact hy.wpOp hi (hU L w g hS) ⟨by rw [hkeep]; exact hS, H⟩
    · obtain ⟨hjun, oj, hoj, hall⟩ := mem_ready.1 hj
      have hiun := (mem_ready.1 hr).1
      have hnot : ∀ e ∈ oj.after, Region.binds md e = true → e.on ≠ i := fun e he hb heq => by
        have h1 := hall e he hb
        rw [heq] at h1
        rcases Nat.lt_or_ge i L.size with h' | h'
        · simp [h'] at hiun h1; rw [hiun] at h1; cases h1
        · simp [Array.getElem?_eq_none h'] at h1
      have h2 := wpOp_putIf hoj (hfree j oj hoj hji hjun hnot) (fun cs b => hsel i oi cs b hi) (fun cs b => hsel j oj cs b hoj) hQ hy (H.2 j (ready_mono hj hji))
      refine wpOp_mono (fun a' w' h3 => ?_) h2
      have e : (L.setIfInBounds i true).setIfInBounds j true = (L.setIfInBounds j true).setIfInBounds i true := Array.setIfInBounds_comm _ _ (Ne.symm hji)
      obtain ⟨hy', hS', H'⟩ := h3
      rw [e] at H'
      rw [e, hkeep] at hS'
      refine ⟨hS', ih (L.setIfInBounds j true) a' w' (fun m om hm hmi hun hno => hfree m om hm hmi ?_ hno) (ready_mono hr (Ne.symm hji)) (hG L j g hr hj hji) hy' hS' H'⟩
      by_cases hjm : j = m
      · subst hjm; exact hjun
      · rw [getD_set_ne true hjm] at hun; exact hun

/-- each of the operations rs comes next -/
def AllT (P : Program) (md : Region.Mode) (ops : Array Oper) (Q : Exit → Act → World → Prop) (S : Bool → World → Prop) (k : Nat) (f : Nat) (L : Array Bool) (a : Act) (w : World) (rs : List Nat) : Prop :=
  ∀ i ∈ rs, wpOp P ops Q i (fun a' w' => S ((L.setIfInBounds i true).getD k true) w' ∧ AnyT P md ops Q S k f (L.setIfInBounds i true) a' w') a w
theorem AllT.nil {f : Nat} {L : Array Bool} {a : Act} {w : World} : AllT P md ops Q S k f L a w [] := fun _ h => by cases h
theorem AllT.cons {f : Nat} {L : Array Bool} {a : Act} {w : World} {i : Nat} {o : Oper} {rs : List Nat} (ho : ops[i]? = some o)
    (h : ∀ K' : Act → World → Prop, Shut (∀ a w, S ((L.setIfInBounds i true).getD k true) w → (S ((L.setIfInBounds i true).getD k true) w → AnyT P md ops Q S k f (L.setIfInBounds i true) a w) → K' a w) →
      if Region.wanted o (yielded ops a.tmps) = true then Oper.wp P o a w K' Q else K' (a.put o.dst undef) w)
    (hs : AllT P md ops Q S k f L a w rs) : AllT P md ops Q S k f L a w (i :: rs) := fun j hj => by
  rcases List.mem_cons.1 hj with rfl | hj
  · exact wpOp_step ho (fun K' hK => h K' (fun a w hS hW => hK a w ⟨hS, hW hS⟩))
  · exact hs j hj
end
end Go.Proofs.Ytofabikjjkapmaa

set_option maxRecDepth 100000
set_option linter.unusedVariables false
set_option linter.unusedSimpArgs false
namespace Go.Proofs.Ytofabikjjkapmaa
open Go.RowKit

end Go.Proofs.Ytofabikjjkapmaa

set_option maxRecDepth 100000
set_option linter.unusedVariables false
set_option linter.unusedSimpArgs false
namespace Go.Proofs.Ytofabikjjkapmaa
open Go.RowKit

abbrev tP2 : TypeId := 93
def pairC (p : Nat × Nat) : List Value := [.int .i64 (p.1 : Int), .int .i64 (p.2 : Int)]

theorem BT.ne_blk {w : World} {e t : TypeId} {v : Value} {p : Nat} {cs : Array Value} (h : BT w e v) (hk : Blk w p t cs) (hne : e ≠ t) : v.ownBlock ≠ some p := by
  intro hb
  rcases h with h | ⟨g, cur, fz, h, hg⟩
  · rw [h] at hb; cases hb
  · rw [h] at hb
    injection hb with hb
    subst hb
    have h2 : w.heap[g]? = some (.cells cs t (0, 0)) := hk
    rw [hg] at h2
    injection h2 with h2
    injection h2 with _ h2
    exact hne h2
theorem Blk.kept {w w' : World} {p : Nat} {t : TypeId} {cs : Array Value} {row : Option Nat} (h : Blk w p t cs) (hg : w.grownBy w' row) (hne : row ≠ some p) : Blk w' p t cs :=
  (hg.block p h.lt (fun e => hne e.symm)).trans h
theorem RR.keptBT {w w' : World} {B : Nat} {vs : List Value} {xss : List (List Int)} {v : Value} {e : TypeId} (h : RR w B vs xss) (hg : w.grownBy w' v.ownBlock) (hb : BT w e v) (hne : tI ≠ e) : RR w' B vs xss :=
  ⟨h.1, fun k u zs hu hz => (h.2 k u zs hu hz).kept hg ((h.2 k u zs hu hz).1.bt.ne hb hne)⟩
/-- what is read only: the pieces, the joints -/
structure Psg (w : World) (B B2 : Nat) (pv : Value) (vp : List Value) (pcs : List (List Nat)) (bv : Value) (bs : List (Nat × Nat)) : Prop where
  po : Own w B tL pv vp
  pr : RR w B vp (pcs.map up)
  pk : OwnK w B2 tP2 2 bv (bs.map pairC)
theorem Psg.below {w w' : World} {B B2 : Nat} {pv bv : Value} {vp : List Value} {pcs : List (List Nat)} {bs : List (Nat × Nat)} (h : Psg w B B2 pv vp pcs bv bs) (hb : Below w.heap.size w w') : Psg w' B B2 pv vp pcs bv bs := ⟨h.po.below hb, h.pr.below hb, h.pk.below hb⟩
theorem Psg.kept {w w' : World} {B B2 : Nat} {pv bv : Value} {vp : List Value} {pcs : List (List Nat)} {bs : List (Nat × Nat)} {v : Value} {e : TypeId} (h : Psg w B B2 pv vp pcs bv bs) (hg : w.grownBy w' v.ownBlock) (hb : BT w e v) (h1 : tL ≠ e) (h2 : tI ≠ e) (h3 : tP2 ≠ e) : Psg w' B B2 pv vp pcs bv bs :=
  ⟨h.po.kept hg (h.po.bt.ne hb h1), h.pr.keptBT hg hb h2, h.pk.kept hg (h.pk.bt.ne hb h3)⟩

end Go.Proofs.Ytofabikjjkapmaa

set_option maxRecDepth 100000
set_option linter.unusedVariables false
set_option linter.unusedSimpArgs false
namespace Go.Proofs.Ytofabikjjkapmaa
open Go.RowKit Go.Sort Go.Shelf

/-- the rows of a partition that begins with these two cells: those of the pieces and the skeleton -/
def Ftp (w : World) (h : List Value) (us : List Value) : Prop := ∃ p s vs, h = [p, s] ∧ Own w 0 tL p vs ∧ us = vs ++ [s]
theorem Ftp.below {w w' : World} {h us : List Value} (a : Ftp w h us) (hb : Below w.heap.size w w') : Ftp w' h us := by
  obtain ⟨p, s, vs, h1, h2, h3⟩ := a
  exact ⟨p, s, vs, h1, h2.below hb, h3⟩
theorem Ftp.kept {w w' : World} {h us : List Value} {e : TypeId} {v : Value} (a : Ftp w h us) (hg : w.grownBy w' v.ownBlock) (hb : BT w e v) (h2 : tL ≠ e) : Ftp w' h us := by
  obtain ⟨p, s, vs, a1, a2, a3⟩ := a
  exact ⟨p, s, vs, a1, a2.kept hg (a2.bt.ne hb h2), a3⟩
/-- all rows of a partition lie apart -/
def InC (w : World) (h : List Value) : Prop := ∃ us, Ftp w h us ∧ us.Pairwise Apart
/-- the rows of two partitions lie apart -/
def ApC (w : World) (h h' : List Value) : Prop := ∃ us us', Ftp w h us ∧ Ftp w h' us' ∧ ∀ u ∈ us, ∀ u' ∈ us', Apart u u'
theorem ApC.symm {w : World} {h h' : List Value} (a : ApC w h h') : ApC w h' h := by
  obtain ⟨us, us', h1, h2, h3⟩ := a
  exact ⟨us', us, h2, h1, fun u hu u' hu' => (h3 u' hu' u hu).symm⟩
structure PtOk (w : World) (hs : List (List Value)) : Prop where
  one : ∀ h ∈ hs, InC w h
  two : hs.Pairwise (ApC w)
section
variable {w w' : World} {hs hs' : List (List Value)}
theorem PtOk.nil (w : World) : PtOk w [] := ⟨fun h hh => (by cases hh), List.Pairwise.nil⟩
theorem PtOk.below (h : PtOk w hs) (hb : Below w.heap.size w w') : PtOk w' hs :=
  ⟨fun x hx => (by obtain ⟨us, a, b⟩ := h.one x hx; exact ⟨us, a.below hb, b⟩), h.two.imp fun {a b} hh => by obtain ⟨us, us', h1, h2, h3⟩ := hh; exact ⟨us, us', h1.below hb, h2.below hb, h3⟩⟩
theorem PtOk.kept {e : TypeId} {v : Value} (h : PtOk w hs) (hg : w.grownBy w' v.ownBlock) (hb : BT w e v) (h2 : tL ≠ e) : PtOk w' hs :=
  ⟨fun x hx => (by obtain ⟨us, a, b⟩ := h.one x hx; exact ⟨us, a.kept hg hb h2, b⟩), h.two.imp fun {a b} hh => by obtain ⟨us, us', h1, h3, h4⟩ := hh; exact ⟨us, us', h1.kept hg hb h2, h3.kept hg hb h2, h4⟩⟩
theorem PtOk.snoc {x : List Value} (h : PtOk w hs) (h1 : InC w x) (h2 : ∀ y ∈ hs, ApC w y x) : PtOk w (hs ++ [x]) := by
  refine ⟨fun z hz => ?_, List.pairwise_append.2 ⟨h.two, List.pairwise_singleton _ _, fun y hy z hz => ?_⟩⟩
  · rcases List.mem_append.1 hz with hz | hz
    · exact h.one z hz
    · rw [List.mem_singleton.1 hz]; exact h1
  · rw [List.mem_singleton.1 hz]; exact h2 y hy
end
def hd2 (css : List (List Value)) : List (List Value) := css.map (List.take 2)
theorem hd2_snoc (css : List (List Value)) (c : List Value) : hd2 (css ++ [c]) = hd2 css ++ [c.take 2] := by simp [hd2]
/-- the rows of an element lie where it says -/
theorem ftp_of {w : World} {B n : Nat} {c : List Value} {x : PK} (h : (ePt n).D w B c x) : ∃ us, Ftp w (c.take 2) us ∧ ∀ u ∈ us, ∀ b, u.ownBlock = some b → B ≤ b ∧ b < w.heap.size := by
  obtain ⟨p, s, rfl, hp0, hs0⟩ := h
  have hp : LA w B p (x.1.map up) := hp0
  have hs : OwnInts w B tI s (up x.2) := hs0
  obtain ⟨vs, h1, h2, -⟩ := hp
  refine ⟨vs ++ [s], ⟨p, s, vs, rfl, h1.mono (Nat.zero_le _), rfl⟩, fun u hu b hb => ?_⟩
  rcases List.mem_append.1 hu with hu | hu
  · obtain ⟨k, hk, rfl⟩ := List.getElem_of_mem hu
    have hz : (x.1.map up)[k]? = some ((x.1.map up)[k]'(by rw [← h2.1]; exact hk)) := List.getElem?_eq_getElem _
    have ho := h2.2 k _ _ (List.getElem?_eq_getElem hk) hz
    exact ⟨ho.1.ge b hb, ho.1.lt b hb⟩
  · rw [List.mem_singleton.1 hu] at hb
    exact ⟨hs.1.ge b hb, hs.1.lt b hb⟩
/-- a partition that has just been made is put behind the others -/
theorem PtOk.push {w w' : World} {B n m : Nat} {css : List (List Value)} {xs : List PK} {c : List Value} {x : PK} (h : PtOk w (hd2 css)) (he : Elts (ePt n) w B css xs) (hb : Below w.heap.size w w') (hd : (ePt m).D w' w.heap.size c x) (hi : InC w' (c.take 2)) : PtOk w' (hd2 (css ++ [c])) := by
  rw [hd2_snoc]
  refine (h.below hb).snoc hi fun y hy => ?_
  obtain ⟨c', hc', rfl⟩ := List.mem_map.1 hy
  obtain ⟨i, hi', rfl⟩ := List.getElem_of_mem hc'
  have hx : xs[i]? = some (xs[i]'(by rw [← he.1]; exact hi')) := List.getElem?_eq_getElem _
  obtain ⟨us, h1, h2⟩ := ftp_of (he.2 i _ _ (List.getElem?_eq_getElem hi') hx)
  obtain ⟨us', h3, h4⟩ := ftp_of hd
  exact ⟨us, us', h1.below hb, h3, fun u hu u' hu' => apart_of_lt (B := w.heap.size) (fun b hb => (h2 u hu b hb).2) (fun b hb => (h4 u' hu' b hb).1)⟩
/-! ### as the law sees them -/
/-- a partition, as numbers: pieces, skeleton, count -/
abbrev PV := (List (List Int) × List Int) × Int
def pv (x : PK × Nat) : PV := ((x.1.1.map up, up x.1.2), (x.2 : Int))
/-- what can be read -/
def RdP (w : World) (v : Value) (ps : List PV) : Prop := ∃ A c, v = .slice A ps.length c ∧ ps.length ≤ 9223372036854775807 ∧
  ∀ (i : Nat) (q : PV), ps[i]? = some q → ∃ g p s, A = some ⟨g, 0, none⟩ ∧ w.cell? ⟨g, i * 3, none⟩ = some p ∧ w.cell? ⟨g, i * 3 + 1, none⟩ = some s ∧ w.cell? ⟨g, i * 3 + 2, none⟩ = some (.int .i64 q.2) ∧ Rows w p q.1.1 ∧ Ints w s q.1.2
theorem RdP.below {w w' : World} {v : Value} {ps : List PV} (h : RdP w v ps) (hb : Below w.heap.size w w') : RdP w' v ps := by
  obtain ⟨A, c, rfl, h1, h2⟩ := h
  refine ⟨A, c, rfl, h1, fun i q hq => ?_⟩
  obtain ⟨g, p, s, rfl, a1, a2, a3, a4, a5⟩ := h2 i q hq
  have hg := World.block_lt_of_cell? w _ a1
  exact ⟨g, p, s, rfl, by rw [hb.cell (by exact hg)]; exact a1, by rw [hb.cell (by exact hg)]; exact a2, by rw [hb.cell (by exact hg)]; exact a3, a4.below hb, a5.below hb⟩
/-- the values of a partition: its pieces, their rows, the skeleton -/
abbrev DV := Value × List Value × Value
def cellP (d : DV) (q : PV) : List Value := [d.1, d.2.2, .int .i64 q.2]
/-- a list of partitions of one's own, rows apart -/
structure OPD (w : World) (B C : Nat) (v : Value) (ds : List DV) (ps : List PV) : Prop where
  own : OwnK w B tPt 3 v (List.zipWith cellP ds ps)
  lt : ∀ b, v.ownBlock = some b → b < C
  len : ds.length = ps.length
  ge : B ≤ C
  at_ : ∀ (i : Nat) (d : DV) (q : PV), ds[i]? = some d → ps[i]? = some q → Own w B tL d.1 d.2.1 ∧ (∀ b, d.1.ownBlock = some b → b < C) ∧ RowsOwn w B C tI (d.2.1 ++ [d.2.2]) (q.1.1 ++ [q.1.2])
  apart : ∀ (i j : Nat) (d d' : DV), i ≠ j → ds[i]? = some d → ds[j]? = some d' → ∀ u ∈ d.2.1 ++ [d.2.2], ∀ u' ∈ d'.2.1 ++ [d'.2.2], Apart u u'
section
variable {w w' : World} {B C B' C' : Nat} {v : Value} {ds : List DV} {ps : List PV}
theorem RowsOwn.split {w : World} {B C : Nat} {e : TypeId} {vs : List Value} {s : Value} {xss : List (List Int)} {zs : List Int} (h : RowsOwn w B C e (vs ++ [s]) (xss ++ [zs])) : RowsOwn w B C e vs xss ∧ OI w B C e s zs ∧ ∀ (k : Nat) (u : Value), vs[k]? = some u → Apart u s := by
  have hl : vs.length = xss.length := by have := h.1; simpa using this
  refine ⟨⟨hl, fun k u z hu hz => ?_, fun i j u u' hij hu hu' => ?_⟩, ?_, fun k u hu => ?_⟩
  · exact h.2.1 k u z (by rw [List.getElem?_append_left (List.getElem?_eq_some_iff.1 hu).1]; exact hu) (by rw [List.getElem?_append_left (List.getElem?_eq_some_iff.1 hz).1]; exact hz)
  · exact h.2.2 i j u u' hij (by rw [List.getElem?_append_left (List.getElem?_eq_some_iff.1 hu).1]; exact hu) (by rw [List.getElem?_append_left (List.getElem?_eq_some_iff.1 hu').1]; exact hu')
  · exact h.2.1 vs.length s zs (by simp) (by rw [hl]; simp)
  · have hk := (List.getElem?_eq_some_iff.1 hu).1
    exact h.2.2 k vs.length u s hk (by rw [List.getElem?_append_left hk]; exact hu) (by simp)
theorem OPD.below (h : OPD w B C v ds ps) (hb : Below w.heap.size w w') : OPD w' B C v ds ps :=
  ⟨h.own.below hb, h.lt, h.len, h.ge, fun i d q hd hq => ⟨(h.at_ i d q hd hq).1.below hb, (h.at_ i d q hd hq).2.1, (h.at_ i d q hd hq).2.2.below hb⟩, h.apart⟩
theorem OPD.kept (h : OPD w B C v ds ps) (hc : Chg B' C' w w') (hd : C ≤ B' ∨ C' ≤ B) : OPD w' B C v ds ps :=
  ⟨h.own.of_block fun b hb => hc.block b (h.own.lt b hb) (by have := h.own.ge b hb; have := h.lt b hb; omega), h.lt, h.len, h.ge,
   fun i d q hd' hq => ⟨(h.at_ i d q hd' hq).1.of_block fun b hb => hc.block b ((h.at_ i d q hd' hq).1.lt b hb) (by have := (h.at_ i d q hd' hq).1.ge b hb; have := (h.at_ i d q hd' hq).2.1 b hb; omega), (h.at_ i d q hd' hq).2.1, (h.at_ i d q hd' hq).2.2.kept hc hd⟩, h.apart⟩
theorem OPD.mono (h : OPD w B C v ds ps) (h1 : B' ≤ B) (h2 : C ≤ C') : OPD w B' C' v ds ps :=
  ⟨h.own.mono h1, fun b hb => Nat.lt_of_lt_of_le (h.lt b hb) h2, h.len, Nat.le_trans h1 (Nat.le_trans h.ge h2), fun i d q hd hq => ⟨(h.at_ i d q hd hq).1.mono h1, fun b hb => Nat.lt_of_lt_of_le ((h.at_ i d q hd hq).2.1 b hb) h2, (h.at_ i d q hd hq).2.2.mono h1 h2⟩, h.apart⟩
theorem OPD.zlen (h : OPD w B C v ds ps) : (List.zipWith cellP ds ps).length = ps.length := by rw [List.length_zipWith, h.len, Nat.min_self]
theorem OPD.zat (h : OPD w B C v ds ps) {i : Nat} {d : DV} {q : PV} (hd : ds[i]? = some d) (hq : ps[i]? = some q) : (List.zipWith cellP ds ps)[i]? = some (cellP d q) := by
  rw [List.getElem?_zipWith, hd, hq]
theorem OPD.open_ (h : OPD w B C v ds ps) : ∃ A c, v = .slice A ps.length c ∧ ps.length ≤ c ∧ c ≤ 9223372036854775807 := by
  have := OwnK.open_ (k := 3) h.own
  rwa [h.zlen] at this
theorem OPD.dat (h : OPD w B C v ds ps) {i : Nat} {q : PV} (hq : ps[i]? = some q) : ∃ d, ds[i]? = some d :=
  ⟨_, List.getElem?_eq_getElem (by rw [h.len]; exact (List.getElem?_eq_some_iff.1 hq).1)⟩
end
end Go.Proofs.Ytofabikjjkapmaa

set_option linter.unusedVariables false
set_option linter.unusedSimpArgs false
namespace Go.Proofs.Ytofabikjjkapmaa
open Go Go.RowKit

/-- a world of the class -/
structure GW (S : World → Prop) where
  w : World
  h : S w

end Go.Proofs.Ytofabikjjkapmaa

set_option maxRecDepth 100000
set_option linter.unusedVariables false
set_option linter.unusedSimpArgs false
namespace Go.Proofs.Ytofabikjjkapmaa
open Go.RowKit Go.Sort Go.Shelf

/-! ### marks -/
theorem rowsOwn_far {w w' : World} {B C : Nat} {vs us : List Value} {xss : List (List Int)} (h : RowsOwn w B C tI us xss) (hf : Far vs w w') (ha : ∀ u ∈ us, ∀ v ∈ vs, Apart v u) : RowsOwn w' B C tI us xss :=
  ⟨h.1, fun k u zs hu hz => hf.kept (h.2.1 k u zs hu hz) (fun i v hv => ha u (List.mem_of_getElem? hu) v (List.mem_of_getElem? hv)), h.2.2⟩
theorem own_far {w w' : World} {B C B' : Nat} {e : TypeId} {vs ws : List Value} {xss : List (List Int)} {v : Value} (h : Own w B' e v ws) (hr : RowsOwn w B C tI vs xss) (hf : Far vs w w') (he : e ≠ tI) : Own w' B' e v ws :=
  h.of_block fun b hb => hf b (h.lt b hb) (fun i u hu e1 => by
    have hx : xss[i]? = some (xss[i]'(by rw [← hr.1]; exact (List.getElem?_eq_some_iff.1 hu).1)) := List.getElem?_eq_getElem _
    have := (h.ne_of_type (hr.2.1 i u _ hu hx).1.1 he)
    rcases this with h1 | h1
    · rw [h1] at hb; cases hb
    · exact h1 (by rw [hb, e1]))
theorem ownK_far {w w' : World} {B C B' k : Nat} {e : TypeId} {vs : List Value} {css : List (List Value)} {xss : List (List Int)} {v : Value} (h : OwnK w B' e k v css) (hr : RowsOwn w B C tI vs xss) (hf : Far vs w w') (he : e ≠ tI) : OwnK w' B' e k v css :=
  h.of_block fun b hb => hf b (h.lt b hb) (fun i u hu e1 => by
    have hx : xss[i]? = some (xss[i]'(by rw [← hr.1]; exact (List.getElem?_eq_some_iff.1 hu).1)) := List.getElem?_eq_getElem _
    have := h.bt.ne (hr.2.1 i u _ hu hx).1.1.bt he
    rcases this with h1 | h1
    · rw [h1] at hb; cases hb
    · exact h1 (by rw [hb, e1]))
theorem zipWith_set {α β γ : Type} (f : α → β → γ) : ∀ (xs : List α) (bs : List β) (j : Nat) (a : α) (b : β), xs[j]? = some a → List.zipWith f xs (bs.set j b) = (List.zipWith f xs bs).set j (f a b)
  | [], bs, j, a, b, h => by simp at h
  | x :: xs, [], j, a, b, h => by simp
  | x :: xs, y :: bs, 0, a, b, h => by simp at h; subst h; simp
  | x :: xs, y :: bs, j + 1, a, b, h => by
    simp only [List.getElem?_cons_succ] at h
    simp [zipWith_set f xs bs j a b h]
/-- one partition marked: its rows, its skeleton; then its count is stored -/
theorem OPD.round {w w1 w2 : World} {B C g n cap j : Nat} {ds : List DV} {ps : List PV} {d : DV} {q : PV} {P' : List (List Int)} {S' : List Int} (h : OPD w B C (.slice (some ⟨g, 0, none⟩) n cap) ds ps) (hd : ds[j]? = some d) (hq : ps[j]? = some q)
    (h1 : RowsOwn w1 B C tI d.2.1 P') (h1f : Far d.2.1 w w1) (h2 : OwnInts w2 B tI d.2.2 S') (h2g : w1.grownBy w2 d.2.2.ownBlock) (c : Int) :
    w2.cell? ⟨g, j * 3 + 2, none⟩ = some (.int .i64 q.2) ∧ w2.frozen? ⟨g, j * 3 + 2, none⟩ = false ∧ B ≤ g ∧ g < C ∧ OPD (w2.setCell ⟨g, j * 3 + 2, none⟩ (.int .i64 c)) B C (.slice (some ⟨g, 0, none⟩) n cap) ds (ps.set j ((P', S'), c)) := by
  obtain ⟨a1, a2, a3⟩ := h.at_ j d q hd hq
  obtain ⟨b1, b2, b3⟩ := a3.split
  -- the outer list
  have o1 := ownK_far (k := 3) h.own b1 h1f (by decide)
  have s1 : OI w1 B C tI d.2.2 q.1.2 := h1f.kept b2 b3
  have o2 : OwnK w2 B tPt 3 (.slice (some ⟨g, 0, none⟩) n cap) (List.zipWith cellP ds ps) := OwnK.kept (k := 3) o1 h2g (OwnK.bt (k := 3) o1 |>.ne s1.1.1.bt (by decide))
  have hz := h.zat hd hq
  have k2 := OwnK.cellAt (k := 3) o2 hz (j := 2) rfl
  obtain ⟨-, hfz, -, hst, hgt⟩ := OwnK.storeAt (k := 3) o2 hz (j := 2) (by omega) (.int .i64 c)
  have hge : B ≤ g := OwnK.ge (k := 3) o2 g rfl
  have hlt : g < C := h.lt g rfl
  refine ⟨k2, hfz, hge, hlt, ?_, h.lt, by rw [List.length_set]; exact h.len, h.ge, fun i d' q' hd' hq' => ?_, h.apart⟩
  · rw [zipWith_set cellP ds ps j d _ hd]
    exact hst
  · have hown : ∀ (dd : DV), Own w B tL dd.1 dd.2.1 → Own (w2.setCell ⟨g, j * 3 + 2, none⟩ (.int .i64 c)) B tL dd.1 dd.2.1 := fun dd ho => by
      have p1 := own_far ho b1 h1f (by decide)
      have p2 := p1.kept h2g (p1.ne_of_type s1.1.1 (by decide))
      exact p2.kept hgt (p2.bt.ne (OwnK.bt (k := 3) o2) (by decide))
    have hlast : ∀ (us : List Value) (xss : List (List Int)), RowsOwn w2 B C tI us xss → RowsOwn (w2.setCell ⟨g, j * 3 + 2, none⟩ (.int .i64 c)) B C tI us xss := fun us xss hr =>
      hr.other hgt fun k u hu => by
        have hx : xss[k]? = some (xss[k]'(by rw [← hr.1]; exact (List.getElem?_eq_some_iff.1 hu).1)) := List.getElem?_eq_getElem _
        exact (hr.2.1 k u _ hu hx).1.1.bt.ne (OwnK.bt (k := 3) o2) (by decide)
    by_cases hij : i = j
    · subst hij
      rw [hd] at hd'
      obtain rfl : d = d' := by simpa using hd'
      rw [List.getElem?_set_self (List.getElem?_eq_some_iff.1 hq).1] at hq'
      obtain rfl : ((P', S'), c) = q' := by simpa using hq'
      refine ⟨hown d a1, a2, hlast _ _ ?_⟩
      exact (h1.other h2g b3).snoc ⟨h2, b2.2⟩ b3
    · rw [List.getElem?_set_ne (fun e => hij e.symm)] at hq'
      obtain ⟨e1, e2, e3⟩ := h.at_ i d' q' hd' hq'
      refine ⟨hown d' e1, e2, hlast _ _ ?_⟩
      have hap := h.apart j i d d' (fun e => hij e.symm) hd hd'
      have f1 := rowsOwn_far e3 h1f (fun u hu v hv => hap v (List.mem_append_left _ hv) u hu)
      exact f1.other h2g fun k u hu => (hap d.2.2 (List.mem_append_right _ (List.mem_singleton.2 rfl)) u (List.mem_of_getElem? hu)).symm
end Go.Proofs.Ytofabikjjkapmaa

