/- Walks: the comparison of cuts; slices.SortFunc at cuts. | Words: lists of structs that are stored into; equal ones in a list in order gathered with their numbers. No program in sight. | A region that draws its order, whose operations yield one value each in every world of a class S, and leave a world of S: one walk in the order of the text. No program in sight. | Walks: masks: l16Mask of the reference, isCutMask of the program. | Walks: isCutMask, checkCutMask of the program; l16Code of the reference. | Plain: a canonical tree cut up above the nodes of a mask: the program's pieces and skeleton and the reference's are made from the same lists. | Walks: isCutMask, checkCutMask of the program. | Plain: what holds of the program's state while it cuts a tree up. | A region that draws its order and stores at its end what it has loaded: those loads may be taken first. No program in sight. | Steps in a region that draws: append of one element, of a list, make. No program in sight. | Walks: l03Before, l03Sort, l16Skeleton of the reference. -/
import Derived.Test.YtdjhfeaimmpmhaaGreatZm10
import Derived.Test.YtdjhfeaimmpmhaaGreatZm9
import Derived.BigQuiet
import Derived.Below
import Derived.Test.YtdjhfeaimmpmhaaGreatZm7
import Derived.Test.YtdjhfeaimmpmhaaGreatZm8
import Derived.OrdersHeld
import Derived.RegionTactic
import Derived.Deep.RegionHeld
import Derived.Test.YtdjhfeaimmpmhaaGreatZm5
import Derived.Test.YtdjhfeaimmpmhaaGreatZm6
set_option maxRecDepth 100000
set_option linter.unusedVariables false
set_option linter.unusedSimpArgs false
namespace Go.Proofs.YtdjhfeaimmpmhaaGreat
open Go.RowKit Go.Sort Go.Shelf

theorem LL.keptE {w w' : World} {B : Nat} {u v : Value} {e : TypeId} {xss : List (List Int)} (h : LL w B u xss) (hg : w.grownBy w' v.ownBlock) (hb : BT w e v) (h1 : tI ≠ e) (h2 : tL ≠ e) : LL w' B u xss := by
  obtain ⟨vs, a, b⟩ := h
  exact ⟨vs, a.kept hg (a.bt.ne hb h2), ⟨b.1, fun k u zs hu hz => (b.2 k u zs hu hz).kept hg ((b.2 k u zs hu hz).1.bt.ne hb h1)⟩⟩
/-- a forest that may be looked at: not too many nodes -/
def fldF : Fld (List (List Nat)) where
  P w B u x := LL w B u (x.map up) ∧ x.length ≤ 1000000 ∧ ndN x ≤ 1000000
  one h := by
    obtain ⟨A, c, rfl, -⟩ := h.1.rows.open_
    cases A <;> rfl
  below h hb := ⟨h.1.below hb, h.2⟩
  mono h hB := ⟨h.1.mono hB, h.2⟩
  kept h hg hb h1 h2 := ⟨h.1.keptE hg hb h1 h2, h.2⟩
abbrev eSp (n : Nat) : Elt SP := elt2 fldF fldF n
abbrev eSc : Elt (SP × Nat) := elt3 fldF fldF

set_option maxHeartbeats 4000000 in
theorem i_cmpSplit (W : World) (B B' : Nat) (c c' : List Value) (x y : SP) (n m : Nat) (hx : eSc.D W B c (x, n)) (hy : eSc.D W B' c' (y, m)) :
    Calls Tryz.prog 209 #[.agg c.toArray, .agg c'.toArray] W fun e w' => e = .returned (.int .i64 (cmpS x y)) ∧ ∃ q os, w' = grow (W.drewN q) os := by
  obtain ⟨u, s, rfl, hu0, hs0⟩ := hx
  obtain ⟨u', s', rfl, hu0', hs0'⟩ := hy
  have hu1 : LL W B u (x.1.map up) ∧ x.1.length ≤ 1000000 ∧ ndN x.1 ≤ 1000000 := hu0
  have hu1' : LL W B' u' (y.1.map up) ∧ y.1.length ≤ 1000000 ∧ ndN y.1 ≤ 1000000 := hu0'
  have hs1 : LL W B s (x.2.map up) ∧ x.2.length ≤ 1000000 ∧ ndN x.2 ≤ 1000000 := hs0
  have hs1' : LL W B' s' (y.2.map up) ∧ y.2.length ≤ 1000000 ∧ ndN y.2 ≤ 1000000 := hs0'
  clear hu0 hu0' hs0 hs0'
  have hu := hu1.1.rows
  have hu' := hu1'.1.rows
  have hs := hs1.1.rows
  have hs' := hs1'.1.rows
  have HU := Lib.hid hu
  have HU' := Lib.hid hu'
  have HS := Lib.hid hs
  have HS' := Lib.hid hs'
  obtain ⟨A1, c1, rfl, -, -, -⟩ := hu.open_
  obtain ⟨A2, c2, rfl, -, -, -⟩ := hu'.open_
  obtain ⟨A3, c3, rfl, -, -, -⟩ := hs.open_
  obtain ⟨A4, c4, rfl, -, -, -⟩ := hs'.open_
  simp only [List.length_map] at HU HU' HS HS' ⊢
  obtain ⟨R, hR⟩ : ∃ R, R = cmpS x y := ⟨_, rfl⟩
  rw [← hR]
  have hR2 : R = if cmpW x.1 y.1 = 0 then cmpK x.2 y.2 else cmpW x.1 y.1 := hR
  have hct := fun W h h' => i_compareForests W (.slice A1 x.1.length c1) (.slice A2 y.1.length c2) x.1 y.1 h h' hu1.2.1 hu1'.2.1 hu1.2.2 hu1'.2.2
  have hfl := fun W h h' => i_compareTrunks W (.slice A3 x.2.length c3) (.slice A4 y.2.length c4) x.2 y.2 h h' hs1.2.1 hs1'.2.1
  generalize cmpW x.1 y.1 = z at hR2 hct
  generalize cmpK x.2 y.2 = z2 at hR2 hfl
  have HCT := Lib.hid hct
  have HFL := Lib.hid hfl
  clear hu hu' hs hs' hct hfl hR hu1 hu1' hs1 hs1'
  have HBB := Lib.hid (fun o o' => show Below W.heap.size W ((W.alloc o).alloc o') from ((Below.refl W.heap.size W).alloc (Nat.le_refl _) _).alloc (by simp) _)
  by_cases hz : z = 0
  · subst hz
    rw [if_pos rfl] at hR2
    have HR := Lib.hid hR2
    clear hR2
    go_enter Tryz.func209, Tryz.ntmps209
    go_wp2_with (first
      | (go_at_call 210; go_loud (refine (HCT.out _ (HU.out.below (HBB.out _ _)) (HU'.out.below (HBB.out _ _))).mono ?_; rintro e w1 ⟨rfl, rfl⟩))
      | (go_at_call 211; go_loud (refine (HFL.out _ (HS.out.below (HBB.out _ _)) (HS'.out.below (HBB.out _ _))).mono ?_; rintro e w2 ⟨rfl, rfl⟩)))
    go_ret
    exact ⟨ret_i64 HR.out.symm, 0, _, by rw [alloc_eq_grow, alloc_eq_grow, grow_grow]; rfl⟩
  · rw [if_neg hz] at hR2
    have HR := Lib.hid hR2
    have hz2 : (z != 0) = true := by simpa using hz
    clear hR2
    go_enter Tryz.func209, Tryz.ntmps209
    go_wp2_with (first
      | (go_at_call 210; go_loud (refine (HCT.out _ (HU.out.below (HBB.out _ _)) (HU'.out.below (HBB.out _ _))).mono ?_; rintro e w1 ⟨rfl, rfl⟩)))
    go_ret
    exact ⟨ret_i64 HR.out.symm, 0, _, by rw [alloc_eq_grow, alloc_eq_grow, grow_grow]; rfl⟩

theorem lib_SortSplit (w : World) (B cap : Nat) (A : Option Addr) (css : List (List Value)) (xs : List SP) (h : OwnK w B tSp 3 (.slice A css.length cap) css) (hr : Elts (eSp 1) w B css xs) (hn : css.length ≤ 1000000) :
    Calls Tryz.prog 212 #[.slice A css.length cap, .func (.func 209) #[] #[]] w fun e w' => e = .returned (.tuple #[]) ∧
      ∃ css', css'.length = css.length ∧ OwnK w' B tSp 3 (.slice A css.length cap) css' ∧ Elts (eSp 1) w' B css' (srtS ltS xs) ∧ w.grownBy w' (Value.ownBlock (.slice A css.length cap)) := by
  have aE : ∀ w, (isAgg tSp).run Tryz.prog w = .ok true w := fun w => by kernel_rfl
  have zE : ∀ w, (Go.sizeOf tSp).run Tryz.prog w = .ok 3 w := fun w => by kernel_rfl
  have eg : ∀ args w, (callFunc 209 args).run Tryz.prog w = .ok (.enter 209 args) w := enters_of Tryz.func209 (by kernel_rfl) rfl
  exact sort_elts Tryz.ssort (eSp 1) (e := tSp) aE zE ltS STO.ltS cmpS cmpS_lt 209 eg (by decide) (by decide) (fun W B c c' x y hx hy => i_cmpSplit W B B c c' x y 1 1 hx hy) w B cap A css xs h hr hn
end Go.Proofs.YtdjhfeaimmpmhaaGreat

set_option maxRecDepth 100000
set_option linter.unusedVariables false
set_option linter.unusedSimpArgs false
namespace Go.Proofs.YtdjhfeaimmpmhaaGreat
open Go.RowKit

theorem keepCellG {w w' : World} {ad : Addr} {v : Value} (hb : Below w.heap.size w w') (h : w.cell? ad = some v) : w'.cell? ad = some v := by rw [hb.cell (World.block_lt_of_cell? w _ h)]; exact h
theorem grownBy_trans {w w1 w2 : World} {b : Option Nat} (h : w.grownBy w1 b) (h' : w1.grownBy w2 b) : w.grownBy w2 b :=
  ⟨h'.os.trans h.os, h'.tape.trans h.tape, h'.output.trans h.output, Nat.le_trans h.size h'.size, fun k hk hne => (h'.block k (Nat.lt_of_lt_of_le hk h.size) hne).trans (h.block k hk hne)⟩
/-- a struct of three cells stored over element i -/
theorem OwnK.store3 {w : World} {B : Nat} {e : TypeId} {g n cap i : Nat} {css : List (List Value)} {a b c : Value} (h : OwnK w B e 3 (.slice (some ⟨g, 0, none⟩) n cap) css) (hc : css[i]? = some [a, b, c]) (x y z : Value) :
    ∃ q0 q1 q2, w.cell? ⟨g, i * 3, none⟩ = some q0 ∧ w.frozen? ⟨g, i * 3, none⟩ = false ∧
      (w.setCell ⟨g, i * 3, none⟩ x).cell? ⟨g, i * 3 + 1, none⟩ = some q1 ∧ (w.setCell ⟨g, i * 3, none⟩ x).frozen? ⟨g, i * 3 + 1, none⟩ = false ∧
      ((w.setCell ⟨g, i * 3, none⟩ x).setCell ⟨g, i * 3 + 1, none⟩ y).cell? ⟨g, i * 3 + 2, none⟩ = some q2 ∧ ((w.setCell ⟨g, i * 3, none⟩ x).setCell ⟨g, i * 3 + 1, none⟩ y).frozen? ⟨g, i * 3 + 2, none⟩ = false ∧
      OwnK (((w.setCell ⟨g, i * 3, none⟩ x).setCell ⟨g, i * 3 + 1, none⟩ y).setCell ⟨g, i * 3 + 2, none⟩ z) B e 3 (.slice (some ⟨g, 0, none⟩) n cap) (css.set i [x, y, z]) ∧
      w.grownBy (((w.setCell ⟨g, i * 3, none⟩ x).setCell ⟨g, i * 3 + 1, none⟩ y).setCell ⟨g, i * 3 + 2, none⟩ z) (some g) := by
  have hi := (List.getElem?_eq_some_iff.1 hc).1
  obtain ⟨⟨q0, h0⟩, f0, -, o1, g1⟩ := h.storeAt (j := 0) hc (by omega) x
  have hc1 : (css.set i ([a, b, c].set 0 x))[i]? = some [x, b, c] := by rw [List.getElem?_set_self hi]; rfl
  obtain ⟨⟨q1, h1⟩, f1, -, o2, g2⟩ := o1.storeAt (j := 1) hc1 (by omega) y
  have hc2 : ((css.set i ([a, b, c].set 0 x)).set i ([x, b, c].set 1 y))[i]? = some [x, y, c] := by rw [List.getElem?_set_self (by simpa using hi)]; rfl
  obtain ⟨⟨q2, h2⟩, f2, -, o3, g3⟩ := o2.storeAt (j := 2) hc2 (by omega) z
  have e : ((css.set i ([a, b, c].set 0 x)).set i ([x, b, c].set 1 y)).set i ([x, y, c].set 2 z) = css.set i [x, y, z] := by simp [List.set_set]
  rw [e] at o3
  exact ⟨q0, q1, q2, h0, f0, h1, f1, h2, f2, o3, grownBy_trans (grownBy_trans g1 g2) g3⟩

theorem below_growE (w : World) (os : Array Obj) : Below w.heap.size w (Go.Sort.grow w os) := ⟨rfl, rfl, rfl, by simp [Go.Sort.grow], fun k hk => Go.Sort.heap_grow_old _ _ hk⟩
/-- equal ones once, with their numbers: one more -/
def grpS {α : Type} (cmp : α → α → Int) (out : List (α × Nat)) (s : α) : List (α × Nat) := match out.getLast? with
  | none => [(s, 1)]
  | some (r, n) => if cmp r s = 0 then out.set (out.length - 1) (r, n + 1) else out ++ [(s, 1)]
def grpL {α : Type} (cmp : α → α → Int) (l : List α) : List (α × Nat) := l.foldl (grpS cmp) []
theorem grpL_snoc {α : Type} (cmp : α → α → Int) (l : List α) (s : α) : grpL cmp (l ++ [s]) = grpS cmp (grpL cmp l) s := by simp [grpL]
/-- is the last one equal? -/
def lastEq {α : Type} (cmp : α → α → Int) (L : List (α × Nat)) (y : α) : Bool := match L.getLast? with
  | none => false
  | some (r, _) => decide (cmp r y = 0)
theorem grp_false {α : Type} {cmp : α → α → Int} {L : List (α × Nat)} {y : α} (h : lastEq cmp L y = false) : grpS cmp L y = L ++ [(y, 1)] := by
  unfold grpS
  unfold lastEq at h
  cases hl : L.getLast? with
  | none => rw [List.getLast?_eq_none_iff.1 hl]; rfl
  | some x =>
    obtain ⟨r, n⟩ := x
    rw [hl] at h
    simp only at h ⊢
    rw [if_neg (of_decide_eq_false h)]
theorem grp_true {α : Type} {cmp : α → α → Int} {L : List (α × Nat)} {y : α} (h : lastEq cmp L y = true) : ∃ m r n, L.length = m + 1 ∧ L[m]? = some (r, n) ∧ grpS cmp L y = L.set m (r, n + 1) := by
  unfold lastEq at h
  cases hl : L.getLast? with
  | none => rw [hl] at h; cases h
  | some x =>
    obtain ⟨r, n⟩ := x
    rw [hl] at h
    have hne : L ≠ [] := fun e => by rw [e] at hl; cases hl
    have hpos : 0 < L.length := List.length_pos_iff.2 hne
    refine ⟨L.length - 1, r, n, by omega, by rw [← List.getLast?_eq_getElem?]; exact hl, ?_⟩
    unfold grpS
    rw [hl]
    simp only
    rw [if_pos (of_decide_eq_true h)]
theorem grpS_len {α : Type} (cmp : α → α → Int) (out : List (α × Nat)) (s : α) : (grpS cmp out s).length ≤ out.length + 1 := by
  unfold grpS
  split
  · simp
  · split <;> simp
theorem grpL_len {α : Type} (cmp : α → α → Int) (l : List α) : ∀ k, k ≤ l.length → (grpL cmp (l.take k)).length ≤ k ∧ ∀ x ∈ grpL cmp (l.take k), x.2 ≤ k := by
  intro k
  induction k with
  | zero => intro _; simp [grpL]
  | succ k ih =>
    intro hk
    have ih := ih (by omega)
    rw [List.take_add_one, List.getElem?_eq_getElem (by omega)]
    show (grpL cmp (l.take k ++ [l[k]])).length ≤ k + 1 ∧ ∀ x ∈ grpL cmp (l.take k ++ [l[k]]), x.2 ≤ k + 1
    rw [grpL_snoc]
    refine ⟨by have := grpS_len cmp (grpL cmp (l.take k)) l[k]; omega, fun x hx => ?_⟩
    unfold grpS at hx
    split at hx
    · simp at hx; subst hx; simp
    · rename_i r n hl
      have hn := ih.2 _ (List.mem_of_getLast? hl)
      split at hx
      · rcases List.mem_or_eq_of_mem_set hx with hx | hx
        · have := ih.2 x hx; omega
        · subst hx; simp at hn ⊢; omega
      · rcases List.mem_append.1 hx with hx | hx
        · have := ih.2 x hx; omega
        · simp at hx; subst hx; simp
end Go.Proofs.YtdjhfeaimmpmhaaGreat

set_option linter.unusedVariables false
set_option linter.unusedSimpArgs false
namespace Go.Proofs.YtdjhfeaimmpmhaaGreat
open Go Go.RowKit

/-- a world of the class -/
structure GW (S : World → Prop) where
  w : World
  h : S w

theorem wp_region_grow {P : Program} {id : Nat} {Q : Exit → Act → World → Prop} {a : Act} {w : World} {l : List Oper} (S : World → Prop) (hm : P.follows .mixedOrders = true) (hB : Region.lexB .any l.toArray = true) (hC : S w.drew)
    (h : Nonempty (GW S) → wpQuiet P l.toArray (fun w' => ∃ x : GW S, w' = x.w) (fun a' => ∀ w', (∃ x : GW S, w' = x.w) → Q .normal a' w') l a) : (Code.region id l.toArray true).wp P Q a w :=
  wp_region_quiet (C := fun w' => ∃ x : GW S, w' = x.w) hm hB ⟨⟨_, hC⟩, rfl⟩ (by simpa using h ⟨⟨_, hC⟩⟩)

/-- a callee that leaves a world of the class -/
theorem grow_call {P : Program} {f : FuncId} {args : Array Value} {w : World} {v : Value} {S : World → Prop} (h : Calls P f args w fun e w' => e = .returned v ∧ S w') : Calls P f args w fun e w'' => e = .returned v ∧ ∃ x : GW S, w'' = x.w :=
  h.mono fun _ w' ⟨he, hw⟩ => ⟨he, ⟨w', hw⟩, rfl⟩
end Go.Proofs.YtdjhfeaimmpmhaaGreat

set_option maxRecDepth 100000
set_option linter.unusedVariables false
set_option linter.unusedSimpArgs false
namespace Go.Proofs.YtdjhfeaimmpmhaaGreat
open Go.RowKit

end Go.Proofs.YtdjhfeaimmpmhaaGreat

set_option maxRecDepth 100000
set_option linter.unusedVariables false
set_option linter.unusedSimpArgs false
namespace Go.Proofs.YtdjhfeaimmpmhaaGreat
open Go.RowKit

end Go.Proofs.YtdjhfeaimmpmhaaGreat

set_option linter.unusedVariables false
set_option linter.unusedSimpArgs false
set_option maxRecDepth 100000
namespace Go.Proofs.YtdjhfeaimmpmhaaGreat

/-- what the program knows of the nodes so far: the neighbours in the pieces, the piece of each node, the pieces' roots, the joints -/
structure CutS where
  near : List (List Nat)
  top : List Nat
  tops : List Nat
  bet : List (Nat × Nat)
def cutStep (mask : Nat) (s : CutS) (i p : Nat) : CutS :=
  match p with
  | 0 => ⟨s.near, s.top.set i s.tops.length, s.tops ++ [i], s.bet⟩
  | k + 1 => bif mask.testBit i then ⟨s.near, s.top.set i s.tops.length, s.tops ++ [i], s.bet ++ [(s.top.getD k 0, s.tops.length)]⟩
    else ⟨addAt i k (addAt k i s.near), s.top.set i (s.top.getD k 0), s.tops, s.bet⟩
/-- the nodes of a piece of the reference's: whether each is in it, and its list -/
def pieF (t : List Nat) (mask root : Nat) : List Nat → Nat → List Bool → List Nat → List Nat
  | [], _, _, out => out
  | l :: ls, i, inn, out =>
    let p := parN t l i
    bif Nat.blt root p && (inn.getD (p - 1) false && !mask.testBit i) then pieF t mask root ls (i + 1) (inn.set i true) (out ++ [l - t.getD root 0])
    else pieF t mask root ls (i + 1) inn out
def pieN (t : List Nat) (mask root : Nat) : List Nat := pieF t mask root (t.drop (root + 1)) (root + 1) ((List.replicate t.length false).set root true) [0]
/-- the nodes at which the reference cuts -/
def cutsN (mask : Nat) : Nat → Nat → List Nat
  | 0, _ => []
  | n + 1, i => bif mask.testBit i then i :: cutsN mask n (i + 1) else cutsN mask n (i + 1)
/-- the number of nodes with a cut on the way from a node (by one more than its place) to the root -/
def wayN (t : List Nat) (mask : Nat) : Nat → Nat → Nat
  | 0, _ => 0
  | f + 1, 0 => 0
  | f + 1, 1 => 0
  | f + 1, k + 2 => (bif mask.testBit (k + 1) then 1 else 0) + wayN t mask f (parN t (t.getD (k + 1) 0) (k + 1))
def sklN (t : List Nat) (mask : Nat) : List Nat := 0 :: (cutsN mask (t.length - 1) 1).map fun i => 1 + wayN t mask 9 (parN t (t.getD i 0) i)

end Go.Proofs.YtdjhfeaimmpmhaaGreat

set_option maxRecDepth 100000
set_option linter.unusedVariables false
set_option linter.unusedSimpArgs false
namespace Go.Proofs.YtdjhfeaimmpmhaaGreat
open Go.RowKit

end Go.Proofs.YtdjhfeaimmpmhaaGreat

set_option linter.unusedVariables false
set_option linter.unusedSimpArgs false
namespace Go.Proofs.YtdjhfeaimmpmhaaGreat

structure CI (n j : Nat) (s : CutS) : Prop where
  near : NB s.near (2 * j) n
  top : s.top.length = n ∧ ∀ x ∈ s.top, x ≤ s.tops.length
  tops : s.tops.length ≤ j ∧ ∀ x ∈ s.tops, x < n
  bet : s.bet.length ≤ j ∧ ∀ p ∈ s.bet, p.1 < s.tops.length ∧ p.2 < s.tops.length
theorem CI.topLe {n j : Nat} {s : CutS} (h : CI n j s) (k : Nat) : s.top.getD k 0 ≤ s.tops.length := by
  cases hx : s.top[k]? with
  | none => simp [List.getD, hx]
  | some x => have := h.top.2 x (List.mem_of_getElem? hx); simpa [List.getD, hx] using this
theorem CI.step {n j P mask : Nat} {s : CutS} (h : CI n j s) (hj : j < n) (hP : P ≤ j) : CI n (j + 1) (cutStep mask s j P) := by
  have hnew : ∀ x ∈ s.top.set j s.tops.length, x ≤ (s.tops ++ [j]).length := by
    intro x hx
    rcases List.mem_or_eq_of_mem_set hx with hx | hx
    · have := h.top.2 x hx; simp; omega
    · simp [hx]
  have htops : (s.tops ++ [j]).length ≤ j + 1 ∧ ∀ x ∈ s.tops ++ [j], x < n := by
    refine ⟨by have := h.tops.1; simp; omega, fun x hx => ?_⟩
    rcases List.mem_append.1 hx with hx | hx
    · exact h.tops.2 x hx
    · simp at hx; omega
  cases P with
  | zero =>
    exact ⟨h.near.mono (by omega), ⟨by simp [cutStep, h.top.1], hnew⟩, htops, ⟨by have := h.bet.1; show s.bet.length ≤ _; omega, fun p hp => by have := h.bet.2 p hp; simp [cutStep]; omega⟩⟩
  | succ k =>
    rw [cutStep]
    cases mask.testBit j with
    | true =>
      refine ⟨h.near.mono (by omega), ⟨by simp [h.top.1], hnew⟩, htops, ⟨by have := h.bet.1; simp; omega, fun p hp => ?_⟩⟩
      simp only [cond_true, List.length_append, List.length_singleton] at hp ⊢
      rcases List.mem_append.1 hp with hp | hp
      · have := h.bet.2 p hp; omega
      · simp at hp
        have := h.topLe k
        subst hp
        simp only [List.getD_eq_getElem?_getD] at this
        exact ⟨by simpa using Nat.lt_succ_of_le this, by simp⟩
    | false =>
      refine ⟨((h.near.add (x := k) (i := j) (by omega)).add (x := j) (i := k) hj).mono (by omega), ⟨by simp [h.top.1], fun x hx => ?_⟩, ⟨by have := h.tops.1; simp; omega, h.tops.2⟩, ⟨by have := h.bet.1; simp; omega, h.bet.2⟩⟩
      rcases List.mem_or_eq_of_mem_set hx with hx | hx
      · exact h.top.2 x hx
      · rw [hx]; exact h.topLe k
end Go.Proofs.YtdjhfeaimmpmhaaGreat

set_option linter.unusedVariables false
set_option linter.unusedSimpArgs false
namespace Go.Proofs.YtdjhfeaimmpmhaaGreat
open Go

section
variable {P : Program} {ops : Array Oper} {Q : Exit → Act → World → Prop} {md : Region.Mode} {S : Bool → World → Prop} {k : Nat}

/-- whatever order comes: 'S false' holds of the worlds ahead of operation k, 'S true' of those behind it -/
def AnyT (P : Program) (md : Region.Mode) (ops : Array Oper) (Q : Exit → Act → World → Prop) (S : Bool → World → Prop) (k : Nat) : Nat → Array Bool → Act → World → Prop
  | 0, L, a, w => Region.ready md ops L = [] ∧ Q .normal a w
  | f + 1, L, a, w => (Region.ready md ops L = [] → Q .normal a w) ∧
      ∀ i ∈ Region.ready md ops L, wpOp P ops Q i (fun a' w' => S ((L.setIfInBounds i true).getD k true) w' ∧ AnyT P md ops Q S k f (L.setIfInBounds i true) a' w') a w

theorem AnyT.any : ∀ (f : Nat) (L : Array Bool) (a : Act) (w : World), AnyT P md ops Q S k f L a w → wpAny P md ops Q f L a w
  | 0, _, _, _, h => h
  | f + 1, _, _, _, h => ⟨h.1, fun i hi => wpOp_mono (fun a' w' h' => AnyT.any f _ a' w' h'.2) (h.2 i hi)⟩

theorem AnyT.first {i : Nat} {oi : Oper} {v : Value} {U : World → Prop} {G : Array Bool → Prop} (hi : ops[i]? = some oi)
    (hsel : ∀ (j : Nat) (o : Oper) cs b, ops[j]? = some o → o.op ≠ .select cs b)
    (hQ : ∀ c a w, Q (.panic c) (a.put oi.dst v) w → Q (.panic c) a w) (hik : i ≠ k)
    (hG : ∀ (L : Array Bool) (j : Nat), G L → i ∈ Region.ready md ops L → j ∈ Region.ready md ops L → j ≠ i → G (L.setIfInBounds j true))
    (hU : ∀ (L : Array Bool) (w : World), G L → S (L.getD k true) w → U w) :
    ∀ (f : Nat) (L : Array Bool) (a : Act) (w : World),
      (∀ j oj, ops[j]? = some oj → j ≠ i → L.getD j true = false → (∀ e ∈ oj.after, Region.binds md e = true → e.on ≠ i) → oi.apart ops oj = true) →
      i ∈ Region.ready md ops L → G L → YieldsIf P ops U oi v a → S (L.getD k true) w →
      AnyT P md ops Q S k f (L.setIfInBounds i true) (a.put oi.dst v) w → AnyT P md ops Q S k (f + 1) L a w := by
  have hkeep : ∀ (L : Array Bool), (L.setIfInBounds i true).getD k true = L.getD k true := fun L => getD_set_ne true hik
  intro f
  induction f with
  | zero =>
    intro L a w _ hr g hy hS H
    refine ⟨fun h => (by rw [h] at hr; cases hr), fun j hj => ?_⟩
    by_cases hji : j = i
    · subst hji
      exact hy.wpOp hi (hU L w g hS) ⟨by rw [hkeep]; exact hS, H⟩
    · have h1 := ready_mono hj hji
      rw [H.1] at h1
      cases h1
  | succ f ih =>
    intro L a w hfree hr g hy hS H
    refine ⟨fun h => (by rw [h] at hr; cases hr), fun j hj => ?_⟩
    by_cases hji : j = i
    · subst hji
      exact hy.wpOp hi (hU L w g hS) ⟨by rw [hkeep]; exact hS, H⟩
    · obtain ⟨hjun, oj, hoj, hall⟩ := mem_ready.1 hj
      have hiun := (mem_ready.1 hr).1
      have hnot : ∀ e ∈ oj.after, Region.binds md e = true → e.on ≠ i := fun e he hb heq => by
        have h1 := hall e he hb
        rw [heq] at h1
        rcases Nat.lt_or_ge i L.size with h' | h'
        · simp [h'] at hiun h1; rw [hiun] at h1; cases h1
        · simp [Array.getElem?_eq_none h'] at h1
      have h2 := wpOp_putIf hoj (hfree j oj hoj hji hjun hnot) (fun cs b => hsel i oi cs b hi) (fun cs b => hsel j oj cs b hoj) hQ hy (H.2 j (ready_mono hj hji))
      refine wpOp_mono (fun a' w' h3 => ?_) h2
      have e : (L.setIfInBounds i true).setIfInBounds j true = (L.setIfInBounds j true).setIfInBounds i true := Array.setIfInBounds_comm _ _ (Ne.symm hji)
      obtain ⟨hy', hS', H'⟩ := h3
      rw [e] at H'
      rw [e, hkeep] at hS'
      refine ⟨hS', ih (L.setIfInBounds j true) a' w' (fun m om hm hmi hun hno => hfree m om hm hmi ?_ hno) (ready_mono hr (Ne.symm hji)) (hG L j g hr hj hji) hy' hS' H'⟩
      by_cases hjm : j = m
      · subst hjm; exact hjun
      · rw [getD_set_ne true hjm] at hun; exact hun

/-- operation i, which yields in every world that meets S, may be taken first -/
theorem AnyT.take0 {i : Nat} {oi : Oper} {v : Value} {f : Nat} {L : Array Bool} {a : Act} {w : World} (hi : ops[i]? = some oi)
    (hs : Region.noSelect ops = true) (hf : Region.free md ops L i = true) (hr : (Region.ready md ops L).contains i = true) (hik : i ≠ k)
    (hQ : ∀ c a w, Q (.panic c) (a.put oi.dst v) w → Q (.panic c) a w) (hS : S (L.getD k true) w) (hy : YieldsIf P ops (fun w => ∃ b, S b w) oi v a)
    (h : AnyT P md ops Q S k f (L.setIfInBounds i true) (a.put oi.dst v) w) : AnyT P md ops Q S k (f + 1) L a w :=
  AnyT.first (G := fun _ => True) (U := fun w => ∃ b, S b w) hi (Region.noSelect_spec hs) hQ hik (fun _ _ _ _ _ _ => trivial) (fun L w _ h => ⟨_, h⟩) f L a w (Region.free_spec hi hf) (by simpa using hr) trivial hy hS h

/-- each of the operations rs comes next -/
def AllT (P : Program) (md : Region.Mode) (ops : Array Oper) (Q : Exit → Act → World → Prop) (S : Bool → World → Prop) (k : Nat) (f : Nat) (L : Array Bool) (a : Act) (w : World) (rs : List Nat) : Prop :=
  ∀ i ∈ rs, wpOp P ops Q i (fun a' w' => S ((L.setIfInBounds i true).getD k true) w' ∧ AnyT P md ops Q S k f (L.setIfInBounds i true) a' w') a w
theorem AllT.nil {f : Nat} {L : Array Bool} {a : Act} {w : World} : AllT P md ops Q S k f L a w [] := fun _ h => by cases h
theorem AllT.cons {f : Nat} {L : Array Bool} {a : Act} {w : World} {i : Nat} {o : Oper} {rs : List Nat} (ho : ops[i]? = some o)
    (h : ∀ K' : Act → World → Prop, Shut (∀ a w, S ((L.setIfInBounds i true).getD k true) w → (S ((L.setIfInBounds i true).getD k true) w → AnyT P md ops Q S k f (L.setIfInBounds i true) a w) → K' a w) →
      if Region.wanted o (yielded ops a.tmps) = true then Oper.wp P o a w K' Q else K' (a.put o.dst undef) w)
    (hs : AllT P md ops Q S k f L a w rs) : AllT P md ops Q S k f L a w (i :: rs) := fun j hj => by
  rcases List.mem_cons.1 hj with rfl | hj
  · exact wpOp_step ho (fun K' hK => h K' (fun a w hS hW => hK a w ⟨hS, hW hS⟩))
  · exact hs j hj
theorem AnyT.go {rs : List Nat} {f : Nat} {L : Array Bool} {a : Act} {w : World} (hr : Region.ready md ops L = rs) (hne : rs ≠ []) (h : AllT P md ops Q S k f L a w rs) : AnyT P md ops Q S k (f + 1) L a w :=
  ⟨fun h0 => absurd (hr ▸ h0) hne, hr ▸ h⟩
theorem AnyT.done {L : Array Bool} {a : Act} {w : World} (hr : Region.ready md ops L = []) (h : Q .normal a w) : ∀ f, AnyT P md ops Q S k f L a w
  | 0 => ⟨hr, h⟩
  | _ + 1 => ⟨fun _ => h, by rw [hr]; simp⟩
theorem AnyT.begin {id : Nat} {a : Act} {w : World} (hm : P.follows .mixedOrders = true) (h : AnyT P .any ops Q S k ops.size (Array.replicate ops.size false) a w.drew) : (Code.region id ops true).wp P Q a w :=
  wp_region_any hm (AnyT.any _ _ _ _ h)
end
end Go.Proofs.YtdjhfeaimmpmhaaGreat

set_option maxRecDepth 100000
set_option linter.unusedVariables false
set_option linter.unusedSimpArgs false
namespace Go.Proofs.YtdjhfeaimmpmhaaGreat
open Go.RowKit

/-- the run of append of a list -/
theorem run_appN' {P : Program} {t e : TypeId} {z : Value} {bytes : Nat} {B : Nat} {v : Value} {vs : List Value} {W : World} {y : Value} {us : List Value}
    (T : ElemT P t e z bytes) (ty : TypeId) (hown : Own W B e v vs) (hy : Cells W y us) (hlen : vs.length + us.length < 1099511627776) (hB : B ≤ W.heap.size) (hu : ∀ u ∈ us, u.oneCell' = true) :
    ∃ v' w', (Builtin.append_ #[t, t] ty #[v, y]).run P W = .ok v' w' ∧ Own w' B e v' (vs ++ us) ∧ Grow W w' v v' := by
  obtain ⟨i, hi, hz, h1, h2⟩ := info_parts T.info
  have hby := T.small
  obtain ⟨A, c, rfl, hy1, hy2, hy3⟩ := hy
  cases A with
  | none =>
    have hus : us = [] := by
      cases us with
      | nil => rfl
      | cons u us => obtain ⟨ad, h, _⟩ := hy3 0 u rfl; cases h
    subst hus
    have hrun : (Builtin.append_ #[t, t] ty #[v, .slice none 0 c]).run P W = .ok v W := by
      rcases hown.cases with ⟨rfl, rfl⟩ | ⟨g, cap, cur, rfl, _, _, _, hnc, _⟩
      · simp [Builtin.append_, run_underlying T.under, sizeOf, typeInfo, hi, Builtin.lenOf, Builtin.firstCells]
      · simp [Builtin.append_, run_underlying T.under, sizeOf, typeInfo, hi, Builtin.lenOf, Builtin.firstCells, hnc, storeCells]
    exact ⟨v, W, hrun, by simpa using hown, World.grownBy.refl W _, .inl rfl⟩
  | some ad =>
    obtain ⟨v', w', hrun, r1, r2, _, r3⟩ := run_append_own_at (P := P) W B t ty e i z 1 bytes T.under hi hz h1 h2 (by rw [T.one]; rfl) (by omega) v vs.length vs hown ad us.length c us (by simp)
      (fun j u' hj => by obtain ⟨ad', h, hc⟩ := hy3 j u' hj; injection h with h; subst h; exact hc) hu (by simp only [maxLen]; omega) (by have := Nat.mul_le_mul_left (vs.length + us.length) hby; omega) hB
    refine ⟨v', w', hrun, ?_, r2, ?_⟩
    · unfold Own; simpa using r1
    · rcases r3 with r3 | r3
      · exact .inl r3
      · exact .inr ⟨_, r3, by simp⟩

/-- append of a list, met in a region that draws -/
theorem stp_appN {P : Program} {ops : Array Oper} {o : Oper} {a : Act} {K : Act → World → Prop} {Q : Exit → Act → World → Prop} {E : Prop} {s x : Operand} {t : TypeId}
    {e : TypeId} {z : Value} {bytes : Nat} {B : Nat} {v : Value} {vs : List Value} {W : World} {y : Value} {us : List Value}
    (T : ElemT P t e z bytes) (hown : Own W B e v vs) (hy : Cells W y us) (hlen : vs.length + us.length < 1099511627776) (hB : B ≤ W.heap.size) (hu : ∀ u ∈ us, u.oneCell' = true)
    (hgd : o.guard = none) (ho : o.op = .call { callee := .builtin .append, args := #[s, x], argTypes := #[t, t] }) (hs : a.eval s = v) (hx : a.eval x = y)
    (h : ∀ v' w', Own w' B e v' (vs ++ us) → Grow W w' v v' → K (a.put o.dst v') w') :
    if Region.wanted o (yielded ops a.tmps) = true then Oper.wp P o a W K Q else E := by
  have hw : Region.wanted o (yielded ops a.tmps) = true := by simp [Region.wanted, hgd]
  rw [if_pos hw]
  obtain ⟨v', w', hrun, r1, r2⟩ := run_appN' T o.type hown hy hlen hB hu
  unfold Oper.wp execOp
  simp only [ho, resolve, invoke, builtin, Sem.run_bind, Sem.run_pure, Result.andThen_ok, List.map_toArray, List.map_cons, List.map_nil, hs, hx, hrun]
  exact h v' w' r1 r2

end Go.Proofs.YtdjhfeaimmpmhaaGreat

set_option maxRecDepth 100000
set_option linter.unusedVariables false
set_option linter.unusedSimpArgs false
namespace Go.Proofs.YtdjhfeaimmpmhaaGreat
open Go.RowKit

theorem s_l03Before (w : World) (v v' : Value) (a b : List Nat) (ha : Ints w v (up a)) (hb : Ints w v' (up b)) :
    Calls Tryz.prog 206 #[v, v'] w fun e w' => e = .returned (.bool (befN a b)) ∧ ∃ n, w' = w.drewN n := by
  have HA := Lib.hid ha
  have HB := Lib.hid hb
  obtain ⟨A, c, rfl, -, -, -⟩ := ha.open_
  obtain ⟨A', c', rfl, -, -, -⟩ := hb.open_
  rw [up_len] at HA ⊢
  rw [up_len] at HB ⊢
  clear ha hb
  by_cases h : a.length = b.length
  · have HE := Lib.hid (show befN a b = ltN b a by rw [befN, h, Nat.beq_refl]; rfl)
    rw [HE.out]
    have hd : ((a.length : Int) != (b.length : Int)) = false := by simp [h]
    clear h
    go_enter Tryz.func206, Tryz.ntmps206
    go_wp2_with (go_at_call 214; refine (s_l01Less _ _ _ (up b) (up a) HB.out HA.out).mono ?_; rintro e w1 ⟨rfl, n, rfl⟩; rw [lessL_up])
    go_ret
    exact ⟨rfl, _, rfl⟩
  · have HE := Lib.hid (show befN a b = decide ((a.length : Int) < (b.length : Int)) by
      have hb : Nat.beq a.length b.length = false := by
        cases hb : Nat.beq a.length b.length with
        | true => exact absurd (Nat.eq_of_beq_eq_true hb) h
        | false => rfl
      rw [befN, hb]
      simp only [cond_false]
      by_cases h2 : a.length < b.length
      · rw [(blt_iff _ _).2 h2]; exact (decide_eq_true (by omega)).symm
      · have : Nat.blt a.length b.length = false := by
          cases hh : Nat.blt a.length b.length with
          | true => exact absurd ((blt_iff _ _).1 hh) h2
          | false => rfl
        rw [this]; exact (decide_eq_false (by omega)).symm)
    rw [HE.out]
    have hd : ((a.length : Int) != (b.length : Int)) = true := by simp; omega
    clear h
    go_enter Tryz.func206, Tryz.ntmps206
    go_wp2_with fail
    all_goals (go_ret; exact ⟨ret_bool (by first | rfl | simp_all | (simp; omega)), 0, rfl⟩)

end Go.Proofs.YtdjhfeaimmpmhaaGreat

