/- Level lists, plain: what the program and the reference reckon with them. No program in sight. | Words of memory for level lists and lists of them: slices of slices, rows that can be read, branches that grow. | Lists of lists of one's own whose rows can be read and lie apart from one another. | Slices of slices, at lists of numbers and at lists of lists. | Arithmetic modulo 10007, plain. No program in sight. | The walks of the arithmetic of the program and of the reference: num, pow, inv and their like. | Scaling a list: plain words, and append as a step of a region that draws. -/
import Derived.Test.YtofabikjjkapmaaPo2
import Derived.Test.YtofabikjjkapmaaRows
import Derived.Test.YtofabikjjkapmaaPo1
import Derived.WalkLawsBesides
import Derived.Deep.RegionHeld3
import Derived.Deep.RegionLaw
set_option linter.unusedVariables false
set_option linter.unusedSimpArgs false
namespace Go.Proofs.Ytofabikjjkapmaa

/-- natural numbers as integers -/
def up (t : List Nat) : List Int := t.map fun (n : Nat) => (n : Int)
theorem up_len (t : List Nat) : (up t).length = t.length := by simp [up]
theorem up_get (t : List Nat) (k : Nat) : (up t)[k]? = t[k]?.map fun (n : Nat) => (n : Int) := by simp [up]
theorem up_append (a b : List Nat) : up (a ++ b) = up a ++ up b := by simp [up]
theorem up_inj {a b : List Nat} (h : up a = up b) : a = b := by
  have e : ∀ l : List Nat, (up l).map Int.toNat = l := by
    intro l
    simp only [up, List.map_map]
    have : (Int.toNat ∘ fun n : Nat => (n : Int)) = id := by funext n; simp
    rw [this, List.map_id]
  rw [← e a, ← e b, h]

def eqN : List Nat → List Nat → Bool
  | [], [] => true
  | [], _ :: _ => false
  | _ :: _, [] => false
  | a :: ar, b :: bs => bif Nat.beq a b then eqN ar bs else false
theorem eqN_iff : ∀ {a b : List Nat}, eqN a b = true ↔ a = b
  | [], [] => by simp [eqN]
  | [], _ :: _ => by simp [eqN]
  | _ :: _, [] => by simp [eqN]
  | a :: ar, b :: bs => by
    rw [eqN]
    cases h : Nat.beq a b with
    | true => have := Nat.eq_of_beq_eq_true h; subst this; simp [eqN_iff (a := ar) (b := bs)]
    | false => have := Nat.ne_of_beq_eq_false h; simp [this]
/-- lexicographically less -/
def ltN : List Nat → List Nat → Bool
  | [], [] => false
  | [], _ :: _ => true
  | _ :: _, [] => false
  | a :: ar, b :: bs => bif Nat.beq a b then ltN ar bs else Nat.blt a b

def mapO {α β : Type} (g : α → Option β) : List α → Option (List β)
  | [] => some []
  | x :: xs => match g x with
    | none => none
    | some y => match mapO g xs with
      | none => none
      | some ys => some (y :: ys)
theorem mapO_cons {α β : Type} {g : α → Option β} {x : α} {xs : List α} {ys : List β} (h : mapO g (x :: xs) = some ys) : ∃ y ys', ys = y :: ys' ∧ g x = some y ∧ mapO g xs = some ys' := by
  rw [mapO] at h
  split at h
  · cases h
  · rename_i y hy
    split at h
    · cases h
    · rename_i ys' hys
      injection h with h
      exact ⟨y, ys', h.symm, hy, hys⟩
theorem mapO_len {α β : Type} {g : α → Option β} : ∀ {xs : List α} {ys : List β}, mapO g xs = some ys → ys.length = xs.length
  | [], ys, h => by simp [mapO] at h; subst h; rfl
  | x :: xs, ys, h => by
    obtain ⟨y, ys', rfl, _, h'⟩ := mapO_cons h
    simp [mapO_len h']
theorem mapO_get {α β : Type} {g : α → Option β} : ∀ {xs : List α} {ys : List β}, mapO g xs = some ys → ∀ (k : Nat) (x : α), xs[k]? = some x → ∃ y, ys[k]? = some y ∧ g x = some y
  | [], ys, h, k, x, hx => by simp at hx
  | z :: xs, ys, h, k, x, hx => by
    obtain ⟨y, ys', rfl, hy, h'⟩ := mapO_cons h
    cases k with
    | zero => simp at hx; subst hx; exact ⟨y, by simp, hy⟩
    | succ k => simpa using mapO_get h' k x (by simpa using hx)
theorem mapO_all {α β : Type} {g : α → Option β} {xs : List α} {ys : List β} (h : mapO g xs = some ys) : ∀ y ∈ ys, ∃ x ∈ xs, g x = some y := by
  intro y hy
  obtain ⟨k, hk, rfl⟩ := List.getElem_of_mem hy
  have hl := mapO_len h
  have hx : xs[k]? = some (xs[k]'(by omega)) := List.getElem?_eq_getElem _
  obtain ⟨y', h1, h2⟩ := mapO_get h k _ hx
  rw [List.getElem?_eq_getElem hk] at h1
  injection h1 with h1
  exact ⟨_, List.mem_of_getElem? hx, by rw [h2, ← h1]⟩

/-- the levels behind a level -/
def lvlF (p : Nat) : List Nat → Bool
  | [] => true
  | l :: ls => bif Nat.ble 1 l then (bif Nat.ble l (p + 1) then lvlF l ls else false) else false
/-- a list of levels -/
def lvl : List Nat → Bool
  | [] => false
  | a :: ar => bif Nat.beq a 0 then lvlF 0 ar else false

def addLast (x : Nat) : List (List Nat) → List (List Nat)
  | [] => []
  | [b] => [b ++ [x]]
  | b :: c :: bs => b :: addLast x (c :: bs)
/-- one level more, of the branches gathered so far -/
def brStep (out : List (List Nat)) (l : Nat) : Option (List (List Nat)) :=
  match l with
  | 0 => none
  | 1 => some (out ++ [[0]])
  | l + 2 => match out with
    | [] => none
    | b :: bs => some (addLast (l + 1) (b :: bs))
def brF (out : List (List Nat)) : List Nat → Option (List (List Nat))
  | [] => some out
  | l :: ls => match brStep out l with
    | none => none
    | some o => brF o ls
/-- the branches of a level list -/
def brO : List Nat → Option (List (List Nat))
  | [] => none
  | _ :: ts => brF [] ts

/-- a list put into lists in descending order -/
def insD (p : List Nat) : List (List Nat) → List (List Nat)
  | [] => [p]
  | q :: qs => bif ltN q p then p :: q :: qs else q :: insD p qs
def srtF (s : List (List Nat)) : List (List Nat) → List (List Nat)
  | [] => s
  | p :: ps => srtF (insD p s) ps
/-- lists in descending order -/
def srtD (ps : List (List Nat)) : List (List Nat) := srtF [] ps
def bump : List Nat → List Nat
  | [] => []
  | a :: ar => (a + 1) :: bump ar
def bumps : List (List Nat) → List Nat
  | [] => []
  | b :: bs => bump b ++ bumps bs
/-- the list of the tree with some branches -/
def rootN (bs : List (List Nat)) : List Nat := 0 :: bumps bs
/-- the canonical list -/
def canO : Nat → List Nat → Option (List Nat)
  | 0, _ => none
  | f + 1, t => match brO t with
    | none => none
    | some bs => match mapO (canO f) bs with
      | none => none
      | some cs => some (rootN (srtD cs))

/-- one more than the last place below k whose level is one less; 0 if there is none -/
def parN (t : List Nat) (lev : Nat) : Nat → Nat
  | 0 => 0
  | k + 1 => bif Nat.beq (t.getD k 0 + 1) lev then k + 1 else parN t lev k
def parF (t : List Nat) : List Nat → Nat → List Nat
  | [], _ => []
  | l :: ls, i => parN t l i :: parF t ls (i + 1)
/-- the parents of the nodes, each by one more than its place -/
def parents (t : List Nat) : List Nat := parF t t 0
/-- one more at the end of the list at a place -/
def addAt (x : Nat) : Nat → List (List Nat) → List (List Nat)
  | _, [] => []
  | 0, b :: bs => (b ++ [x]) :: bs
  | i + 1, b :: bs => b :: addAt x i bs
/-- the canonical tree with a root (fr: one more than the node from which it is come to, or 0) -/
def tfO : Nat → List (List Nat) → Nat → Nat → Option (List Nat)
  | 0, _, _, _ => none
  | f + 1, near, root, fr => match near[root]? with
    | none => none
    | some ns => match mapO (fun n => tfO f near n (root + 1)) (ns.filter fun n => !Nat.beq (n + 1) fr) with
      | none => none
      | some bs => canO 9 (rootN bs)
/-- before in the order of trees -/
def befN (s t : List Nat) : Bool := bif Nat.beq s.length t.length then ltN t s else Nat.blt s.length t.length
/- of the reference -/
/-- all lists of so many levels that begin with a list: the greater ones first -/
def grow1 (t : List Nat) (last : Nat) : Nat → List (List Nat)
  | 0 => []
  | l + 1 => (t ++ [l + 1]) :: grow1 t last l
def lastN : List Nat → Nat
  | [] => 0
  | [a] => a
  | _ :: b :: bs => lastN (b :: bs)
def levs : Nat → List (List Nat)
  | 0 => [[0]]
  | n + 1 => (levs n).flatMap fun t => grow1 t (lastN t) (lastN t + 1)
end Go.Proofs.Ytofabikjjkapmaa

set_option maxRecDepth 100000
set_option linter.unusedVariables false
set_option linter.unusedSimpArgs false
namespace Go.Proofs.Ytofabikjjkapmaa
open Go.RowKit

theorem sliced_cells {w : World} {A : Option Addr} {n c : Nat} {vs : List Value} (h : Cells w (.slice A n c) vs) {k m : Nat} (hk : k ≤ m) (hm : m ≤ vs.length) :
    ∃ X, sliced A k m c 1 = .slice X (m - k) (c - k) ∧ Cells w (.slice X (m - k) (c - k)) ((vs.take m).drop k) := by
  obtain ⟨A', c', he, h1, h2, h3⟩ := h
  simp only [Value.slice.injEq] at he
  obtain ⟨rfl, rfl, rfl⟩ := he
  refine ⟨_, rfl, ?_⟩
  have hl : ((vs.take m).drop k).length = m - k := by rw [List.length_drop, List.length_take]; omega
  refine ⟨_, _, by rw [hl], by rw [hl]; omega, by omega, fun j u hj => ?_⟩
  have hjl := (List.getElem?_eq_some_iff.1 hj).1
  rw [hl] at hjl
  rw [List.getElem?_drop, List.getElem?_take, if_pos (by omega)] at hj
  obtain ⟨ad, rfl, hc⟩ := h3 _ u hj
  have hne : ¬ c = k := by omega
  refine ⟨ad.add (k * 1), by simp [hne], ?_⟩
  rw [add_add', Nat.mul_one]
  exact hc

/-- a slice of a list of numbers that is read, from k to m -/
theorem slice_ints {w : World} {A : Option Addr} {n c : Nat} {zs : List Int} (h : Ints w (.slice A n c) zs) {k m : Nat} (hk : k ≤ m) (hm : m ≤ zs.length) :
    ∃ X, sliced A k m c 1 = .slice X (m - k) (c - k) ∧ Ints w (.slice X (m - k) (c - k)) ((zs.take m).drop k) := by
  obtain ⟨X, h1, h2⟩ := sliced_cells h.1 hk (by rw [ints_len]; exact hm)
  refine ⟨X, h1, ?_, fun z hz => h.2 z (List.mem_of_mem_take (List.mem_of_mem_drop hz))⟩
  simpa [ints, List.map_take, List.map_drop] using h2

/-- rows that can be read: each a list of numbers in a block from B on -/
def RR (w : World) (B : Nat) (vs : List Value) (xss : List (List Int)) : Prop :=
  vs.length = xss.length ∧ ∀ (k : Nat) (u : Value) (zs : List Int), vs[k]? = some u → xss[k]? = some zs → OwnInts w B tI u zs
section
variable {w w' : World} {B : Nat} {vs : List Value} {xss : List (List Int)}
theorem RR.nil (w : World) (B : Nat) : RR w B [] [] := ⟨rfl, fun k u zs h => by simp at h⟩
theorem RR.below (h : RR w B vs xss) (hb : Below w.heap.size w w') : RR w' B vs xss := ⟨h.1, fun k u zs hu hz => (h.2 k u zs hu hz).below hb⟩
theorem RR.mono {B' : Nat} (h : RR w B vs xss) (hB : B' ≤ B) : RR w B' vs xss := ⟨h.1, fun k u zs hu hz => (h.2 k u zs hu hz).mono hB⟩
theorem RR.snoc {u : Value} {zs : List Int} (h : RR w B vs xss) (hu : OwnInts w B tI u zs) : RR w B (vs ++ [u]) (xss ++ [zs]) := by
  refine ⟨by simp [h.1], fun k u' zs' hk hz => ?_⟩
  by_cases hlt : k < vs.length
  · rw [List.getElem?_append_left hlt] at hk
    rw [List.getElem?_append_left (by rw [← h.1]; exact hlt)] at hz
    exact h.2 k u' zs' hk hz
  · have hkl := (List.getElem?_eq_some_iff.1 hk).1
    simp at hkl
    have : k = vs.length := by omega
    subst this
    rw [List.getElem?_append_right (Nat.le_refl _)] at hk
    rw [List.getElem?_append_right (by rw [h.1]; exact Nat.le_refl _), h.1] at hz
    simp at hk hz
    subst hk; subst hz
    exact hu
theorem RR.set {k : Nat} {u : Value} {zs : List Int} (h : RR w B vs xss) (hu : OwnInts w B tI u zs) : RR w B (vs.set k u) (xss.set k zs) := by
  refine ⟨by simp [h.1], fun j u' zs' hj hz => ?_⟩
  rw [List.getElem?_set] at hj hz
  by_cases hjk : k = j
  · subst hjk
    rw [if_pos rfl] at hj hz
    split at hj
    · rw [if_pos (by rw [← h.1]; assumption)] at hz
      injection hj with hj; injection hz with hz
      subst hj; subst hz
      exact hu
    · cases hj
  · rw [if_neg hjk] at hj hz
    exact h.2 j u' zs' hj hz
/-- a block whose elements have another type has turned -/
theorem RR.other {v : Value} {e : TypeId} {B' : Nat} {us : List Value} (h : RR w B vs xss) (hg : w.grownBy w' v.ownBlock) (ho : Own w B' e v us) (hne : tI ≠ e) : RR w' B vs xss :=
  ⟨h.1, fun k u zs hu hz => (h.2 k u zs hu hz).kept hg ((h.2 k u zs hu hz).1.ne_of_type ho hne)⟩
theorem RR.rows {v : Value} {e : TypeId} {B' : Nat} (h : RR w B vs xss) (ho : Own w B' e v vs) : Rows w v xss :=
  ⟨vs, ho.cells, h.1, fun k u zs hu hz => (h.2 k u zs hu hz).ints⟩
theorem RR.oneCell (h : RR w B vs xss) : ∀ u ∈ vs, u.oneCell' = true := by
  intro u hu
  obtain ⟨k, hk, rfl⟩ := List.getElem_of_mem hu
  have hx : xss[k]? = some (xss[k]'(by rw [← h.1]; exact hk)) := List.getElem?_eq_getElem _
  rcases (h.2 k _ _ (List.getElem?_eq_getElem hk) hx).1.cases with ⟨e, _⟩ | ⟨g, cap, cur, e, _⟩ <;> rw [e] <;> rfl
end

/-- a list of lists of one's own whose rows can be read -/
def LL (w : World) (B : Nat) (v : Value) (xss : List (List Int)) : Prop := ∃ vs, Own w B tL v vs ∧ RR w B vs xss
section
variable {w w' : World} {B : Nat} {v : Value} {xss : List (List Int)}
theorem LL.rows (h : LL w B v xss) : Rows w v xss := by obtain ⟨vs, h1, h2⟩ := h; exact h2.rows h1
theorem LL.below (h : LL w B v xss) (hb : Below w.heap.size w w') : LL w' B v xss := by obtain ⟨vs, h1, h2⟩ := h; exact ⟨vs, h1.below hb, h2.below hb⟩
theorem LL.mono {B' : Nat} (h : LL w B v xss) (hB : B' ≤ B) : LL w B' v xss := by obtain ⟨vs, h1, h2⟩ := h; exact ⟨vs, h1.mono hB, h2.mono hB⟩
theorem LL.nil (w : World) (B : Nat) : LL w B (.slice none 0 0) [] := ⟨[], Own.nil _ _ _, RR.nil _ _⟩
/-- one row more, made after all else -/
theorem LL.snoc {w1 : World} {vs : List Value} {u v1 : Value} {zs : List Int} (h1 : Own w B tL v vs) (h2 : RR w B vs xss) (hu : OwnInts w B tI u zs) (ho : Own w1 B tL v1 (vs ++ [u])) (hg : w.grownBy w1 v.ownBlock) : RR w1 B (vs ++ [u]) (xss ++ [zs]) :=
  (h2.snoc hu).other hg h1 (by decide)
end

/-- branches that are gathered: rows whose blocks lie before M, and the last row of one's own from M on -/
structure BrS (w : World) (B M : Nat) (o : Value) (vs : List Value) (bs : List (List Int)) : Prop where
  own : Own w B tL o vs
  rows : RR w B vs bs
  old : ∀ (k : Nat) (u : Value), k + 1 < vs.length → vs[k]? = some u → ∀ b, u.ownBlock = some b → b < M
  last : ∀ (u : Value) (zs : List Int), vs[vs.length - 1]? = some u → bs[vs.length - 1]? = some zs → OwnInts w M tI u zs
  le : B ≤ M
  lt : M ≤ w.heap.size

theorem BrS.push {w w1 : World} {B M : Nat} {o v1 u : Value} {vs : List Value} {bs : List (List Int)} {zs : List Int} (h : BrS w B M o vs bs) (hu : OwnInts w w.heap.size tI u zs) (ho : Own w1 B tL v1 (vs ++ [u])) (hg : w.grownBy w1 o.ownBlock) (hge : ∀ b, u.ownBlock = some b → w.heap.size ≤ b) :
    BrS w1 B w.heap.size v1 (vs ++ [u]) (bs ++ [zs]) := by
  have hB : B ≤ w.heap.size := Nat.le_trans h.le h.lt
  have hr := LL.snoc h.own h.rows (hu.mono hB) ho hg
  have hkeep := hu.kept hg (hu.1.ne_of_type h.own (by decide))
  refine ⟨ho, hr, fun k u' hk hu' b hb => ?_, fun u' zs' hu' hz' => ?_, hB, hg.size⟩
  · simp at hk
    rw [List.getElem?_append_left hk] at hu'
    have hx : bs[k]? = some (bs[k]'(by rw [← h.rows.1]; exact hk)) := List.getElem?_eq_getElem _
    exact (h.rows.2 k u' _ hu' hx).1.lt b hb
  · simp at hu'
    have e : (vs ++ [u]).length - 1 = bs.length := by simp [h.rows.1]
    rw [e, List.getElem?_append_right (Nat.le_refl _)] at hz'
    simp at hz'
    subst hu'; subst hz'
    exact hkeep

/-- the last row has grown: it is stored -/
theorem BrS.grow {w w1 : World} {B M g : Nat} {o u u1 : Value} {vs : List Value} {bs : List (List Int)} {zs zs1 : List Int} (h : BrS w B M o vs bs) (hu : vs[vs.length - 1]? = some u) (hz : bs[vs.length - 1]? = some zs)
    (ho : OwnInts w1 M tI u1 zs1) (hg : w.grownBy w1 u.ownBlock) (hob : o.ownBlock = some g) (hown : Own (w1.setCell ⟨g, vs.length - 1, none⟩ u1) B tL o (vs.set (vs.length - 1) u1)) :
    BrS (w1.setCell ⟨g, vs.length - 1, none⟩ u1) B M o (vs.set (vs.length - 1) u1) (bs.set (vs.length - 1) zs1) := by
  have hl := h.last u zs hu hz
  have hpos := (List.getElem?_eq_some_iff.1 hu).1
  have how1 : Own w1 B tL o vs := h.own.kept hg (h.own.ne_of_type hl.1 (by decide))
  have hset : w1.grownBy (w1.setCell ⟨g, vs.length - 1, none⟩ u1) o.ownBlock := by
    rw [hob]
    exact ((Chg.refl g (g + 1) w1).setCell (p := ⟨g, vs.length - 1, none⟩) (Nat.le_refl _) (by simp) u1) |> fun c => ⟨c.os, c.tape, c.output, c.size, fun b hb hne => c.block b hb (by have : b ≠ g := fun e => hne (by rw [e]); omega)⟩
  have hrow1 : RR w1 B (vs.set (vs.length - 1) u1) (bs.set (vs.length - 1) zs1) := by
    refine ⟨by simp [h.rows.1], fun k u' zs' hk hz' => ?_⟩
    rw [List.getElem?_set] at hk hz'
    by_cases hkl : vs.length - 1 = k
    · subst hkl
      rw [if_pos rfl, if_pos hpos] at hk
      rw [if_pos rfl, if_pos (by rw [← h.rows.1]; exact hpos)] at hz'
      injection hk with hk; injection hz' with hz'
      subst hk; subst hz'
      exact ho.mono h.le
    · rw [if_neg hkl] at hk hz'
      have hkk := (List.getElem?_eq_some_iff.1 hk).1
      have hr := h.rows.2 k u' zs' hk hz'
      refine hr.kept hg ?_
      have hold := h.old k u' (by omega) hk
      cases hb : u'.ownBlock with
      | none => exact .inl hb
      | some b => exact .inr fun e => by have h1 := hold b hb; have h2 := hl.1.ge b (e.symm.trans hb); omega
  refine ⟨hown, hrow1.other hset how1 (by decide), fun k u' hk hu' b hb => ?_, fun u' zs' hu' hz' => ?_, h.le, ?_⟩
  · simp at hk
    rw [List.getElem?_set_ne (by omega)] at hu'
    exact h.old k u' hk hu' b hb
  · simp only [List.length_set] at hu' hz'
    rw [List.getElem?_set_self hpos] at hu'
    rw [List.getElem?_set_self (by rw [← h.rows.1]; exact hpos)] at hz'
    injection hu' with hu'; injection hz' with hz'
    subst hu'; subst hz'
    exact ho.kept hset (ho.1.ne_of_type how1 (by decide))
  · have h1 := hg.size
    have h2 := hset.size
    have h3 := h.lt
    omega

theorem BrS.openLast {w : World} {B M m : Nat} {o : Value} {vs : List Value} {bs : List (List Int)} (h : BrS w B M o vs bs) (hm : vs.length = m + 1) :
    ∃ g cap u zs, o = .slice (some ⟨g, 0, none⟩) (m + 1) cap ∧ m + 1 ≤ cap ∧ cap ≤ 9223372036854775807 ∧ vs[m]? = some u ∧ bs[m]? = some zs ∧ OwnInts w M tI u zs ∧ w.cell? ⟨g, m, none⟩ = some u := by
  have hbl : bs.length = m + 1 := by rw [← h.rows.1]; exact hm
  have hu : vs[m]? = some (vs[m]'(by omega)) := List.getElem?_eq_getElem _
  have hz : bs[m]? = some (bs[m]'(by omega)) := List.getElem?_eq_getElem _
  have hl := h.last _ _ (by rw [hm]; exact hu) (by rw [hm]; exact hz)
  rcases h.own.cases with ⟨_, e⟩ | ⟨g, cap, cur, e, h1, h2, h3, h4, h5, h6, h7⟩
  · rw [e] at hm; simp at hm
  · refine ⟨g, cap, _, _, by rw [e, hm], by omega, by simpa [maxLen] using h5, hu, hz, hl, ?_⟩
    subst e
    obtain ⟨ad, n', c', he, hc⟩ := h.own.cells.at_ hu
    simp only [Value.slice.injEq, Option.some.injEq] at he
    obtain ⟨rfl, -, -⟩ := he
    have e : (⟨g, 0, none⟩ : Addr).add m = ⟨g, m, none⟩ := by
      by_cases h0 : m = 0 <;> simp [Addr.add, h0]
    rwa [e] at hc

/-- behind the append to the last row: what the store wants -/
theorem BrS.ready {w w1 : World} {B M m g cap : Nat} {u u1 : Value} {vs : List Value} {bs : List (List Int)} {zs zs1 : List Int} (h : BrS w B M (.slice (some ⟨g, 0, none⟩) (m + 1) cap) vs bs) (hm : vs.length = m + 1) (hu : vs[m]? = some u) (hz : bs[m]? = some zs)
    (ho : OwnInts w1 M tI u1 zs1) (hg : w.grownBy w1 u.ownBlock) :
    (∃ u0, w1.cell? ⟨g, m, none⟩ = some u0) ∧ w1.frozen? ⟨g, m, none⟩ = false ∧ BrS (w1.setCell ⟨g, m, none⟩ u1) B M (.slice (some ⟨g, 0, none⟩) (m + 1) cap) (vs.set m u1) (bs.set m zs1) := by
  have hlu := h.last u zs (by rw [hm]; exact hu) (by rw [hm]; exact hz)
  have how1 : Own w1 B tL (.slice (some ⟨g, 0, none⟩) (m + 1) cap) vs := h.own.kept hg (h.own.ne_of_type hlu.1 (by decide))
  obtain ⟨u0, -, hc, hf, -, -, hown, -⟩ := how1.storeAt (k := m) (by omega) u1
  have e : m = vs.length - 1 := by omega
  refine ⟨⟨u0, hc⟩, hf, ?_⟩
  have := h.grow (g := g) (u1 := u1) (by rw [← e]; exact hu) (by rw [← e]; exact hz) ho hg rfl (by rw [← e]; exact hown)
  rwa [← e] at this

/-- an empty row more -/
theorem BrS.pushNil {w w1 : World} {B M : Nat} {o v1 : Value} {vs : List Value} {bs : List (List Int)} (h : BrS w B M o vs bs) (ho : Own w1 B tL v1 (vs ++ [.slice none 0 0])) (hg : w.grownBy w1 o.ownBlock) :
    ∃ g cap, v1 = .slice (some ⟨g, 0, none⟩) (vs.length + 1) cap ∧ vs.length + 1 ≤ cap ∧ cap ≤ 9223372036854775807 ∧ BrS w1 B w.heap.size (.slice (some ⟨g, 0, none⟩) (vs.length + 1) cap) (vs ++ [.slice none 0 0]) (bs ++ [[]]) ∧
      w1.cell? ⟨g, vs.length, none⟩ = some (.slice none 0 0) ∧ g < w1.heap.size ∧ B ≤ g ∧ (vs ++ [Value.slice none 0 0])[vs.length]? = some (.slice none 0 0) ∧ (bs ++ [[]])[vs.length]? = some [] := by
  have hp := h.push (u := .slice none 0 0) (zs := []) (OwnInts.nil _ _ _) ho hg (fun b hb => by simp [Value.ownBlock] at hb)
  obtain ⟨g, cap, u, zs, e, h1, h2, hu, hz, hl, hc⟩ := hp.openLast (m := vs.length) (by simp)
  subst e
  have eu : (vs ++ [Value.slice none 0 0])[vs.length]? = some (.slice none 0 0) := by simp
  have ez : (bs ++ [[]])[vs.length]? = some [] := by rw [h.rows.1]; simp
  rw [eu] at hu
  injection hu with hu
  subst hu
  exact ⟨g, cap, rfl, h1, h2, hp, hc, World.block_lt_of_cell? w1 _ hc, hp.own.ge g rfl, eu, ez⟩

theorem BrS.below {w w' : World} {B M : Nat} {o : Value} {vs : List Value} {bs : List (List Int)} (h : BrS w B M o vs bs) (hb : Below w.heap.size w w') : BrS w' B M o vs bs :=
  ⟨h.own.below hb, h.rows.below hb, h.old, fun u zs hu hz => (h.last u zs hu hz).below hb, h.le, Nat.le_trans h.lt hb.size⟩

/-- an empty row more, which a literal has laid -/
theorem BrS.pushLit {w w1 : World} {B M : Nat} {o v1 : Value} {vs : List Value} {bs : List (List Int)} (h : BrS w B M o vs bs) (ho : Own w1 B tL v1 (vs ++ [.slice (some ⟨w.heap.size, 0, none⟩) 0 0])) (hg : (w.alloc (.cells #[] tI)).grownBy w1 o.ownBlock) :
    ∃ g cap, v1 = .slice (some ⟨g, 0, none⟩) (vs.length + 1) cap ∧ vs.length + 1 ≤ cap ∧ cap ≤ 9223372036854775807 ∧ BrS w1 B w.heap.size (.slice (some ⟨g, 0, none⟩) (vs.length + 1) cap) (vs ++ [.slice (some ⟨w.heap.size, 0, none⟩) 0 0]) (bs ++ [[]]) ∧
      w1.cell? ⟨g, vs.length, none⟩ = some (.slice (some ⟨w.heap.size, 0, none⟩) 0 0) ∧ g < w1.heap.size ∧ B ≤ g ∧ (vs ++ [Value.slice (some ⟨w.heap.size, 0, none⟩) 0 0])[vs.length]? = some (.slice (some ⟨w.heap.size, 0, none⟩) 0 0) ∧ (bs ++ [[]])[vs.length]? = some [] ∧
      OwnInts w1 w.heap.size tI (.slice (some ⟨w.heap.size, 0, none⟩) 0 0) [] := by
  have h' := h.below (below1 w (.cells #[] tI))
  have hB : B ≤ w.heap.size := Nat.le_trans h.le h.lt
  have hu : OwnInts (w.alloc (.cells #[] tI)) w.heap.size tI (.slice (some ⟨w.heap.size, 0, none⟩) 0 0) [] := ⟨own_lit w tI [] (by simp [maxLen]), fun z hz => by simp at hz⟩
  have hkeep := hu.kept hg (hu.1.ne_of_type h'.own (by decide))
  have hr := LL.snoc h'.own h'.rows (hu.mono hB) ho hg
  have hsz := hg.size
  have hp : BrS w1 B w.heap.size v1 (vs ++ [.slice (some ⟨w.heap.size, 0, none⟩) 0 0]) (bs ++ [[]]) := by
    refine ⟨ho, hr, fun k u' hk hu' b hb => ?_, fun u' zs' hu' hz' => ?_, hB, by rw [size_alloc'] at hsz; omega⟩
    · simp at hk
      rw [List.getElem?_append_left hk] at hu'
      have hx : bs[k]? = some (bs[k]'(by rw [← h.rows.1]; exact hk)) := List.getElem?_eq_getElem _
      exact (h.rows.2 k u' _ hu' hx).1.lt b hb
    · simp at hu'
      have e : (vs ++ [Value.slice (some ⟨w.heap.size, 0, none⟩) 0 0]).length - 1 = bs.length := by simp [h.rows.1]
      rw [e, List.getElem?_append_right (Nat.le_refl _)] at hz'
      simp at hz'
      subst hu'; subst hz'
      exact hkeep
  obtain ⟨g, cap, u, zs, e, h1, h2, hu2, hz, hl, hc⟩ := hp.openLast (m := vs.length) (by simp)
  subst e
  have eu : (vs ++ [Value.slice (some ⟨w.heap.size, 0, none⟩) 0 0])[vs.length]? = some (.slice (some ⟨w.heap.size, 0, none⟩) 0 0) := by simp
  have ez : (bs ++ [[]])[vs.length]? = some [] := by rw [h.rows.1]; simp
  rw [eu] at hu2
  injection hu2 with hu2
  subst hu2
  exact ⟨g, cap, rfl, h1, h2, hp, hc, World.block_lt_of_cell? w1 _ hc, hp.own.ge g rfl, eu, ez, hkeep⟩
end Go.Proofs.Ytofabikjjkapmaa

set_option maxRecDepth 100000
set_option linter.unusedVariables false
set_option linter.unusedSimpArgs false
namespace Go.Proofs.Ytofabikjjkapmaa
open Go.RowKit

theorem pairApart_perm {vs vs' : List Value} (h : vs.Pairwise Apart) (hp : vs'.Perm vs) : vs'.Pairwise Apart := (hp.pairwise_iff fun h => h.symm).2 h
theorem pairApart_cons {vs : List Value} {u : Value} (h : vs.Pairwise Apart) (hu : ∀ x ∈ vs, Apart x u) : (u :: vs).Pairwise Apart := List.pairwise_cons.2 ⟨fun x hx => (hu x hx).symm, h⟩
theorem pairApart_snoc {vs : List Value} {u : Value} (h : vs.Pairwise Apart) (hu : ∀ x ∈ vs, Apart x u) : (vs ++ [u]).Pairwise Apart := pairApart_perm (pairApart_cons h hu) (List.perm_append_singleton u vs)
theorem pairApart_ins {vs : List Value} {u : Value} (h : vs.Pairwise Apart) (hu : ∀ x ∈ vs, Apart x u) (a : Nat) : ([] ++ vs.take a ++ ([u] ++ vs.drop a)).Pairwise Apart := by
  refine pairApart_perm (pairApart_cons h hu) ?_
  have h1 : ([] ++ vs.take a ++ ([u] ++ vs.drop a)).Perm (u :: (vs.take a ++ vs.drop a)) := by
    rw [List.nil_append, List.singleton_append]
    exact List.perm_middle
  rwa [List.take_append_drop] at h1
/-- a row that has just been made lies apart from rows that were there -/
theorem RR.fresh {w : World} {B M : Nat} {vs : List Value} {xss : List (List Int)} {u : Value} (h : RR w B vs xss) (hM : w.heap.size ≤ M) (hu : ∀ b, u.ownBlock = some b → M ≤ b) : ∀ x ∈ vs, Apart x u := by
  intro x hx
  obtain ⟨k, hk, rfl⟩ := List.getElem_of_mem hx
  have hz : xss[k]? = some (xss[k]'(by rw [← h.1]; exact hk)) := List.getElem?_eq_getElem _
  exact apart_of_lt (fun b hb => Nat.lt_of_lt_of_le ((h.2 k _ _ (List.getElem?_eq_getElem hk) hz).1.lt b hb) hM) hu

def LA (w : World) (B : Nat) (v : Value) (xss : List (List Int)) : Prop := ∃ vs, Own w B tL v vs ∧ RR w B vs xss ∧ vs.Pairwise Apart
section
variable {w w' : World} {B : Nat} {v : Value} {xss : List (List Int)}
theorem LA.ll (h : LA w B v xss) : LL w B v xss := by obtain ⟨vs, h1, h2, -⟩ := h; exact ⟨vs, h1, h2⟩
theorem LA.below (h : LA w B v xss) (hb : Below w.heap.size w w') : LA w' B v xss := by obtain ⟨vs, h1, h2, h3⟩ := h; exact ⟨vs, h1.below hb, h2.below hb, h3⟩
theorem LA.mono {B' : Nat} (h : LA w B v xss) (hB : B' ≤ B) : LA w B' v xss := by obtain ⟨vs, h1, h2, h3⟩ := h; exact ⟨vs, h1.mono hB, h2.mono hB, h3⟩
theorem LA.rows (h : LA w B v xss) : Rows w v xss := h.ll.rows
theorem LA.nil (w : World) (B : Nat) : LA w B (.slice none 0 0) [] := ⟨[], Own.nil _ _ _, RR.nil _ _, List.Pairwise.nil⟩
theorem LA.or (h : LA w B v xss) : OR w B w.heap.size tL tI v xss := by
  obtain ⟨vs, h1, h2, h3⟩ := h
  refine ⟨vs, h1, h1.lt, h2.1, fun k u zs hu hz => OI.of (h2.2 k u zs hu hz), fun i j u u' hij hu hu' => ?_⟩
  have hi := (List.getElem?_eq_some_iff.1 hu).1
  have hj := (List.getElem?_eq_some_iff.1 hu').1
  have := List.pairwise_iff_getElem.1 h3 i j hi hj hij
  rw [(List.getElem?_eq_some_iff.1 hu).2, (List.getElem?_eq_some_iff.1 hu').2] at this
  exact this
end
end Go.Proofs.Ytofabikjjkapmaa

set_option maxRecDepth 100000
set_option linter.unusedVariables false
set_option linter.unusedSimpArgs false
namespace Go.Proofs.Ytofabikjjkapmaa
open Go.RowKit

theorem sizeI (W : World) : (sizeOf (Try.prog.elem 34)).run Try.prog W = .ok 1 W := by kernel_rfl
theorem sizeL (W : World) : (sizeOf (Try.prog.elem 22)).run Try.prog W = .ok 1 W := by kernel_rfl

theorem sl_from {t : TypeId} (ht : Try.prog.underlying t = some (.slice (Try.prog.elem t))) (hs : ∀ W, (sizeOf (Try.prog.elem t)).run Try.prog W = .ok 1 W) (W : World) (A : Option Addr) (n c k : Nat) (K : Int) (hK : K = k) (h : k ≤ n) :
    (Instr.slice t (.slice A n c) (some (.int .i64 K)) none none).run Try.prog W = .ok (sliced A k n c 1) W := by
  subst hK
  rw [run_slice_l W t A n c ht .i64 k (by omega) (by omega), hs]
  simp [Result.andThen]
theorem sl_to {t : TypeId} (ht : Try.prog.underlying t = some (.slice (Try.prog.elem t))) (hs : ∀ W, (sizeOf (Try.prog.elem t)).run Try.prog W = .ok 1 W) (W : World) (A : Option Addr) (n c k : Nat) (K : Int) (hK : K = k) (h : k ≤ c) :
    (Instr.slice t (.slice A n c) none (some (.int .i64 K)) none).run Try.prog W = .ok (sliced A 0 k c 1) W := by
  subst hK
  rw [run_slice_h W t A n c ht .i64 k (by omega) (by omega), hs]
  simp [Result.andThen]
/-- 't[k:]' of a list of numbers -/
theorem ints_from {w : World} {A : Option Addr} {n c : Nat} {zs : List Int} (h : Ints w (.slice A n c) zs) (k : Nat) (K : Int) (hK : K = k) (hk : k ≤ zs.length) :
    ∃ X, (∀ W, (Instr.slice 34 (.slice A n c) (some (.int .i64 K)) none none).run Try.prog W = .ok (.slice X (zs.length - k) (c - k)) W) ∧ Ints w (.slice X (zs.length - k) (c - k)) (zs.drop k) := by
  have hn : n = zs.length := by obtain ⟨A', c', e, -, -, -⟩ := h.open_; simp only [Value.slice.injEq] at e; exact e.2.1
  obtain ⟨X, h1, h2⟩ := slice_ints h (k := k) (m := zs.length) hk (Nat.le_refl _)
  rw [List.take_length] at h2
  exact ⟨X, fun W => by rw [sl_from Try.underlying34 sizeI W A n c k K hK (by omega), hn, h1], h2⟩
/-- append of one element, whose block's number the walk has reckoned -/
theorem wpList_app1n {P : Program} {ops : Array Oper} {rest : List Oper} {o : Oper} {a : Act} {Q : Exit → Act → World → Prop} {s x : Operand} {t : TypeId}
    {e : TypeId} {z : Value} {bytes : Nat} {B : Nat} {v : Value} {vs : List Value} {W : World} {u : Value} (gn : Nat) (hgn : W.heap.size = gn)
    (T : ElemT P t e z bytes) (hown : Own W B e v vs) (hlen : vs.length < 1099511627776) (hB : B ≤ W.heap.size) (hu : u.oneCell' = true)
    (hgd : o.guard = none) (ho : o.op = .call { callee := .builtin .append, args := #[s, x], argTypes := #[t, t] }) (hs : a.eval s = v)
    (hx : a.eval x = .slice (some ⟨gn, 0, none⟩) 1 1)
    (h : ∀ v' w', Own w' B e v' (vs ++ [u]) → Grow W w' v v' → wpList P ops Q rest (a.put o.dst v') w') : wpList P ops Q (o :: rest) a (W.alloc (.cells #[u] e)) := by
  subst hgn
  exact wpList_app1 T hown hlen hB hu hgd ho hs hx h
end Go.Proofs.Ytofabikjjkapmaa

set_option linter.unusedVariables false
set_option linter.unusedSimpArgs false
namespace Go.Proofs.Ytofabikjjkapmaa

/-- lo ≤ n ≤ hi, as a test -/
def inR (n lo hi : Int) : Bool := decide (lo ≤ n) && decide (n ≤ hi)
theorem inR_iff {n lo hi : Int} : inR n lo hi = true ↔ lo ≤ n ∧ n ≤ hi := by simp [inR]
end Go.Proofs.Ytofabikjjkapmaa

set_option linter.unusedVariables false
set_option linter.unusedSimpArgs false
namespace Go.Proofs.Ytofabikjjkapmaa
open Go.RowKit

end Go.Proofs.Ytofabikjjkapmaa

set_option linter.unusedVariables false
set_option linter.unusedSimpArgs false
namespace Go.Proofs.Ytofabikjjkapmaa
open Go.RowKit

/-- append of one element, met in a region that draws -/
theorem step_app1 {P : Program} {ops : Array Oper} {o : Oper} {a : Act} {K : Act → World → Prop} {Q : Exit → Act → World → Prop} {E : Prop} {s x : Operand} {t : TypeId}
    {e : TypeId} {z : Value} {bytes : Nat} {B : Nat} {v : Value} {vs : List Value} {W : World} {u : Value}
    (T : ElemT P t e z bytes) (hown : Own W B e v vs) (hlen : vs.length < 1099511627776) (hB : B ≤ W.heap.size) (hu : u.oneCell' = true)
    (hgd : o.guard = none) (ho : o.op = .call { callee := .builtin .append, args := #[s, x], argTypes := #[t, t] }) (hs : a.eval s = v)
    (hx : a.eval x = .slice (some ⟨W.heap.size, 0, none⟩) 1 1)
    (h : ∀ v' w', Own w' B e v' (vs ++ [u]) → Grow W w' v v' → K (a.put o.dst v') w') :
    if Region.wanted o (yielded ops a.tmps) = true then Oper.wp P o a (W.alloc (.cells #[u] e)) K Q else E := by
  have hw : Region.wanted o (yielded ops a.tmps) = true := by simp [Region.wanted, hgd]
  rw [if_pos hw]
  obtain ⟨i, hi, hz, h1, h2⟩ := info_parts T.info
  have hby := T.small
  obtain ⟨v', w', hrun, r1, r2, _, r3⟩ := run_append_own_at (P := P) (W.alloc (.cells #[u] e)) B t o.type e i z 1 bytes T.under hi hz h1 h2 (by rw [T.one]; rfl) (by omega) v vs.length vs (hown.alloc _) ⟨W.heap.size, 0, none⟩ 1 1 [u] rfl
    (fun j u' hj => by
      cases j with
      | zero =>
        simp at hj; subst hj
        have e0 : (⟨W.heap.size, 0, none⟩ : Addr).add 0 = ⟨W.heap.size, 0, none⟩ := rfl
        rw [e0, World.cell?_alloc_at _ _ _ _ rfl]
        rfl
      | succ j => simp at hj) (by simpa using hu) (by simp only [maxLen]; omega) (by have := Nat.mul_le_mul_left (vs.length + 1) hby; omega) (by simp; omega)
  unfold Oper.wp execOp
  simp only [ho, resolve, invoke, builtin, Sem.run_bind, Sem.run_pure, Result.andThen_ok, List.map_toArray, List.map_cons, List.map_nil, hs, hx, hrun]
  refine h v' w' ?_ ⟨?_, ?_⟩
  · unfold Own; simpa using r1
  · refine ⟨r2.os, r2.tape, r2.output, ?_, fun k hk hne => ?_⟩
    · have := r2.size; simp at this; omega
    · rw [r2.block k (by simp; omega) hne]
      exact Below.heap_alloc _ _ _ hk
  · rcases r3 with r3 | r3
    · exact .inl r3
    · exact .inr ⟨_, r3, by simp⟩

end Go.Proofs.Ytofabikjjkapmaa

