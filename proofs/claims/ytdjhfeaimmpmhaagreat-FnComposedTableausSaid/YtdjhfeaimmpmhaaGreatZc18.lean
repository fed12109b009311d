/- Plain: the trees of at most eight nodes, cut up: the kernel looks at all of them. First part. | Plain: the trees of at most eight nodes, cut up: the kernel looks at all of them. Second part. | Plain: the trees of at most eight nodes, cut up: put together. | Walk: cutUp of the program. | Walk: partitionsOf of the program. | Plain: substitution of maps by partitions, as the program and as the reference reckon it. No walk. | Words of memory: partitions by places, and lists of lists of them. No walk. | FnExactSubstitutionUnit is true: the program's SubstitutionUnit and the reference's return the same list, each in memory of its own. No condition. | Plain: substitution of maps, its inverse, and the map whose substitution is another one, as both reckon them. No walk. | Plain: the cuts of a tree as the reference reckons them, with every premise of the walk; they are the program's. | Plain: the convolution of maps as both reckon it; the program's lists of cuts in memory. No walk. | Plain: substitution of lists of numbers is the one by the table of places; associative, units, inverses on both sides, powers. No walk. | Plain: Hamiltonian maps and their free numbers: the conditions tell all values, and the values so made have the conditions; kernel checks. No walk. | Plain: the inverse of a character as the program reckons it (a list that grows) and as the reference does (stores into a unit); they are equal. Scaled maps. No walk. | Plain: repeated convolutions with scaled maps. No walk. -/
import Derived.Test.YtdjhfeaimmpmhaaGreatZc10
import Derived.Test.YtdjhfeaimmpmhaaGreatZc7
import Derived.Deep.CutRange
import Derived.Deep.DeepCutAuto
import Derived.Test.YtdjhfeaimmpmhaaGreatZc17
import Derived.Test.YtdjhfeaimmpmhaaGreatZc11
import Derived.BigQuiet
import Derived.Deep.QuietTactic
import Derived.Test.YtdjhfeaimmpmhaaGreatZc15
import Derived.Deep.CutBlock
import Derived.Test.YtdjhfeaimmpmhaaGreatZc1
import Derived.Test.YtdjhfeaimmpmhaaGreatRows
import Derived.Test.YtdjhfeaimmpmhaaGreatZc3
import Derived.WalkLawsBesides
import Derived.Test.YtdjhfeaimmpmhaaGreatZc4
import Derived.Test.YtdjhfeaimmpmhaaGreatZc5
import Derived.Test.YtdjhfeaimmpmhaaGreatZc16
set_option maxRecDepth 100000
namespace Go.Proofs.YtdjhfeaimmpmhaaGreat
end Go.Proofs.YtdjhfeaimmpmhaaGreat

set_option maxRecDepth 100000
namespace Go.Proofs.YtdjhfeaimmpmhaaGreat
end Go.Proofs.YtdjhfeaimmpmhaaGreat

set_option linter.unusedVariables false
set_option linter.unusedSimpArgs false
set_option maxRecDepth 100000
namespace Go.Proofs.YtdjhfeaimmpmhaaGreat

end Go.Proofs.YtdjhfeaimmpmhaaGreat

set_option maxRecDepth 100000
set_option linter.unusedVariables false
set_option linter.unusedSimpArgs false
namespace Go.Proofs.YtdjhfeaimmpmhaaGreat
open Go.RowKit

theorem BT.ne_blk {w : World} {e t : TypeId} {v : Value} {p : Nat} {cs : Array Value} (h : BT w e v) (hk : Blk w p t cs) (hne : e ≠ t) : v.ownBlock ≠ some p := by
  intro hb
  rcases h with h | ⟨g, cur, fz, h, hg⟩
  · rw [h] at hb; cases hb
  · rw [h] at hb
    injection hb with hb
    subst hb
    have h2 : w.heap[g]? = some (.cells cs t (0, 0)) := hk
    rw [hg] at h2
    injection h2 with h2
    injection h2 with _ h2
    exact hne h2
theorem Blk.kept {w w' : World} {p : Nat} {t : TypeId} {cs : Array Value} {row : Option Nat} (h : Blk w p t cs) (hg : w.grownBy w' row) (hne : row ≠ some p) : Blk w' p t cs :=
  (hg.block p h.lt (fun e => hne e.symm)).trans h
end Go.Proofs.YtdjhfeaimmpmhaaGreat

set_option maxRecDepth 100000
set_option linter.unusedVariables false
set_option linter.unusedSimpArgs false
namespace Go.Proofs.YtdjhfeaimmpmhaaGreat
open Go.RowKit

/-- the pieces and the skeleton of a mask -/
def prtN (t : List Nat) (m : Nat) : PK := (srtB ((mapO (fun i => canO 9 (pieN t m i)) (0 :: cutsN m (t.length - 1) 1)).getD []), (canO 9 (sklN t m)).getD [])
end Go.Proofs.YtdjhfeaimmpmhaaGreat

set_option maxRecDepth 100000
set_option linter.unusedVariables false
set_option linter.unusedSimpArgs false
namespace Go.Proofs.YtdjhfeaimmpmhaaGreat
open Go.RowKit

/-! ### partitions by places -/
/-! ### what the kernel finds of the partitions of the trees of maps -/
def okPl (x : List Nat) : Bool := Nat.beq (fndN T6n x) (idxN T6n x) && Nat.ble (idxN T6n x) 37 && Nat.ble 1 (idxN T6n x) && Nat.ble x.length 6
end Go.Proofs.YtdjhfeaimmpmhaaGreat

set_option maxRecDepth 100000
set_option linter.unusedVariables false
set_option linter.unusedSimpArgs false
namespace Go.Proofs.YtdjhfeaimmpmhaaGreat
open Go.RowKit

section
variable {w w' : World} {B : Nat} {us : List Value} {xss : List (List MC)}
end

end Go.Proofs.YtdjhfeaimmpmhaaGreat

set_option linter.unusedVariables false
set_option linter.unusedSimpArgs false
namespace Go.Proofs.YtdjhfeaimmpmhaaGreat
open Go.RowKit

end Go.Proofs.YtdjhfeaimmpmhaaGreat

set_option maxRecDepth 100000
set_option linter.unusedVariables false
set_option linter.unusedSimpArgs false
namespace Go.Proofs.YtdjhfeaimmpmhaaGreat
open Go.RowKit

/-! ### the partitions of the trees of maps -/
structure PrA (t : List Nat) (i : Nat) (sk : List Nat) (pcs : List (List Nat)) : Prop where
  hsk : canO 9 (sklN t (2 * i)) = some sk
  hpc : mapO (fun j => canO 9 (pieN t (2 * i) j)) (0 :: cutsN (2 * i) (t.length - 1) 1) = some pcs
  prt : prtN t (2 * i) = (srtB pcs, sk)
  osk : okPl sk = true
  opc : ∀ q ∈ srtB pcs, okPl q = true
  pl : (srtB pcs).length ≤ 8
  pie : ∀ j, j < t.length → (pieN t (2 * i) j).length ≤ 8
  full : i + 1 = 2 ^ (t.length - 1) ↔ idxN T6n sk = idxN T6n t
  one : i = 0 ↔ idxN T6n sk = 1
/-! ### sums over masks -/
/-! ### substitution -/
theorem getD_nums {a : List Int} (h : Nums a) (k : Nat) : 0 ≤ a.getD k 0 ∧ a.getD k 0 ≤ 10006 := by
  rw [List.getD_eq_getElem?_getD]
  cases hk : a[k]? with
  | none => simp
  | some z => exact h z (List.mem_of_getElem? hk)
/-! ### lists that are filled one place after the other -/
/-! ### the inverse by substitution -/
/-! ### the map whose substitution into a is another one -/
end Go.Proofs.YtdjhfeaimmpmhaaGreat

set_option maxRecDepth 100000
set_option linter.unusedVariables false
set_option linter.unusedSimpArgs false
namespace Go.Proofs.YtdjhfeaimmpmhaaGreat
open Go.RowKit

abbrev SC := SP × Nat
/-! ### the order of cuts: 0 for equal ones, 1 for less, 2 for greater -/
def scan5 : List (List Nat) → List (List Nat) → Nat
  | x :: f, y :: g => bif befN x y then 1 else bif befN y x then 2 else scan5 f g
  | _, _ => 0
def cmp5 (f g : List (List Nat)) : Nat := bif Nat.beq f.length g.length then scan5 f g else bif Nat.blt f.length g.length then 1 else 2
def ord5 (a b : SP) : Nat := bif Nat.beq (ndN a.1) (ndN b.1) then (match cmp5 a.1 b.1 with
    | 0 => cmp5 a.2 b.2
    | k + 1 => k + 1)
  else bif Nat.blt (ndN a.1) (ndN b.1) then 1 else 2
/-! ### one more cut -/
def step5 (cut : SC) (st : List SC × Bool) (own : SC) : List SC × Bool := match st.2 with
  | true => (st.1 ++ [own], true)
  | false => match ord5 cut.1 own.1 with
    | 0 => (st.1 ++ [(own.1, own.2 + cut.2)], true)
    | 1 => (st.1 ++ [cut] ++ [own], true)
    | _ => (st.1 ++ [own], false)
def put5S (cut : SC) (l : List SC) : List SC × Bool := l.foldl (step5 cut) ([], false)
def put5 (l : List SC) (cut : SC) : List SC := match (put5S cut l).2 with
  | true => (put5S cut l).1
  | false => (put5S cut l).1 ++ [cut]
def tim5 (x y : SC) : SC := ((srtB (x.1.1 ++ y.1.1), srtB (x.1.2 ++ y.1.2)), x.2 * y.2)
def row5 (b : List SC) (x : SC) (out : List SC) : List SC := b.foldl (fun out y => put5 out (tim5 x y)) out
def times5 (a b : List SC) : List SC := a.foldl (fun out x => row5 b x out) []
/-! ### premises -/
def okC5 (x : SC) : Bool := okS1 x.1 && Nat.ble x.2 100
def okL5 (l : List SC) : Bool := Nat.ble l.length 100 && l.all okC5
def loop5 (g : List Nat → Option (List SC)) : List (List Nat) → List SC → Option (List SC)
  | [], acc => some acc
  | b :: bs, acc => match g b with
    | none => none
    | some lb => bif okL5 acc && (okL5 lb && okL5 (times5 acc lb)) then loop5 g bs (times5 acc lb) else none
def root5 (x : SC) : Option SC := bif okT1 (rootN x.1.2) && Nat.ble (brLen x.1.2) 1000 then match canO 9 (rootN x.1.2) with
    | none => none
    | some r => bif okT1 r then some ((x.1.1, [r]), x.2) else none
  else none
def tree5 : Nat → List Nat → Option (List SC)
  | 0, _ => none
  | f + 1, t => bif okT1 t then match canO 9 t with
      | none => none
      | some c => bif okT1 c then match brO c with
        | none => none
        | some ps => bif Nat.ble ps.length 100 && ps.all okT1 then match loop5 (tree5 f) (srtB ps) [(([], []), 1)] with
          | none => none
          | some l => bif okL5 l then match mapO root5 l with
            | none => none
            | some l2 => bif okL5 l2 && okL5 (l2.foldl put5 [(([t], []), 1)]) then some (l2.foldl put5 [(([t], []), 1)]) else none
          else none
        else none
      else none
  else none
/-- the cuts of a tree -/
def cut5 (x : SC) : CU := ((x.1.1, x.1.2.headD []), x.2)
/-- by places -/
def mcR (c : CU) : MC := ((c.1.1.map (fndN T6n), fndN T6n c.1.2), c.2)
def eqMC (x y : MC) : Bool := eqN x.1.1 y.1.1 && (Nat.beq x.1.2 y.1.2 && Nat.beq x.2 y.2)
def eqML : List MC → List MC → Bool
  | [], [] => true
  | x :: xs, y :: ys => eqMC x y && eqML xs ys
  | _, _ => false
def okMC (n : Nat) (x : MC) : Bool := x.1.1.all (fun p => Nat.ble 1 p && Nat.ble p n) && (Nat.ble x.1.2 n && (Nat.ble x.1.1.length 100 && Nat.ble x.2 100))
/-- the places in the cuts of tree n: the crown's go up to its own, the trunk's too -/
def okCt (n : Nat) : Bool := match tree5 9 (T6n.getD n []) with
  | some l => eqML (cutsI T6n (T6n.getD n [])) (CTab.getD n []) && (eqML ((l.map cut5).map mcR) (CTab.getD n []) && (CTab.getD n []).all (okMC (n + 1)))
  | none => false
theorem okCt_all : (List.range 37).all okCt = true := by decide +kernel
theorem eqML_iff : ∀ {xs ys : List MC}, eqML xs ys = true → xs = ys
  | [], [], _ => rfl
  | [], _ :: _, h => by cases h
  | _ :: _, [], h => by cases h
  | ((a, b), c) :: xs, ((a', b'), c') :: ys, h => by
    unfold eqML eqMC at h
    simp only [Bool.and_eq_true] at h
    rw [eqML_iff h.2, eqN_iff.1 h.1.1, Nat.eq_of_beq_eq_true h.1.2.1, Nat.eq_of_beq_eq_true h.1.2.2]

theorem cut_at {n : Nat} (h : n < 37) : ∃ l, tree5 9 (T6n.getD n []) = some l ∧ cutsI T6n (T6n.getD n []) = CTab.getD n [] ∧ (l.map cut5).map mcR = CTab.getD n [] ∧ ∀ x ∈ CTab.getD n [], (∀ p ∈ x.1.1, 1 ≤ p ∧ p ≤ n + 1) ∧ x.1.2 ≤ n + 1 ∧ x.1.1.length ≤ 100 ∧ x.2 ≤ 100 := by
  have h1 := okCt_all
  rw [List.all_eq_true] at h1
  have h2 := h1 n (by simpa using h)
  unfold okCt at h2
  cases ht : tree5 9 (T6n.getD n []) with
  | none => rw [ht] at h2; cases h2
  | some l =>
    rw [ht] at h2
    simp only [Bool.and_eq_true, List.all_eq_true] at h2
    refine ⟨l, rfl, eqML_iff h2.1, eqML_iff h2.2.1, fun x hx => ?_⟩
    have h3 := h2.2.2 x hx
    unfold okMC at h3
    simp only [Bool.and_eq_true, List.all_eq_true] at h3
    exact ⟨fun p hp => ⟨Nat.le_of_ble_eq_true (h3.1 p hp).1, Nat.le_of_ble_eq_true (h3.1 p hp).2⟩, Nat.le_of_ble_eq_true h3.2.1, Nat.le_of_ble_eq_true h3.2.2.1, Nat.le_of_ble_eq_true h3.2.2.2⟩

/-! ### bounds on the way -/
end Go.Proofs.YtdjhfeaimmpmhaaGreat

set_option maxRecDepth 100000
set_option linter.unusedVariables false
set_option linter.unusedSimpArgs false
namespace Go.Proofs.YtdjhfeaimmpmhaaGreat
open Go.RowKit

def gz (a : List Int) (k : Nat) : Int := a.getD k 0
def tcI (a b : List Int) (x : MC) : Int := (x.2 : Int) * (valZ a x.1.1 * b.getD x.1.2 0 % 10007) % 10007
theorem tcI_bd (a b : List Int) (x : MC) : 0 ≤ tcI a b x ∧ tcI a b x ≤ 10006 := by unfold tcI; omega
theorem tcI_is (a b : List Int) (x : MC) : tcI a b x = cvT (gz a) (gz b) x % 10007 := by
  unfold tcI cvT valZ
  rw [mul_modR]
  show (x.2 : Int) * (prodZ (gat a x.1.1) % 10007 * b.getD x.1.2 0) % 10007 = (x.2 : Int) * (prodZ (gat a x.1.1) * b.getD x.1.2 0) % 10007
  rw [← mul_modR (x.2 : Int) (prodZ (gat a x.1.1) % 10007 * b.getD x.1.2 0), mul_modL, mul_modR]
def cvZ (a b : List Int) : List Int := b.getD 0 0 :: (List.range 37).map fun n => sumF (tcI a b) (CTab.getD n []) % 10007
theorem cvZ_len (a b : List Int) : (cvZ a b).length = 38 := by simp [cvZ]
theorem cvZ_nums {a b : List Int} (h : Nums b) : Nums (cvZ a b) := by
  intro z hz
  rcases List.mem_cons.1 hz with rfl | hz
  · have hg : ∀ k, 0 ≤ b.getD k 0 ∧ b.getD k 0 ≤ 10006 := fun k => by
      rw [List.getD_eq_getElem?_getD]
      cases hk : b[k]? with
      | none => simp
      | some z => exact h z (List.mem_of_getElem? hk)
    exact hg 0
  · obtain ⟨n, -, rfl⟩ := List.mem_map.1 hz
    omega
theorem cvZ_get (a b : List Int) {i : Nat} (h : i < 37) : (cvZ a b)[i + 1]? = some (sumF (tcI a b) (CTab.getD i []) % 10007) := by
  unfold cvZ
  simp [h]
theorem CTab_at {i : Nat} (h : i < 37) {x : MC} (hx : x ∈ CTab.getD i []) : (∀ p ∈ x.1.1, p < 38) ∧ x.1.2 < 38 ∧ x.2 ≤ 100 := by
  obtain ⟨l, -, -, -, hc⟩ := cut_at h
  obtain ⟨h1, h2, -, h4⟩ := hc x hx
  exact ⟨fun p hp => by have := (h1 p hp).2; omega, by omega, h4⟩
theorem CTab_ln {i : Nat} (h : i < 37) : (CTab.getD i []).length ≤ 100 := by
  have h1 : (List.range 37).all (fun i => Nat.ble (CTab.getD i []).length 100) = true := by decide +kernel
  rw [List.all_eq_true] at h1
  exact Nat.le_of_ble_eq_true (h1 i (by simpa using h))
/-- the program's lists of cuts -/
def FrC (w : World) (B : Nat) (v : Value) : Prop := ∃ us, Own w B tMl v us ∧ Mls w B us (T6n.map (cutsI T6n))
theorem FrC.below {w w' : World} {B : Nat} {v : Value} (h : FrC w B v) (hb : Below w.heap.size w w') : FrC w' B v := by
  obtain ⟨us, h1, h2⟩ := h
  exact ⟨us, h1.below hb, h2.below hb⟩
theorem FrC.at_ {w : World} {B : Nat} {v : Value} (h : FrC w B v) : ∃ A c, v = .slice A 37 c ∧ ∀ i, i < 37 → ∃ ad css A2 c2, A = some ad ∧ OwnK w B tMc 3 (.slice A2 css.length c2) css ∧ Mcs w B css (CTab.getD i []) ∧ w.cell? (ad.add i) = some (.slice A2 css.length c2) := by
  obtain ⟨us, h1, h2⟩ := h
  have hl := h2.1
  rw [List.length_map, T6n_len] at hl
  obtain ⟨A, c, rfl, -, -⟩ := h1.cells.open_
  rw [hl]
  refine ⟨A, c, rfl, fun i hi => ?_⟩
  obtain ⟨u, hu⟩ : ∃ u, us[i]? = some u := ⟨_, List.getElem?_eq_getElem (by rw [hl]; exact hi)⟩
  obtain ⟨l, -, hci, -, -⟩ := cut_at hi
  have hci : cutsI T6n (tr i) = CTab.getD i [] := hci
  obtain ⟨css, h3, h4⟩ := h2.2 i u (CTab.getD i []) hu (by rw [List.getElem?_map, tr_get hi, ← hci]; rfl)
  obtain ⟨A2, c2, rfl, -, -⟩ := h3.open_
  obtain ⟨ad, n', c', he, hc⟩ := h1.cells.at_ hu
  simp only [Value.slice.injEq] at he
  exact ⟨ad, css, A2, c2, he.1, h3, h4, hc⟩
/-- newForms' result opened -/
theorem Frm.openC {w : World} {B : Nat} {v : Value} (h : Frm w B v) : ∃ A c Ay cy, v = .agg #[.slice A 37 c, .slice Ay 37 cy] ∧ Rows w (.slice A 37 c) (T6n.map up) ∧ FrC w B (.slice Ay 37 cy) := by
  obtain ⟨x, y, us, rfl, h1, h2, h3⟩ := h
  obtain ⟨A, c, he, -, -, -⟩ := h1.rows.open_
  rw [List.length_map, T6n_len] at he
  subst he
  have hf : FrC w B y := ⟨us, h2, h3⟩
  obtain ⟨Ay, cy, rfl, -⟩ := hf.at_
  exact ⟨A, c, Ay, cy, rfl, h1.rows, hf⟩
end Go.Proofs.YtdjhfeaimmpmhaaGreat

set_option maxRecDepth 100000
set_option linter.unusedVariables false
set_option linter.unusedSimpArgs false
namespace Go.Proofs.YtdjhfeaimmpmhaaGreat
open Go.RowKit

/-! ### the table -/
theorem nums_ext {x y : List Int} (hx : Nums x) (hy : Nums y) (lx : x.length = 38) (ly : y.length = 38) (h : ∀ p, p < 38 → gz x p % 10007 = gz y p % 10007) : x = y := by
  refine List.ext_getElem (by rw [lx, ly]) fun i h1 h2 => ?_
  have h3 := h i (by omega)
  have b1 := getD_nums hx i
  have b2 := getD_nums hy i
  have h4 : x.getD i 0 = y.getD i 0 := by
    have h5 : x.getD i 0 % 10007 = y.getD i 0 % 10007 := h3
    omega
  rw [List.getD_eq_getElem?_getD, List.getD_eq_getElem?_getD, List.getElem?_eq_getElem h1, List.getElem?_eq_getElem h2] at h4
  simpa using h4
/-! ### products -/
theorem cvZ_cv (a b : List Int) {p : Nat} (hp : p < 38) : gz (cvZ a b) p % 10007 = cv (gz a) (gz b) p % 10007 := by
  cases p with
  | zero =>
    show b.getD 0 0 % 10007 = sumF (cvT (gz a) (gz b)) [(([], 0), 1)] % 10007
    simp only [sumF, cvT, pz_nil]
    show _ = (((1 : Nat) : Int) * (1 * b.getD 0 0) + 0) % 10007
    simp
  | succ n =>
    show (cvZ a b).getD (n + 1) 0 % 10007 = sumF (cvT (gz a) (gz b)) (CTab.getD n []) % 10007
    rw [List.getD_eq_getElem?_getD, cvZ_get a b (by omega)]
    show sumF (tcI a b) (CTab.getD n []) % 10007 % 10007 = _
    rw [Int.emod_emod_of_dvd _ (Int.dvd_refl _)]
    exact sumF_modc fun x _ => by rw [tcI_is, Int.emod_emod_of_dvd _ (Int.dvd_refl _)]
/-! ### the inverse -/
end Go.Proofs.YtdjhfeaimmpmhaaGreat

set_option maxRecDepth 100000
set_option linter.unusedVariables false
set_option linter.unusedSimpArgs false
namespace Go.Proofs.YtdjhfeaimmpmhaaGreat
open Go.RowKit

def hc (p : Nat) : Nat × Bool := HTab.getD p (0, true)
/-- the value that the free numbers give at a place -/
def cval (z : Nat → Int) (p : Nat) : Int := match (hc p).1 with
  | 0 => 0
  | i + 1 => bif (hc p).2 then z i else - z i
def gP (i k : Nat) : Nat := gIdx (tr i) (tr k)
def beqC (a b : Nat × Bool) : Bool := Nat.beq a.1 b.1 && (Nat.beq a.1 0 || (a.2 != b.2))
/-- the two products of two trees with at most 6 nodes together -/
def okHp (i k : Nat) : Bool := bif Nat.ble (szT (i + 1) + szT (k + 1)) 6 then
    beqC (hc (gP i k)) (hc (gP k i)) && (Nat.beq (szT (gP i k)) (szT (i + 1) + szT (k + 1)) && Nat.beq (szT (gP k i)) (szT (i + 1) + szT (k + 1)))
  else true
theorem hp1 : (List.range 37).all (fun i => (List.range 37).all (okHp i)) = true := by decide +kernel
theorem hp_at {i k : Nat} (hi : i < 37) (hk : k < 37) (hs : szT (i + 1) + szT (k + 1) ≤ 6) : beqC (hc (gP i k)) (hc (gP k i)) = true ∧ szT (gP i k) = szT (i + 1) + szT (k + 1) ∧ szT (gP k i) = szT (i + 1) + szT (k + 1) := by
  have h1 := hp1
  rw [List.all_eq_true] at h1
  have h2 := h1 i (List.mem_range.2 hi)
  rw [List.all_eq_true] at h2
  have h3 := h2 k (List.mem_range.2 hk)
  unfold okHp at h3
  rw [Nat.ble_eq_true_of_le hs, cond_true] at h3
  simp only [Bool.and_eq_true] at h3
  exact ⟨h3.1, Nat.eq_of_beq_eq_true h3.2.1, Nat.eq_of_beq_eq_true h3.2.2⟩
theorem beqC_sum {z : Nat → Int} {p q : Nat} (h : beqC (hc p) (hc q) = true) : cval z p + cval z q = 0 := by
  unfold beqC at h
  rw [Bool.and_eq_true, Bool.or_eq_true] at h
  have e := Nat.eq_of_beq_eq_true h.1
  unfold cval
  rw [← e]
  cases hp : (hc p).1 with
  | zero => rfl
  | succ i =>
    rcases h.2 with h2 | h2
    · rw [hp] at h2; cases h2
    · simp only
      cases h3 : (hc p).2 <;> cases h4 : (hc q).2 <;> rw [h3, h4] at h2 <;> first | (simp at h2; done) | (simp only [cond_true, cond_false]; omega)
/-- the values so made have the conditions -/
theorem cval_pair (z : Nat → Int) {i k : Nat} (hi : i < 37) (hk : k < 37) (hs : szT (i + 1) + szT (k + 1) ≤ 6) : cval z (gP i k) + cval z (gP k i) = 0 := beqC_sum (hp_at hi hk hs).1
/-! ### the chain -/
def stepC (K : List Nat) (c : Nat × Nat × Nat) : Bool :=
  Nat.blt c.2.1 37 && (Nat.blt c.2.2 37 && (Nat.ble (szT (c.2.1 + 1) + szT (c.2.2 + 1)) 6 &&
    ((Nat.beq (gP c.2.1 c.2.2) c.1 && (Nat.beq (gP c.2.2 c.2.1) c.1 || K.contains (gP c.2.2 c.2.1))) ||
     (Nat.beq (gP c.2.2 c.2.1) c.1 && K.contains (gP c.2.1 c.2.2)))))
def runC : List Nat → List (Nat × Nat × Nat) → Bool
  | K, [] => (List.range 38).all fun p => Nat.beq p 0 || K.contains p
  | K, c :: cs => stepC K c && runC (c.1 :: K) cs
theorem hp2 : runC HBas HCer = true := by decide +kernel
theorem ar1 {d1 d2 c1 c2 : Int} (h : (d1 + d2) % 10007 = 0) (hc : c1 + c2 = 0) (h2 : d2 % 10007 = c2 % 10007) : d1 % 10007 = c1 % 10007 := by omega
theorem ar2 {d1 d2 c1 c2 : Int} (h : (d1 + d2) % 10007 = 0) (hc : c1 + c2 = 0) (h2 : d1 % 10007 = c1 % 10007) : d2 % 10007 = c2 % 10007 := by omega
theorem ar0 {d1 c1 : Int} (h : (d1 + d1) % 10007 = 0) (hc : c1 + c1 = 0) : d1 % 10007 = c1 % 10007 := by
  have hc0 : c1 = 0 := by omega
  subst hc0
  have h0 : 0 ≤ d1 % 10007 := Int.emod_nonneg _ (by omega)
  have h1 : d1 % 10007 < 10007 := Int.emod_lt_of_pos _ (by omega)
  have h2 : (d1 % 10007 + d1 % 10007) % 10007 = 0 := by rw [← Int.add_emod]; exact h
  generalize d1 % 10007 = x at *
  clear h hc
  show x = 0
  obtain ⟨y, hy⟩ : ∃ y, y = x + x := ⟨_, rfl⟩
  rw [← hy] at h2
  by_cases hx : y < 10007
  · have b0 : 0 ≤ y := by clear h2; omega
    rw [Int.emod_eq_of_lt b0 hx] at h2
    clear hx b0
    omega
  · have b0 : 0 ≤ y - 10007 := by clear h2; omega
    have b1 : y - 10007 < 10007 := by clear h2; omega
    have h3 : (y - 10007) % 10007 = 0 := by rw [Int.sub_emod, h2]; rfl
    rw [Int.emod_eq_of_lt b0 b1] at h3
    clear h2 b0 b1 hx
    omega
theorem chain_run {d z : Nat → Int} {S : Nat → Prop}
    (hrel : ∀ i k, i < 37 → k < 37 → szT (i + 1) + szT (k + 1) ≤ 6 → S (szT (i + 1) + szT (k + 1)) → (d (gP i k) + d (gP k i)) % 10007 = 0) :
    ∀ (cs : List (Nat × Nat × Nat)) (K : List Nat), runC K cs = true → (∀ p ∈ K, S (szT p) → d p % 10007 = cval z p % 10007) → ∀ p, 0 < p → p < 38 → S (szT p) → d p % 10007 = cval z p % 10007
  | [], K, h, hK, p, h0, hp, hS => by
    unfold runC at h
    rw [List.all_eq_true] at h
    have h1 := h p (List.mem_range.2 hp)
    rw [Bool.or_eq_true] at h1
    rcases h1 with h1 | h1
    · have := Nat.eq_of_beq_eq_true h1; omega
    · exact hK p (by simpa using h1) hS
  | (q, i, k) :: cs, K, h, hK, p, h0, hp, hS => by
    unfold runC at h
    rw [Bool.and_eq_true] at h
    obtain ⟨h1, h2⟩ := h
    refine chain_run hrel cs (q :: K) h2 (fun r hr hSr => ?_) p h0 hp hS
    rcases List.mem_cons.1 hr with rfl | hr
    · unfold stepC at h1
      dsimp only at h1
      simp only [Bool.and_eq_true, Bool.or_eq_true] at h1
      obtain ⟨hi, hk, hs, h3⟩ := h1
      have hi := blt_lt hi
      have hk := blt_lt hk
      have hs := Nat.le_of_ble_eq_true hs
      obtain ⟨-, s1, s2⟩ := hp_at hi hk hs
      have hsum := cval_pair z hi hk hs
      have hrl := hrel i k hi hk hs
      obtain ⟨g1, hg1⟩ : ∃ g, g = gP i k := ⟨_, rfl⟩
      obtain ⟨g2, hg2⟩ : ∃ g, g = gP k i := ⟨_, rfl⟩
      rw [← hg1, ← hg2] at hsum hrl h3
      rw [← hg1] at s1
      rw [← hg2] at s2
      rw [← s1] at s2 hrl
      clear hg1 hg2 s1 hp
      rcases h3 with ⟨e1, h4⟩ | ⟨e2, h4⟩
      · have e1 := Nat.eq_of_beq_eq_true e1
        subst e1
        have hrl := hrl hSr
        rcases h4 with h4 | h4
        · have e2 := Nat.eq_of_beq_eq_true h4
          subst e2
          exact ar0 hrl hsum
        · have h5 := hK _ (by simpa using h4) (by rw [s2]; exact hSr)
          exact ar1 hrl hsum h5
      · have e2 := Nat.eq_of_beq_eq_true e2
        subst e2
        have hrl := hrl (by rw [← s2]; exact hSr)
        have h5 := hK _ (by simpa using h4) (by rw [← s2]; exact hSr)
        exact ar2 hrl hsum h5
    · exact hK r hr hSr
theorem chain {d z : Nat → Int} {S : Nat → Prop}
    (hrel : ∀ i k, i < 37 → k < 37 → szT (i + 1) + szT (k + 1) ≤ 6 → S (szT (i + 1) + szT (k + 1)) → (d (gP i k) + d (gP k i)) % 10007 = 0)
    (hbase : ∀ p ∈ HBas, S (szT p) → d p % 10007 = cval z p % 10007) : ∀ p, 0 < p → p < 38 → S (szT p) → d p % 10007 = cval z p % 10007 :=
  chain_run hrel HCer HBas hp2 hbase
/-! ### the program's words -/
/-! ### reading back -/
end Go.Proofs.YtdjhfeaimmpmhaaGreat

set_option maxRecDepth 100000
set_option linter.unusedVariables false
set_option linter.unusedSimpArgs false
namespace Go.Proofs.YtdjhfeaimmpmhaaGreat
open Go.RowKit

/-! ### what the kernel finds of the places in cuts -/
def okTp (p : Nat) (x : MCt) : Bool := (bif Nat.blt 0 x.1.2 then x.1.1.all (fun k => Nat.blt k p || Nat.beq p 0) else true) && (match x.1.1 with | [] => true | _ :: _ => Nat.blt x.1.2 p)
theorem tp3 : (List.range 38).all (fun p => (CP p).all (okTp p)) = true := by decide +kernel
theorem tp_at {p : Nat} (hp : p < 38) (h0 : 0 < p) {x : MCt} (hx : x ∈ CP p) : (0 < x.1.2 → ∀ k ∈ x.1.1, k < p) ∧ (x.1.1 ≠ [] → x.1.2 < p) := by
  have h1 := tp3
  rw [List.all_eq_true] at h1
  have h2 := h1 p (by simpa using hp)
  rw [List.all_eq_true] at h2
  have h3 := h2 x hx
  unfold okTp at h3
  rw [Bool.and_eq_true] at h3
  refine ⟨fun h k hk => ?_, fun h => ?_⟩
  · have e : Nat.blt 0 x.1.2 = true := Nat.ble_eq_true_of_le h
    have h4 := h3.1
    rw [e, cond_true, List.all_eq_true] at h4
    have h5 := h4 k hk
    rw [Bool.or_eq_true] at h5
    rcases h5 with h5 | h5
    · exact blt_lt h5
    · have := Nat.eq_of_beq_eq_true h5; omega
  · cases he : x.1.1 with
    | nil => exact absurd he h
    | cons a l =>
      have h4 := h3.2
      rw [he] at h4
      exact blt_lt h4

/-! ### the program's inverse -/
def tpI (b a : List Int) (x : MC) : Int := bif Nat.blt 0 x.1.2 then tcI b a x else 0
theorem tpI_bd (b a : List Int) (x : MC) : 0 ≤ tpI b a x ∧ tpI b a x ≤ 10006 := by
  unfold tpI
  cases Nat.blt 0 x.1.2 with
  | true => exact tcI_bd b a x
  | false => simp
def invL (a : List Int) : Nat → List Int
  | 0 => [1]
  | n + 1 => invL a n ++ [(-(sumF (tpI (invL a n) a) (CTab.getD n []))) % 10007]
theorem invL_len (a : List Int) (n : Nat) : (invL a n).length = n + 1 := by
  induction n with
  | zero => rfl
  | succ n ih => simp only [invL, List.length_append, List.length_singleton, ih]
theorem invL_nums (a : List Int) (n : Nat) : Nums (invL a n) := by
  induction n with
  | zero => intro z hz; simp only [invL, List.mem_singleton] at hz; omega
  | succ n ih =>
    intro z hz
    simp only [invL] at hz
    rcases List.mem_append.1 hz with h | h
    · exact ih z h
    · have := List.mem_singleton.1 h
      omega
theorem invL_get (a : List Int) {n m k : Nat} (hk : k ≤ n) (hm : n ≤ m) : (invL a m).getD k 0 = (invL a n).getD k 0 := by
  obtain ⟨d, rfl⟩ := Nat.exists_eq_add_of_le hm
  clear hm
  induction d with
  | zero => rfl
  | succ d ih =>
    rw [← ih]
    show (invL a (n + d + 1)).getD k 0 = _
    rw [invL, List.getD_eq_getElem?_getD, List.getElem?_append_left (by rw [invL_len]; omega), ← List.getD_eq_getElem?_getD]
theorem invL_new (a : List Int) {n m : Nat} (hm : n + 1 ≤ m) : (invL a m).getD (n + 1) 0 = (-(sumF (tpI (invL a n) a) (CTab.getD n []))) % 10007 := by
  rw [invL_get a (Nat.le_refl _) hm, invL, List.getD_eq_getElem?_getD, List.getElem?_append_right (by rw [invL_len]; omega), invL_len, Nat.sub_self]
  rfl
theorem cvT_zero (x y : Nat → Int) : cv x y 0 = y 0 := by
  show sumF (cvT x y) [(([], 0), 1)] = _
  simp [sumF, cvT, pz_nil]
theorem inv_left {a : List Int} (h0 : a.getD 0 0 = 1) : ∀ p, p < 38 → cv (gz (invL a 37)) (gz a) p % 10007 = un p % 10007 := by
  intro p hp
  cases p with
  | zero => rw [cvT_zero]; show a.getD 0 0 % 10007 = _; rw [h0]; rfl
  | succ n =>
    rw [cv_pos _ _ (by omega) hp]
    have e1 : gz a 0 = 1 := h0
    have e2 : gz (invL a 37) (n + 1) = (-(sumF (tpI (invL a n) a) (CTab.getD n []))) % 10007 := invL_new a (by omega)
    have e3 : sumF (posT (gz (invL a 37)) (gz a)) (CP (n + 1)) % 10007 = sumF (tpI (invL a n) a) (CTab.getD n []) % 10007 := by
      refine sumF_modc fun x hx => ?_
      unfold posT tpI
      cases hb : Nat.blt 0 x.1.2 with
      | false => rfl
      | true =>
        rw [cond_true, cond_true, tcI_is, Int.emod_emod_of_dvd _ (Int.dvd_refl _)]
        refine cvT_mod (fun k hk => ?_) rfl
        have := (tp_at hp (by omega) hx).1 (blt_lt hb) k hk
        show (invL a 37).getD k 0 % 10007 = (invL a n).getD k 0 % 10007
        rw [invL_get a (show k ≤ n by omega) (by omega)]
    have e4 : un (n + 1) = 0 := if_neg (by omega)
    rw [e1, e2, e4, Int.mul_one]
    omega

/-! ### the reference's inverse -/
def unM : List Int := filT EX 1
theorem unM_is : unM = 1 :: List.replicate 37 0 := rfl
def refL (a : List Int) : Nat → List Int
  | 0 => unM
  | n + 1 => (refL a n).set (n + 1) ((0 - (cvZ a (refL a n)).getD (n + 1) 0) % 10007)
theorem refL_len (a : List Int) (n : Nat) : (refL a n).length = 38 := by
  induction n with
  | zero => rfl
  | succ n ih => rw [refL, List.length_set, ih]
theorem refL_nums (a : List Int) (n : Nat) : Nums (refL a n) := by
  induction n with
  | zero =>
    intro z hz
    change z ∈ unM at hz
    rw [unM_is] at hz
    rcases List.mem_cons.1 hz with rfl | hz
    · omega
    · have := List.eq_of_mem_replicate hz
      omega
  | succ n ih =>
    intro z hz
    rw [refL] at hz
    rcases List.mem_or_eq_of_mem_set hz with h | h
    · exact ih z h
    · omega
theorem refL_same (a : List Int) {n k : Nat} (h : k ≠ n + 1) : (refL a (n + 1)).getD k 0 = (refL a n).getD k 0 := by
  rw [refL, List.getD_eq_getElem?_getD, List.getElem?_set_ne (by omega), ← List.getD_eq_getElem?_getD]
theorem refL_get (a : List Int) {n m k : Nat} (hk : k ≤ n) (hm : n ≤ m) : (refL a m).getD k 0 = (refL a n).getD k 0 := by
  obtain ⟨d, rfl⟩ := Nat.exists_eq_add_of_le hm
  clear hm
  induction d with
  | zero => rfl
  | succ d ih =>
    rw [← ih]
    exact refL_same a (show k ≠ n + d + 1 by omega)
theorem refL_zero (a : List Int) {n k : Nat} (hk : n < k) : (refL a n).getD k 0 = 0 := by
  induction n with
  | zero =>
    show unM.getD k 0 = 0
    rw [unM_is]
    obtain ⟨j, rfl⟩ : ∃ j, k = j + 1 := ⟨k - 1, by omega⟩
    rw [List.getD_cons_succ, List.getD_eq_getElem?_getD, List.getElem?_replicate]
    split <;> rfl
  | succ n ih => rw [refL_same a (by omega)]; exact ih (by omega)
theorem refL_head (a : List Int) (n : Nat) : (refL a n).getD 0 0 = 1 := refL_get a (Nat.le_refl 0) (Nat.zero_le n)
theorem refL_new (a : List Int) {n m : Nat} (h : n < 37) (hm : n + 1 ≤ m) : (refL a m).getD (n + 1) 0 = (0 - (cvZ a (refL a n)).getD (n + 1) 0) % 10007 := by
  rw [refL_get a (Nat.le_refl _) hm, refL, List.getD_eq_getElem?_getD, List.getElem?_set_self (by rw [refL_len]; omega)]
  rfl
theorem inv_right (a : List Int) : ∀ p, p < 38 → cv (gz a) (gz (refL a 37)) p % 10007 = un p % 10007 := by
  intro p hp
  cases p with
  | zero => rw [cvT_zero]; show (refL a 37).getD 0 0 % 10007 = _; rw [refL_head]; rfl
  | succ n =>
    rw [cv_rest _ _ hp]
    have e1 : (cvZ a (refL a n)).getD (n + 1) 0 = sumF (tcI a (refL a n)) (CTab.getD n []) % 10007 := by
      rw [List.getD_eq_getElem?_getD, cvZ_get a _ (by omega)]; rfl
    have e2 : gz (refL a 37) (n + 1) = (0 - (cvZ a (refL a n)).getD (n + 1) 0) % 10007 := refL_new a (by omega) (by omega)
    have e3 : sumF (tcI a (refL a n)) (CTab.getD n []) % 10007 = cv (gz a) (gz (refL a n)) (n + 1) % 10007 := by
      show _ = sumF (cvT (gz a) (gz (refL a n))) (CTab.getD n []) % 10007
      refine sumF_modc fun x hx => ?_
      rw [tcI_is, Int.emod_emod_of_dvd _ (Int.dvd_refl _)]
    have e4 : gz (refL a n) (n + 1) = 0 := refL_zero a (by omega)
    rw [cv_rest _ _ hp, e4] at e3
    have e5 : sumF (posE (gz a) (gz (refL a 37))) (CP (n + 1)) % 10007 = sumF (posE (gz a) (gz (refL a n))) (CP (n + 1)) % 10007 := by
      refine sumF_modc fun x hx => ?_
      unfold posE
      cases hcr : x.1.1 with
      | nil => rfl
      | cons u us =>
        refine cvT_mod (fun k _ => rfl) ?_
        have := (tp_at hp (by omega) hx).2 (by rw [hcr]; simp)
        show (refL a 37).getD x.1.2 0 % 10007 = (refL a n).getD x.1.2 0 % 10007
        rw [refL_get a (show x.1.2 ≤ n by omega) (by omega)]
    have e6 : un (n + 1) = 0 := if_neg (by omega)
    rw [e2, e1, e6]
    omega
theorem nums_getD {zs : List Int} (h : Nums zs) (k : Nat) : 0 ≤ zs.getD k 0 ∧ zs.getD k 0 ≤ 10006 := by
  rw [List.getD_eq_getElem?_getD]
  cases hk : zs[k]? with
  | none => simp
  | some z => exact h z (List.mem_of_getElem? hk)
/-- both inverses are one -/
theorem inv_eq {a : List Int} (h0 : a.getD 0 0 = 1) : invL a 37 = refL a 37 := by
  have h := inv_both (a := gz a) (x := gz (invL a 37)) (y := gz (refL a 37)) h0 (by show (invL a 37).getD 0 0 = 1; rw [invL_get a (Nat.le_refl 0) (by omega)]; rfl) (inv_left h0) (inv_right a)
  refine List.ext_getElem? fun k => ?_
  by_cases hk : k < 38
  · have h1 := h k hk
    have b1 := nums_getD (invL_nums a 37) k
    have b2 := nums_getD (refL_nums a 37) k
    have h2 : (invL a 37).getD k 0 = (refL a 37).getD k 0 := by
      have h3 : (invL a 37).getD k 0 % 10007 = (refL a 37).getD k 0 % 10007 := h1
      omega
    rw [List.getD_eq_getElem?_getD, List.getD_eq_getElem?_getD] at h2
    have hk1 : k < (invL a 37).length := by rw [invL_len]; exact hk
    have hk2 : k < (refL a 37).length := by rw [refL_len]; exact hk
    rw [List.getElem?_eq_getElem hk1, List.getElem?_eq_getElem hk2] at h2 ⊢
    simpa using h2
  · rw [List.getElem?_eq_none (by rw [invL_len]; omega), List.getElem?_eq_none (by rw [refL_len]; omega)]

/-! ### scaled maps -/
def scZ (a : List Int) (k : Int) : List Int := (List.range 38).map fun j => a.getD j 0 * pw k (szN j) % 10007
theorem scZ_len (a : List Int) (k : Int) : (scZ a k).length = 38 := by simp [scZ]
theorem scZ_nums (a : List Int) (k : Int) : Nums (scZ a k) := by
  intro z hz
  obtain ⟨j, -, rfl⟩ := List.mem_map.1 hz
  omega
theorem scZ_get (a : List Int) (k : Int) {i : Nat} (h : i < 38) : (scZ a k)[i]? = some (a.getD i 0 * pw k (szN i) % 10007) := by
  unfold scZ
  simp [h]
theorem scZ_head {a : List Int} (h : Nums a) (k : Int) : (scZ a k).getD 0 0 = a.getD 0 0 := by
  have := nums_getD h 0
  have hp : pw k (szN 0) = 1 := by rw [szN_zero]; simp [pw]
  rw [List.getD_eq_getElem?_getD, scZ_get a k (by omega), hp, Int.mul_one]
  show a.getD 0 0 % 10007 = _
  omega
end Go.Proofs.YtdjhfeaimmpmhaaGreat

set_option maxRecDepth 100000
set_option linter.unusedVariables false
set_option linter.unusedSimpArgs false
namespace Go.Proofs.YtdjhfeaimmpmhaaGreat
open Go.RowKit

theorem unM_len : unM.length = 38 := rfl
theorem unM_nums : Nums unM := refL_nums [] 0
end Go.Proofs.YtdjhfeaimmpmhaaGreat

