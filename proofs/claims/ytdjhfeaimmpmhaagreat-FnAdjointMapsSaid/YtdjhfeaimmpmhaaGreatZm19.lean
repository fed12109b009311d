/- Words of memory for sums of trees: lists of one's own of structs of a tree and a count. | Walk: partitionsOf of the program. | Plain: substitution of maps by partitions, as the program and as the reference reckon it. No walk. | Plain: the convolution of maps as both reckon it; the program's lists of cuts in memory. No walk. | Words of memory: partitions by places, and lists of lists of them. No walk. | FnExactSubstitutionUnit is true: the program's SubstitutionUnit and the reference's return the same list, each in memory of its own. No condition. | Plain: substitution of maps, its inverse, and the map whose substitution is another one, as both reckon them. No walk. | Walks: the checks of maps, of the program and of the reference. | DROP Walks: density of the program and of the reference; nodes of forms. | DROP Walks: the unit, the exact map of the program and of the reference. | DROP Walk: l12To of the reference. | Walk: valueOf of the program. | Walk: substituted of the program. -/
import Derived.Test.YtdjhfeaimmpmhaaGreatZm18
import Derived.Test.YtdjhfeaimmpmhaaGreatZm9
import Derived.Test.YtdjhfeaimmpmhaaGreatZm11
import Derived.Test.YtdjhfeaimmpmhaaGreatZm12
import Derived.BigQuiet
import Derived.Deep.QuietTactic
import Derived.Deep.CutRange
import Derived.Deep.CutBlock
import Derived.Deep.DeepCutAuto
import Derived.Test.YtdjhfeaimmpmhaaGreatZm1
import Derived.Test.YtdjhfeaimmpmhaaGreatZm17
import Derived.Test.YtdjhfeaimmpmhaaGreatZm3
import Derived.Test.YtdjhfeaimmpmhaaGreatRows
import Derived.Test.YtdjhfeaimmpmhaaGreatZm2
import Derived.WalkLawsBesides
import Derived.Test.YtdjhfeaimmpmhaaGreatZm4
import Derived.Test.YtdjhfeaimmpmhaaGreatZm5
import Derived.Test.YtdjhfeaimmpmhaaGreatZm7
set_option maxRecDepth 100000
set_option linter.unusedVariables false
set_option linter.unusedSimpArgs false
namespace Go.Proofs.YtdjhfeaimmpmhaaGreat
open Go.RowKit

abbrev tC : TypeId := 110
theorem keepCell {w w' : World} {ad : Addr} {v : Value} (hb : Below w.heap.size w w') (h : w.cell? ad = some v) : w'.cell? ad = some v := by rw [hb.cell (World.block_lt_of_cell? w _ h)]; exact h
/-- the cells of a sum: trees in blocks from B on, and counts -/
def CtE (w : World) (B : Nat) (css : List (List Value)) (xs : List CT) : Prop := css.length = xs.length ∧ ∀ (k : Nat) (c : List Value) (x : CT), css[k]? = some c → xs[k]? = some x → ∃ u, c = [u, .int .i64 (x.2 : Nat)] ∧ OwnInts w B tI u (up x.1)
section
variable {w w' : World} {B : Nat} {css : List (List Value)} {xs : List CT}
theorem CtE.nil (w : World) (B : Nat) : CtE w B [] [] := ⟨rfl, fun k c x h => by simp at h⟩
theorem CtE.below (h : CtE w B css xs) (hb : Below w.heap.size w w') : CtE w' B css xs := ⟨h.1, fun k c x hc hx => by obtain ⟨u, e, ho⟩ := h.2 k c x hc hx; exact ⟨u, e, ho.below hb⟩⟩
theorem CtE.mono {B' : Nat} (h : CtE w B css xs) (hB : B' ≤ B) : CtE w B' css xs := ⟨h.1, fun k c x hc hx => by obtain ⟨u, e, ho⟩ := h.2 k c x hc hx; exact ⟨u, e, ho.mono hB⟩⟩
theorem CtE.kept {v : Value} {e : TypeId} (h : CtE w B css xs) (hg : w.grownBy w' v.ownBlock) (hb : BT w e v) (hne : tI ≠ e) : CtE w' B css xs := ⟨h.1, fun k c x hc hx => by obtain ⟨u, e, ho⟩ := h.2 k c x hc hx; exact ⟨u, e, ho.kept hg (ho.1.bt.ne hb hne)⟩⟩
theorem CtE.snoc {u : Value} {t : List Nat} {n : Nat} (h : CtE w B css xs) (hu : OwnInts w B tI u (up t)) : CtE w B (css ++ [[u, .int .i64 (n : Nat)]]) (xs ++ [(t, n)]) := by
  refine ⟨by simp [h.1], fun k c x hk hx => ?_⟩
  by_cases hlt : k < css.length
  · rw [List.getElem?_append_left hlt] at hk
    rw [List.getElem?_append_left (by rw [← h.1]; exact hlt)] at hx
    exact h.2 k c x hk hx
  · have hkl := (List.getElem?_eq_some_iff.1 hk).1
    simp at hkl
    have : k = css.length := by omega
    subst this
    rw [List.getElem?_append_right (Nat.le_refl _)] at hk
    rw [List.getElem?_append_right (by rw [h.1]; exact Nat.le_refl _), h.1] at hx
    simp at hk hx
    subst hk; subst hx
    exact ⟨u, rfl, hu⟩
end
def CtR (w : World) (B : Nat) (v : Value) (xs : List CT) : Prop := ∃ css, OwnK w B tC 2 v css ∧ CtE w B css xs
section
variable {w w' : World} {B : Nat} {v : Value} {xs : List CT}
theorem CtR.below (h : CtR w B v xs) (hb : Below w.heap.size w w') : CtR w' B v xs := by obtain ⟨css, h1, h2⟩ := h; exact ⟨css, h1.below hb, h2.below hb⟩
theorem CtR.mono {B' : Nat} (h : CtR w B v xs) (hB : B' ≤ B) : CtR w B' v xs := by obtain ⟨css, h1, h2⟩ := h; exact ⟨css, h1.mono hB, h2.mono hB⟩
theorem CtR.open_ (h : CtR w B v xs) : ∃ A c, v = .slice A xs.length c ∧ xs.length ≤ c ∧ c ≤ 9223372036854775807 := by
  obtain ⟨css, h1, h2⟩ := h
  have := h1.open_
  rwa [h2.1] at this
/-- the element at a place -/
theorem CtR.at_ {k : Nat} {t : List Nat} {n : Nat} (h : CtR w B v xs) (hx : xs[k]? = some (t, n)) : ∃ g cap A c, v = .slice (some ⟨g, 0, none⟩) xs.length cap ∧ w.cell? ⟨g, k * 2, none⟩ = some (.slice A t.length c) ∧ w.cell? ⟨g, k * 2 + 1, none⟩ = some (.int .i64 (n : Nat)) ∧ OwnInts w B tI (.slice A t.length c) (up t) := by
  obtain ⟨css, h1, h2⟩ := h
  have hk : k < css.length := by rw [h2.1]; exact (List.getElem?_eq_some_iff.1 hx).1
  have hc : css[k]? = some (css[k]'hk) := List.getElem?_eq_getElem _
  obtain ⟨u, e, ho⟩ := h2.2 k _ _ hc hx
  rw [e] at hc
  obtain ⟨g, cap, hv, hc0⟩ := h1.cell (j := 0) hc rfl
  obtain ⟨A, c, hu, -, -, -⟩ := ho.ints.open_
  rw [up_len] at hu
  subst hv
  have hc1 := h1.cellAt (j := 1) hc rfl
  subst hu
  exact ⟨g, cap, A, c, by rw [h2.1], hc0, hc1, ho⟩
/-- one element more -/
theorem CtR.snoc {css : List (List Value)} {u v' : Value} {t : List Nat} {n : Nat} (h1 : OwnK w B tC 2 v css) (h2 : CtE w B css xs) (hu : OwnInts w B tI u (up t)) (ho : OwnK w' B tC 2 v' (css ++ [[u, .int .i64 (n : Nat)]])) (hg : Grow w w' v v') : CtR w' B v' (xs ++ [(t, n)]) :=
  ⟨_, ho, (h2.snoc hu).kept hg.1 h1.bt (by decide)⟩
end
end Go.Proofs.YtdjhfeaimmpmhaaGreat

set_option maxRecDepth 100000
set_option linter.unusedVariables false
set_option linter.unusedSimpArgs false
namespace Go.Proofs.YtdjhfeaimmpmhaaGreat
open Go.RowKit

/-- the pieces and the skeleton of a mask -/
def prtN (t : List Nat) (m : Nat) : PK := (srtB ((mapO (fun i => canO 9 (pieN t m i)) (0 :: cutsN m (t.length - 1) 1)).getD []), (canO 9 (sklN t m)).getD [])
end Go.Proofs.YtdjhfeaimmpmhaaGreat

set_option maxRecDepth 100000
set_option linter.unusedVariables false
set_option linter.unusedSimpArgs false
namespace Go.Proofs.YtdjhfeaimmpmhaaGreat
open Go.RowKit

/-! ### partitions by places -/
/-! ### what the kernel finds of the partitions of the trees of maps -/
def okPl (x : List Nat) : Bool := Nat.beq (fndN T6n x) (idxN T6n x) && Nat.ble (idxN T6n x) 37 && Nat.ble 1 (idxN T6n x) && Nat.ble x.length 6
end Go.Proofs.YtdjhfeaimmpmhaaGreat

set_option maxRecDepth 100000
set_option linter.unusedVariables false
set_option linter.unusedSimpArgs false
namespace Go.Proofs.YtdjhfeaimmpmhaaGreat
open Go.RowKit

def gz (a : List Int) (k : Nat) : Int := a.getD k 0
def tcI (a b : List Int) (x : MC) : Int := (x.2 : Int) * (valZ a x.1.1 * b.getD x.1.2 0 % 10007) % 10007
theorem tcI_bd (a b : List Int) (x : MC) : 0 ≤ tcI a b x ∧ tcI a b x ≤ 10006 := by unfold tcI; omega
theorem tcI_is (a b : List Int) (x : MC) : tcI a b x = cvT (gz a) (gz b) x % 10007 := by
  unfold tcI cvT valZ
  rw [mul_modR]
  show (x.2 : Int) * (prodZ (gat a x.1.1) % 10007 * b.getD x.1.2 0) % 10007 = (x.2 : Int) * (prodZ (gat a x.1.1) * b.getD x.1.2 0) % 10007
  rw [← mul_modR (x.2 : Int) (prodZ (gat a x.1.1) % 10007 * b.getD x.1.2 0), mul_modL, mul_modR]
def cvZ (a b : List Int) : List Int := b.getD 0 0 :: (List.range 37).map fun n => sumF (tcI a b) (CTab.getD n []) % 10007
theorem cvZ_len (a b : List Int) : (cvZ a b).length = 38 := by simp [cvZ]
theorem cvZ_nums {a b : List Int} (h : Nums b) : Nums (cvZ a b) := by
  intro z hz
  rcases List.mem_cons.1 hz with rfl | hz
  · have hg : ∀ k, 0 ≤ b.getD k 0 ∧ b.getD k 0 ≤ 10006 := fun k => by
      rw [List.getD_eq_getElem?_getD]
      cases hk : b[k]? with
      | none => simp
      | some z => exact h z (List.mem_of_getElem? hk)
    exact hg 0
  · obtain ⟨n, -, rfl⟩ := List.mem_map.1 hz
    omega
theorem cvZ_get (a b : List Int) {i : Nat} (h : i < 37) : (cvZ a b)[i + 1]? = some (sumF (tcI a b) (CTab.getD i []) % 10007) := by
  unfold cvZ
  simp [h]
theorem CTab_at {i : Nat} (h : i < 37) {x : MC} (hx : x ∈ CTab.getD i []) : (∀ p ∈ x.1.1, p < 38) ∧ x.1.2 < 38 ∧ x.2 ≤ 100 := by
  obtain ⟨l, -, -, -, hc⟩ := cut_at h
  obtain ⟨h1, h2, -, h4⟩ := hc x hx
  exact ⟨fun p hp => by have := (h1 p hp).2; omega, by omega, h4⟩
theorem CTab_ln {i : Nat} (h : i < 37) : (CTab.getD i []).length ≤ 100 := by
  have h1 : (List.range 37).all (fun i => Nat.ble (CTab.getD i []).length 100) = true := by decide +kernel
  rw [List.all_eq_true] at h1
  exact Nat.le_of_ble_eq_true (h1 i (by simpa using h))
/-- the program's lists of cuts -/
def FrC (w : World) (B : Nat) (v : Value) : Prop := ∃ us, Own w B tMl v us ∧ Mls w B us (T6n.map (cutsI T6n))
theorem FrC.below {w w' : World} {B : Nat} {v : Value} (h : FrC w B v) (hb : Below w.heap.size w w') : FrC w' B v := by
  obtain ⟨us, h1, h2⟩ := h
  exact ⟨us, h1.below hb, h2.below hb⟩
theorem FrC.at_ {w : World} {B : Nat} {v : Value} (h : FrC w B v) : ∃ A c, v = .slice A 37 c ∧ ∀ i, i < 37 → ∃ ad css A2 c2, A = some ad ∧ OwnK w B tMc 3 (.slice A2 css.length c2) css ∧ Mcs w B css (CTab.getD i []) ∧ w.cell? (ad.add i) = some (.slice A2 css.length c2) := by
  obtain ⟨us, h1, h2⟩ := h
  have hl := h2.1
  rw [List.length_map, T6n_len] at hl
  obtain ⟨A, c, rfl, -, -⟩ := h1.cells.open_
  rw [hl]
  refine ⟨A, c, rfl, fun i hi => ?_⟩
  obtain ⟨u, hu⟩ : ∃ u, us[i]? = some u := ⟨_, List.getElem?_eq_getElem (by rw [hl]; exact hi)⟩
  obtain ⟨l, -, hci, -, -⟩ := cut_at hi
  have hci : cutsI T6n (tr i) = CTab.getD i [] := hci
  obtain ⟨css, h3, h4⟩ := h2.2 i u (CTab.getD i []) hu (by rw [List.getElem?_map, tr_get hi, ← hci]; rfl)
  obtain ⟨A2, c2, rfl, -, -⟩ := h3.open_
  obtain ⟨ad, n', c', he, hc⟩ := h1.cells.at_ hu
  simp only [Value.slice.injEq] at he
  exact ⟨ad, css, A2, c2, he.1, h3, h4, hc⟩
/-- newForms' result opened -/
theorem Frm.openC {w : World} {B : Nat} {v : Value} (h : Frm w B v) : ∃ A c Ay cy, v = .agg #[.slice A 37 c, .slice Ay 37 cy] ∧ Rows w (.slice A 37 c) (T6n.map up) ∧ FrC w B (.slice Ay 37 cy) := by
  obtain ⟨x, y, us, rfl, h1, h2, h3⟩ := h
  obtain ⟨A, c, he, -, -, -⟩ := h1.rows.open_
  rw [List.length_map, T6n_len] at he
  subst he
  have hf : FrC w B y := ⟨us, h2, h3⟩
  obtain ⟨Ay, cy, rfl, -⟩ := hf.at_
  exact ⟨A, c, Ay, cy, rfl, h1.rows, hf⟩
end Go.Proofs.YtdjhfeaimmpmhaaGreat

set_option maxRecDepth 100000
set_option linter.unusedVariables false
set_option linter.unusedSimpArgs false
namespace Go.Proofs.YtdjhfeaimmpmhaaGreat
open Go.RowKit

section
variable {w w' : World} {B : Nat} {us : List Value} {xss : List (List MC)}
end

end Go.Proofs.YtdjhfeaimmpmhaaGreat

set_option linter.unusedVariables false
set_option linter.unusedSimpArgs false
namespace Go.Proofs.YtdjhfeaimmpmhaaGreat
open Go.RowKit

end Go.Proofs.YtdjhfeaimmpmhaaGreat

set_option maxRecDepth 100000
set_option linter.unusedVariables false
set_option linter.unusedSimpArgs false
namespace Go.Proofs.YtdjhfeaimmpmhaaGreat
open Go.RowKit

/-! ### the partitions of the trees of maps -/
structure PrA (t : List Nat) (i : Nat) (sk : List Nat) (pcs : List (List Nat)) : Prop where
  hsk : canO 9 (sklN t (2 * i)) = some sk
  hpc : mapO (fun j => canO 9 (pieN t (2 * i) j)) (0 :: cutsN (2 * i) (t.length - 1) 1) = some pcs
  prt : prtN t (2 * i) = (srtB pcs, sk)
  osk : okPl sk = true
  opc : ∀ q ∈ srtB pcs, okPl q = true
  pl : (srtB pcs).length ≤ 8
  pie : ∀ j, j < t.length → (pieN t (2 * i) j).length ≤ 8
  full : i + 1 = 2 ^ (t.length - 1) ↔ idxN T6n sk = idxN T6n t
  one : i = 0 ↔ idxN T6n sk = 1
/-! ### sums over masks -/
/-! ### substitution -/
theorem getD_nums {a : List Int} (h : Nums a) (k : Nat) : 0 ≤ a.getD k 0 ∧ a.getD k 0 ≤ 10006 := by
  rw [List.getD_eq_getElem?_getD]
  cases hk : a[k]? with
  | none => simp
  | some z => exact h z (List.mem_of_getElem? hk)
/-! ### lists that are filled one place after the other -/
/-! ### the inverse by substitution -/
/-! ### the map whose substitution into a is another one -/
end Go.Proofs.YtdjhfeaimmpmhaaGreat

set_option maxRecDepth 100000
set_option linter.unusedVariables false
set_option linter.unusedSimpArgs false
namespace Go.Proofs.YtdjhfeaimmpmhaaGreat
open Go.RowKit

def mapB (zs : List Int) : Bool := decide (zs.length = 38) && nums zs
def chrC (zs : List Int) : Int := if mapB zs then (if zs.getD 0 0 = 1 then 0 else 5) else 1
theorem mapB_true {zs : List Int} (h : mapB zs = true) : zs.length = 38 ∧ ∀ z ∈ zs, 0 ≤ z ∧ z ≤ 10006 := by
  unfold mapB at h
  rw [Bool.and_eq_true, nums_iff] at h
  exact ⟨by simpa using h.1, h.2⟩

set_option maxHeartbeats 400000 in
theorem i_IsMap (w : World) (v : Value) (zs : List Int) (ha : Ints w v zs) : Calls Tryz.prog 85 #[v] w fun e w' => e = .returned (.bool (mapB zs)) ∧ w = w' := by
  have HA := Lib.hid ha
  obtain ⟨A, c, rfl, -, -, -⟩ := ha.open_
  clear ha
  by_cases h : zs.length = 38
  · have HF := Lib.hid (show mapB zs = nums zs by simp [mapB, h])
    have hd : ((zs.length : Int) == 38) = true := by simp [h]
    clear h
    go_enter Tryz.func85, Tryz.ntmps85
    go_wp2_with (go_at_call 54; refine (i_areNumbers _ _ _ HA.out).mono ?_; rintro e w' ⟨rfl, rfl⟩)
    go_ret
    exact ⟨ret_bool HF.out.symm, rfl⟩
  · have HF := Lib.hid (show mapB zs = false by simp [mapB, h])
    have hd : ((zs.length : Int) == 38) = false := by simp; omega
    clear h
    go_enter Tryz.func85, Tryz.ntmps85
    go_wp2_with (go_at_call 54; refine (i_areNumbers _ _ _ HA.out).mono ?_; rintro e w' ⟨rfl, rfl⟩)
    go_ret
    exact ⟨ret_bool HF.out.symm, rfl⟩

set_option maxHeartbeats 400000 in
theorem s_l07Is (w : World) (v : Value) (zs : List Int) (ha : Ints w v zs) : Calls Tryz.prog 129 #[v] w fun e w' => e = .returned (.bool (mapB zs)) ∧ w = w' := by
  have HA := Lib.hid ha
  obtain ⟨A, c, rfl, -, -, -⟩ := ha.open_
  clear ha
  by_cases h : zs.length = 38
  · have HF := Lib.hid (show mapB zs = nums zs by simp [mapB, h])
    have hd : ((zs.length : Int) == 38) = true := by simp [h]
    clear h
    go_enter Tryz.func129, Tryz.ntmps129
    go_wp2_with (go_at_call 61; refine (s_l01Numbers _ _ _ HA.out).mono ?_; rintro e w' ⟨rfl, rfl⟩)
    go_ret
    exact ⟨ret_bool HF.out.symm, rfl⟩
  · have HF := Lib.hid (show mapB zs = false by simp [mapB, h])
    have hd : ((zs.length : Int) == 38) = false := by simp; omega
    clear h
    go_enter Tryz.func129, Tryz.ntmps129
    go_wp2_with (go_at_call 61; refine (s_l01Numbers _ _ _ HA.out).mono ?_; rintro e w' ⟨rfl, rfl⟩)
    go_ret
    exact ⟨ret_bool HF.out.symm, rfl⟩

/-- the head of a map -/
theorem map_head {w : World} {A : Option Addr} {c : Nat} {zs : List Int} (h : Ints w (.slice A zs.length c) zs) (hm : mapB zs = true) : ∃ ad, A = some ad ∧ w.cell? ad = some (.int .i64 (zs.getD 0 0)) := by
  obtain ⟨A', c', he, -, -, h3⟩ := h.open_
  injection he with h1 h2 h4
  subst h1
  obtain ⟨ad, z, rfl, hz, -, hc⟩ := h3 0 (by have := (mapB_true hm).1; omega)
  refine ⟨ad, rfl, ?_⟩
  rw [List.getD_eq_getElem?_getD, hz]
  simpa [Addr.add] using hc

set_option maxHeartbeats 800000 in
theorem i_checkCharacter (w : World) (v : Value) (zs : List Int) (ha : Ints w v zs) : Calls Tryz.prog 74 #[v] w fun e w' => e = .returned (.int .i64 (chrC zs)) ∧ w = w' := by
  have HM := Lib.hid (i_IsMap w v zs ha)
  obtain ⟨A, c, rfl, -, -, -⟩ := ha.open_
  cases hm : mapB zs with
  | false =>
    rw [hm] at HM
    rw [show chrC zs = 1 by simp [chrC, hm]]
    clear hm ha
    go_enter Tryz.func74, Tryz.ntmps74
    go_wp2_with (go_at_call 85; refine HM.out.mono ?_; rintro e w' ⟨rfl, rfl⟩)
    go_ret
    exact ⟨rfl, rfl⟩
  | true =>
    obtain ⟨ad, rfl, hc⟩ := map_head ha hm
    have hl := (mapB_true hm).1
    rw [hm] at HM
    have hpos : 0 < zs.length := by omega
    have hpi : (0 : Int) < (zs.length : Int) := by omega
    have HC := Lib.hid (show chrC zs = if zs.getD 0 0 = 1 then 0 else 5 by simp [chrC, hm])
    rw [HC.out]
    clear hm ha hl
    generalize zs.getD 0 0 = z at *
    by_cases hz : z = 1
    · have hd : (z != 1) = false := by simp [hz]
      rw [if_pos hz]
      clear hz HC
      go_enter Tryz.func74, Tryz.ntmps74
      go_wp2_with (go_at_call 85; refine HM.out.mono ?_; rintro e w' ⟨rfl, rfl⟩)
      go_ret
      exact ⟨rfl, rfl⟩
    · have hd : (z != 1) = true := by simp [hz]
      rw [if_neg hz]
      clear hz HC
      go_enter Tryz.func74, Tryz.ntmps74
      go_wp2_with (go_at_call 85; refine HM.out.mono ?_; rintro e w' ⟨rfl, rfl⟩)
      go_ret
      exact ⟨rfl, rfl⟩

set_option maxHeartbeats 800000 in
/-- the reference's check of one character -/
theorem s_l07Code1 (w : World) (v : Value) (zs : List Int) (ha : Ints w v zs) : Calls Tryz.prog 76 #[v, v] w fun e w' => e = .returned (.int .i64 (chrC zs)) ∧ w = w' := by
  have HM := Lib.hid (s_l07Is w v zs ha)
  obtain ⟨A, c, rfl, -, -, -⟩ := ha.open_
  cases hm : mapB zs with
  | false =>
    rw [hm] at HM
    rw [show chrC zs = 1 by simp [chrC, hm]]
    clear hm ha
    go_enter Tryz.func76, Tryz.ntmps76
    go_wp2_with (go_at_call 129; refine HM.out.mono ?_; rintro e w' ⟨rfl, rfl⟩)
    go_ret
    exact ⟨rfl, rfl⟩
  | true =>
    obtain ⟨ad, rfl, hc⟩ := map_head ha hm
    have hl := (mapB_true hm).1
    rw [hm] at HM
    have hpos : 0 < zs.length := by omega
    have hpi : (0 : Int) < (zs.length : Int) := by omega
    have HC := Lib.hid (show chrC zs = if zs.getD 0 0 = 1 then 0 else 5 by simp [chrC, hm])
    rw [HC.out]
    clear hm ha hl
    generalize zs.getD 0 0 = z at *
    by_cases hz : z = 1
    · have hd : (z != 1) = false := by simp [hz]
      rw [if_pos hz]
      clear hz HC
      go_enter Tryz.func76, Tryz.ntmps76
      go_wp2_with (go_at_call 129; refine HM.out.mono ?_; rintro e w' ⟨rfl, rfl⟩)
      go_ret
      exact ⟨rfl, rfl⟩
    · have hd : (z != 1) = true := by simp [hz]
      rw [if_neg hz]
      clear hz HC
      go_enter Tryz.func76, Tryz.ntmps76
      go_wp2_with (go_at_call 129; refine HM.out.mono ?_; rintro e w' ⟨rfl, rfl⟩)
      go_ret
      exact ⟨rfl, rfl⟩

end Go.Proofs.YtdjhfeaimmpmhaaGreat

set_option maxRecDepth 100000
set_option linter.unusedVariables false
set_option linter.unusedSimpArgs false
namespace Go.Proofs.YtdjhfeaimmpmhaaGreat
open Go.RowKit

theorem wr_mul {a d : Nat} (h : a * d ≤ 1000000) : wrap64 ((a : Int) * (d : Int)) = ((a * d : Nat) : Int) ∧ IntKind.i64.wrap ((a : Int) * (d : Int)) = ((a * d : Nat) : Int) := by
  have h0 : ((a : Int) * (d : Int)) = ((a * d : Nat) : Int) := (Int.natCast_mul a d).symm
  rw [h0]
  generalize a * d = x at h
  have hb : -9223372036854775808 ≤ (x : Int) ∧ (x : Int) ≤ 9223372036854775807 := by omega
  exact ⟨by unfold wrap64; omega, IntWalk.i64_in _ hb⟩

set_option maxHeartbeats 4000000 in
theorem s_l03Density : ∀ (f : Nat) (w : World) (v : Value) (t : List Nat) (r : Nat), Ints w v (up t) → denO f t = some r → t.length ≤ 1000 → (∀ l ∈ t, l ≤ 1000000) →
    Calls Tryz.prog 150 #[v] w fun e w' => e = .returned (.int .i64 (r : Nat)) ∧ Below w.heap.size w w' := by
  intro f
  induction f with
  | zero => intro w v t r _ h; cases h
  | succ f ih =>
    intro w v t r ha hr hn hl
    obtain ⟨bs, hb, hd⟩ := denO_succ hr
    have hbl := brO_lens hb hn
    have hbm := brO_mem hb hl
    have IH := Lib.hid ih
    have HA := Lib.hid ha
    have HB := Lib.hid (s_l03Parts w v t bs ha hb hn hl)
    have HD := Lib.hid hd
    have HBL := Lib.hid hbl
    have HBM := Lib.hid hbm
    have hbl1 := hbl.1
    obtain ⟨A, c, rfl, -, -, -⟩ := ha.open_
    rw [up_len] at HA HB ⊢
    clear ih ha hr hb hd hbl hbm hl
    go_enter Tryz.func150, Tryz.ntmps150
    go_wp2_with (go_at_call 192; refine HB.out.mono ?_; rintro e w1 ⟨x1, rfl, hx1, hb1⟩; obtain ⟨vs, hv, hrr⟩ := hx1; have hvl := hrr.1; rw [List.length_map] at hvl; obtain ⟨A1, c1, rfl, -, -⟩ := hv.cells.open_; have HV := Lib.hid hv; have HRR := Lib.hid hrr; have HB1 := Lib.hid hb1; have HVL := Lib.hid hvl; clear hv hrr hb1 hvl)
    go_loopw [3, 5] (fun o x wr => ∃ (k a : Nat), k ≤ vs.length ∧ a ≤ 1000000 ∧ x = .int .i64 k ∧ o = .int .i64 a ∧ Hid (denL (denO f) (bs.drop k) a = some r) ∧ Below w1.heap.size w1 wr) (fun _ x _ => vs.length - (intOf x).toNat)
    case atStart => exact ⟨0, t.length, Nat.zero_le _, by omega, rfl, rfl, HD.out, Below.refl _ _⟩
    case round =>
      obtain ⟨k, a, hk, ha6, rfl, rfl, hD, hb⟩ := hrel
      have HBK := Lib.hid hb
      have hvn : vs.length ≤ 1000 := by rw [HVL.out]; exact hbl1
      clear hb
      by_cases hlt : k < vs.length
      · obtain ⟨b, hbk⟩ : ∃ b, bs[k]? = some b := ⟨_, List.getElem?_eq_getElem (by rw [← HVL.out]; exact hlt)⟩
        have hdr : bs.drop k = b :: bs.drop (k + 1) := by
          obtain ⟨h1, h2⟩ := List.getElem?_eq_some_iff.1 hbk
          rw [List.drop_eq_getElem_cons h1, h2]
        have hD2 := hD.out
        rw [hdr] at hD2
        obtain ⟨d, hd1, hd2, hd3⟩ := denL_cons hD2
        obtain ⟨u, hu⟩ : ∃ u, vs[k]? = some u := ⟨_, List.getElem?_eq_getElem hlt⟩
        obtain ⟨ad, n', c', he, hcell⟩ := (HV.out.below HBK.out).cells.at_ hu
        simp only [Value.slice.injEq] at he
        obtain ⟨rfl, -, -⟩ := he
        have hrow := (HRR.out.below HBK.out).2 k u (up b) hu (by rw [List.getElem?_map, hbk]; rfl)
        have HRO := Lib.hid hrow
        have HC := Lib.hid (IH.out wr u b d hrow.ints hd1 (HBL.out.2 b (List.mem_of_getElem? hbk)) (HBM.out b (List.mem_of_getElem? hbk)))
        have HD3 := Lib.hid hd3
        obtain ⟨hw1, hw2⟩ := wr_mul hd2
        have hkk : (k : Int) < (vs.length : Int) := by omega
        clear hbk hdr hD hD2 hd1 hd3 hrow hu
        go_wp2_with (go_at_call 150; go_loud (refine HC.out.mono ?_; rintro e w2 ⟨rfl, hb2⟩; have HB2 := Lib.hid hb2; clear hb2))
        go_roundw
        case rel => exact ⟨k + 1, a * d, by omega, hd2, by go_num, rfl, HD3.out, HBK.out.trans (HB2.out.mono HBK.out.size)⟩
        case measure => simp [intOf]; omega
      · have hkl : k = bs.length := by rw [← HVL.out]; omega
        have hD2 := hD.out
        rw [hkl, List.drop_length, denL] at hD2
        injection hD2 with hD2
        subst hD2
        clear hkl
        go_wp2_with fail
        go_ret
        exact ⟨rfl, HB1.out.trans (HBK.out.mono HB1.out.size)⟩

set_option maxHeartbeats 2000000 in
theorem im_fnodes (w : World) (v : Value) (B : Option Addr) (m d k : Nat) (ha : Rows w v (T6n.map up)) (hk : k ≤ 37) :
    Calls Tryz.prog 143 #[.agg #[v, .slice B m d], .int .i64 k] w fun e w' => e = .returned (.int .i64 (szN k : Nat)) ∧ w' = w.alloc (.cells #[v, .slice B m d] 71) := by
  obtain ⟨A, c, rfl, -, -, h3⟩ := ha.open_
  rw [List.length_map, T6n_len] at h3 ⊢
  have hbel : Below w.heap.size w (w.alloc (.cells #[.slice A 37 c, .slice B m d] 71)) := below1 w _
  have hq0 : (w.alloc (.cells #[.slice A 37 c, .slice B m d] 71)).cell? ⟨w.heap.size, 0, none⟩ = some (.slice A 37 c) := (Blk.new w _ _).cell 0
  cases k with
  | zero =>
    clear h3 hbel
    go_enter Tryz.func143, Tryz.ntmps143
    go_wp2_with fail
    go_ret
    exact ⟨rfl, rfl⟩
  | succ k =>
    have hk7 : k < 37 := by omega
    obtain ⟨ad, u, zs, rfl, hz, hu, hc⟩ := h3 k hk7
    have ht : T6n[k]? = some (T6n[k]'(by rw [T6n_len]; exact hk7)) := List.getElem?_eq_getElem _
    rw [List.getElem?_map, ht] at hz
    injection hz with hz
    subst hz
    rw [szN_succ ht]
    generalize T6n[k]'(by rw [T6n_len]; exact hk7) = t at *
    obtain ⟨Au, cu, rfl, -, -, -⟩ := hu.open_
    rw [up_len] at hu hc
    have HLN := Lib.hid (lib_lengthI _ _ _ (hu.below hbel))
    rw [up_len] at HLN
    have hc1 : (w.alloc (.cells #[.slice (some ad) 37 c, .slice B m d] 71)).cell? (ad.add k) = some (.slice Au t.length cu) := by
      rw [hbel.cell (by rw [block_add]; have := World.block_lt_of_cell? w _ hc; rwa [block_add] at this)]; exact hc
    have hkk : (k : Int) < 37 := by omega
    have hz0 : (((k + 1 : Nat) : Int) == 0) = false := by simp; omega
    have hz1 : ((k + 1 : Nat) : Int) - 1 = (k : Int) := by omega
    clear h3 ht hu hc hbel
    go_enter Tryz.func143, Tryz.ntmps143
    go_wp2_with (go_at_call 154; refine HLN.out.mono ?_; rintro e w0 ⟨rfl, rfl⟩)
    go_ret
    exact ⟨rfl, rfl⟩
end Go.Proofs.YtdjhfeaimmpmhaaGreat

set_option maxRecDepth 100000
set_option linter.unusedVariables false
set_option linter.unusedSimpArgs false
namespace Go.Proofs.YtdjhfeaimmpmhaaGreat
open Go.RowKit

/-- a list that is filled from the front, the rest 0 -/
def filT (l : List Int) (i : Nat) : List Int := l.take i ++ List.replicate (l.length - i) 0
theorem filT_in {l : List Int} (h : ∀ z ∈ l, In64 z) (i : Nat) : ∀ z ∈ filT l i, In64 z := by
  intro z hz
  rcases List.mem_append.1 hz with hz | hz
  · exact h z (List.mem_of_mem_take hz)
  · have := List.eq_of_mem_replicate hz
    subst this
    unfold In64; omega
theorem ints_set (zs : List Int) (k : Nat) (z : Int) : (ints zs).set k (.int .i64 z) = ints (zs.set k z) := by simp [ints, List.map_set]
theorem ints_getD {zs : List Int} {k : Nat} {z : Int} (h : zs[k]? = some z) : zs.getD k 0 = z := by simp [List.getD, h]
theorem in64_num {z : Int} (h : 0 ≤ z ∧ z ≤ 10006) : In64 z := by unfold In64; omega

set_option maxHeartbeats 400000 in
theorem i_UnitMap (w : World) : Calls Tryz.prog 151 #[] w fun e w' => ∃ x, e = .returned x ∧ OwnInts w' w.heap.size tI x (filT EX 1) ∧ Below w.heap.size w w' := by
  have hset : (List.replicate 38 (Value.int .i64 0)).set 0 (.int .i64 1) = ints (filT EX 1) := rfl
  go_enter Tryz.func151, Tryz.ntmps151
  go_wp2_with (at_make; refine wpList_mk rfl _ _ _ rfl _ _ _ T_int 38 _ rfl rfl rfl (by omega) _ ?_; intro w1 hown hb hs; obtain ⟨u0, hu0, hcg, hfg, hg2, hg1, hown', hgr⟩ := hown.storeAt (k := 0) (by simp) (.int .i64 1); rw [hset] at hown'; have HO := Lib.hid hown'; have HB := Lib.hid hb; clear hown hown' hgr hu0 hg1 hb)
  go_ret
  exact ⟨_, rfl, ⟨HO.out, filT_in (fun z hz => in64_num (EX_nums z hz)) 1⟩, HB.out.setCell (Nat.le_refl _) _⟩

/-- what the walks of both need of a tree -/
theorem den_of {t : List Nat} (h : t ∈ T6n) : ∃ d : Nat, denO 9 t = some d ∧ 1 ≤ d ∧ d ≤ 720 ∧ pw (d : Int) 10005 = (exV t : Nat) ∧ t.length ≤ 1000 ∧ (∀ l ∈ t, l ≤ 1000000) := by
  obtain ⟨d, h1, h2, h3, -, -⟩ := T6n_den h
  obtain ⟨-, -, h5, h6⟩ := T6n_at h
  exact ⟨d, h1, h2, h3, exV_pw h1, by omega, fun l hl => by have := h6 l hl; omega⟩
/-- the row of a tree -/
theorem Rows.tree {w : World} {A : Option Addr} {c : Nat} (h : Rows w (.slice A 37 c) (T6n.map up)) {i : Nat} (hi : i < 37) :
    ∃ ad At ct t, A = some ad ∧ T6n[i]? = some t ∧ Ints w (.slice At t.length ct) (up t) ∧ w.cell? (ad.add i) = some (.slice At t.length ct) := by
  obtain ⟨A', c', he, -, -, h3⟩ := h.open_
  rw [List.length_map, T6n_len] at he h3
  simp only [Value.slice.injEq, true_and] at he
  obtain ⟨rfl, rfl⟩ := he
  obtain ⟨ad, u, zs, rfl, hz, hu, hc⟩ := h3 i hi
  have ht : T6n[i]? = some (T6n[i]'(by rw [T6n_len]; exact hi)) := List.getElem?_eq_getElem _
  rw [List.getElem?_map, ht] at hz
  injection hz with hz
  subst hz
  obtain ⟨Au, cu, rfl, -, -, -⟩ := hu.open_
  rw [up_len] at hu hc
  exact ⟨ad, Au, cu, _, rfl, ht, hu, hc⟩

set_option maxHeartbeats 1000000 in
theorem s_l01Frac (w : World) (p q : Int) (h0 : 0 ≤ p) (h1 : p ≤ 1000000) (g0 : 0 ≤ q) (g1 : q ≤ 1000000) :
    Calls Tryz.prog 149 #[.int .i64 p, .int .i64 q] w fun e w' => e = .returned (.int .i64 ((p % 10007) * pw (q % 10007) 10005 % 10007)) ∧ w = w' := by
  have hp := pw_bd (q % 10007) 10005
  have hq : 0 ≤ q % 10007 ∧ q % 10007 ≤ 10006 := by omega
  have hq2 : 0 ≤ p % 10007 ∧ p % 10007 ≤ 10006 := by omega
  go_enter Tryz.func149, Tryz.ntmps149
  go_wp2_with (first
    | (go_at_call 191; (with_reducible refine (s_l01Inv _ _ (by omega) (by omega)).mono ?_); rintro e w2 ⟨rfl, rfl⟩)
    | (go_at_call 131; (with_reducible refine (s_l01Mul _ _ _ (by omega) (by omega) (by omega) (by omega)).mono ?_); rintro e w2 ⟨rfl, rfl⟩)
    | (go_at_call 123; (with_reducible refine (s_l01Mod _ _ (by omega) (by omega)).mono ?_); rintro e w2 ⟨rfl, rfl⟩))
  go_ret
  exact ⟨rfl, rfl⟩

set_option maxHeartbeats 4000000 in
theorem s_l07Exact (w : World) :
    Calls Tryz.prog 91 #[] w fun e w' => ∃ x, e = .returned x ∧ OwnInts w' w.heap.size tI x EX ∧ Below w.heap.size w w' := by
  go_enter Tryz.func91, Tryz.ntmps91
  go_wp2_with (go_at_call 70; go_loud (refine (s_l03All _ 6 (by omega)).mono ?_; rintro e w1 ⟨x1, rfl, hx1, hb1⟩; rw [show allG treesN 6 = T6n from rfl] at hx1; obtain ⟨A1, c1, he1, -, -, -⟩ := hx1.rows.open_; rw [List.length_map, T6n_len] at he1; subst he1; have HX1 := Lib.hid hx1; have HB1 := Lib.hid hb1; clear hx1 hb1))
  have OL := Lib.hid (show Own (w1.alloc (.cells #[.int .i64 1] tI)) w1.heap.size tI (.slice (some ⟨w1.heap.size, 0, none⟩) 1 1) (ints (EX.take 1)) from own_lit w1 tI [.int .i64 1] (by simp [maxLen]))
  have HBB := Lib.hid (HB1.out.trans ((below1 w1 (.cells #[.int .i64 1] tI)).mono HB1.out.size))
  have HBZ := Lib.hid (below1 w1 (.cells #[.int .i64 1] tI))
  have HSZ := Lib.hid HB1.out.size
  clear HB1
  go_loopw [2, 3] (fun o x wr => ∃ i : Nat, i ≤ 37 ∧ x = .int .i64 i ∧ Own wr w1.heap.size tI o (ints (EX.take (i + 1))) ∧ Below w1.heap.size w1 wr ∧ Below w.heap.size w wr) (fun _ x _ => 37 - (intOf x).toNat)
  case atStart => exact ⟨0, Nat.zero_le _, rfl, OL.out, HBZ.out, HBB.out⟩
  case round =>
    obtain ⟨i, hi, rfl, ho, hb1, hb⟩ := hrel
    clear OL HBZ HBB
    have hrw := HX1.out.rows.below hb1
    have hol := ho.cells.open_
    have hel : (EX.take (i + 1)).length = i + 1 := by rw [List.length_take, EX_len]; omega
    rw [ints_len, hel] at hol
    obtain ⟨Ao, co, rfl, -, -⟩ := hol
    have HEL := Lib.hid hel
    have HO := Lib.hid ho
    have HB := Lib.hid hb
    have HB1 := Lib.hid hb1
    clear ho hb hb1 hel
    by_cases hlt : i < 37
    · obtain ⟨ad, At, ct, t, rfl, ht, hti, hcr⟩ := hrw.tree hlt
      obtain ⟨dn, hd1, hd2, hd3, hd4, hd5, hd6⟩ := den_of (List.mem_of_getElem? ht)
      have HDE := Lib.hid (s_l03Density 9 wr _ t dn hti hd1 hd5 hd6)
      have HFR := Lib.hid (fun W => show Calls Tryz.prog 149 #[.int .i64 1, .int .i64 (dn : Int)] W fun e w' => e = .returned (.int .i64 ((exV t : Nat) : Int)) ∧ W = w' from by
        have h := s_l01Frac W 1 (dn : Int) (by omega) (by omega) (by omega) (by omega)
        have hmod : (dn : Int) % 10007 = (dn : Int) := by omega
        have hz := exV_le t
        rw [hmod, hd4, show (1 : Int) % 10007 = 1 from rfl, show ((1 : Int) * ((exV t : Nat) : Int)) % 10007 = ((exV t : Nat) : Int) by omega] at h
        exact h)
      have HTS := Lib.hid (show ints (EX.take (i + 1 + 1)) = ints (EX.take (i + 1)) ++ [.int .i64 ((exV t : Nat) : Int)] from by rw [List.take_add_one, EX_succ ht, ints, ints, List.map_append]; rfl)
      have hii : (i : Int) < 37 := by omega
      clear ht hti hd1 hd4 hd5 hd6 hrw
      go_wp2_with (first
        | (go_at_call 150; go_loud (refine HDE.out.mono ?_; rintro e w2 ⟨rfl, hb2⟩; have HB2 := Lib.hid hb2; have HOX := Lib.hid (HO.out.below hb2); clear hb2))
        | (go_at_call 149; refine (HFR.out _).mono ?_; rintro e w3 ⟨rfl, rfl⟩)
        | (at_builtin; go_loud (refine wpList_app1 T_int HOX.out (by rw [ints_len, HEL.out]; omega) (Nat.le_trans HB1.out.size HB2.out.size) (by rfl) rfl (by rfl) (by rfl) (by rfl) ?_; intro v1 w6 hown1 hgr1; have HN := Lib.hid hown1; have HGR := Lib.hid hgr1; clear hown1 hgr1)))
      go_roundw
      case rel =>
        have hb6 : Below w1.heap.size w1 w6 := HGR.out.below (HB1.out.trans (HB2.out.mono HB1.out.size)) (Nat.le_trans HB1.out.size HB2.out.size) HO.out.ge
        have hge := HO.out.ge
        refine ⟨i + 1, by omega, by go_num, ?_, hb6, HGR.out.below (HB.out.trans (HB2.out.mono HB.out.size)) (Nat.le_trans HB.out.size HB2.out.size) (fun b hb => Nat.le_trans HSZ.out (hge b hb))⟩
        rw [HTS.out]; exact HN.out
      case measure => simp [intOf]; omega
    · have hil : i + 1 = EX.length := by rw [EX_len]; omega
      have HF := Lib.hid (show EX.take (i + 1) = EX from by rw [hil]; exact List.take_length)
      clear hil
      go_wp2_with fail
      go_ret
      refine ⟨_, rfl, ⟨?_, fun z hz => in64_num (EX_nums z hz)⟩, HB.out⟩
      have h := HO.out
      rw [HF.out] at h
      exact h.mono HSZ.out
end Go.Proofs.YtdjhfeaimmpmhaaGreat

set_option maxRecDepth 100000
set_option linter.unusedVariables false
set_option linter.unusedSimpArgs false
namespace Go.Proofs.YtdjhfeaimmpmhaaGreat
open Go.RowKit

/-- a cell of a map -/
theorem map_cell {w : World} {A : Option Addr} {c : Nat} {a : List Int} (h : Ints w (.slice A 38 c) a) (hm : ∀ z ∈ a, 0 ≤ z ∧ z ≤ 10006) {k : Nat} (hk : k < 38) :
    ∃ ad, A = some ad ∧ w.cell? (ad.add k) = some (.int .i64 (a.getD k 0)) ∧ 0 ≤ a.getD k 0 ∧ a.getD k 0 ≤ 10006 := by
  obtain ⟨A', c', he, -, -, h3⟩ := h.open_
  simp only [Value.slice.injEq] at he
  obtain ⟨rfl, hl, rfl⟩ := he
  obtain ⟨ad, z, rfl, hz, -, hc⟩ := h3 k (by omega)
  rw [ints_getD hz]
  have := hm z (List.mem_of_getElem? hz)
  exact ⟨ad, rfl, hc, this.1, this.2⟩

end Go.Proofs.YtdjhfeaimmpmhaaGreat

set_option maxRecDepth 100000
set_option linter.unusedVariables false
set_option linter.unusedSimpArgs false
namespace Go.Proofs.YtdjhfeaimmpmhaaGreat
open Go.RowKit

set_option maxHeartbeats 2000000 in
theorem i_valueOf (w : World) (va vp : Value) (a : List Int) (ps : List Nat) (h1 : Ints w va a) (l1 : a.length = 38) (hN : Nums a) (h2 : Ints w vp (up ps)) (hp : ∀ p ∈ ps, p < 38) :
    Calls Tryz.prog 142 #[va, vp] w fun e w' => e = .returned (.int .i64 (valZ a ps)) ∧ w = w' := by
  obtain ⟨A, c, rfl, -, -, -⟩ := h1.open_
  rw [l1] at h1 ⊢
  have HA := Lib.hid h1
  have HN := Lib.hid hN
  have HP := Lib.hid hp
  obtain ⟨A2, c2, rfl, hc2, hc3, g2⟩ := h2.open_
  rw [up_len] at g2 hc2 ⊢
  have G2 := Lib.hid g2
  clear h1 h2 l1 hN hp g2
  go_enter Tryz.func142, Tryz.ntmps142
  go_wp2_with fail
  go_loop [5, 10] (fun x y => ∃ k : Nat, k ≤ ps.length ∧ x = .int .i64 (valZ a (ps.take k)) ∧ y = .int .i64 k) (fun _ y => ps.length - (intOf y).toNat)
  case atStart => exact ⟨0, Nat.zero_le _, rfl, rfl⟩
  case round =>
    obtain ⟨k, hk, rfl, rfl⟩ := hrel
    have hv := valZ_bd a (ps.take k)
    by_cases hlt : k < ps.length
    · obtain ⟨p, hpk⟩ : ∃ p, ps[k]? = some p := ⟨_, List.getElem?_eq_getElem hlt⟩
      have hp38 := HP.out p (List.mem_of_getElem? hpk)
      obtain ⟨a2, z, rfl, hz, -, hcz⟩ := G2.out k hlt
      have hze : z = (p : Int) := by
        unfold up at hz
        rw [List.getElem?_map, hpk] at hz
        injection hz with hz
        exact hz.symm
      subst hze
      obtain ⟨ad, rfl, hcx, hx0, hx1⟩ := map_cell HA.out HN.out hp38
      have HV := Lib.hid (show valZ a (ps.take (k + 1)) = valZ a (ps.take k) * a.getD p 0 % 10007 from by rw [List.take_add_one, hpk]; exact valZ_snoc a _ p)
      generalize a.getD p 0 = y at *
      generalize valZ a (ps.take k) = s at *
      obtain ⟨p1, p2⟩ := mul_bd 10006 10006 hv.1 hv.2 hx0 hx1
      have hkk : (k : Int) < (ps.length : Int) := by omega
      have hpp : (p : Int) < 38 := by omega
      clear hz hpk
      go_wp2_with (go_at_call 60; refine (i_num _ _ (by omega) (by omega)).mono ?_; rintro e w' ⟨rfl, rfl⟩)
      go_roundw
      case rel => exact ⟨k + 1, by omega, by rw [HV.out], by go_num⟩
      case measure => simp [intOf]; omega
    · have hkl : ps.take k = ps := List.take_of_length_le (by omega)
      rw [hkl]
      clear hkl
      go_wp2_with fail
      go_ret
      exact ⟨rfl, rfl⟩
end Go.Proofs.YtdjhfeaimmpmhaaGreat

set_option maxRecDepth 100000
set_option linter.unusedVariables false
set_option linter.unusedSimpArgs false
namespace Go.Proofs.YtdjhfeaimmpmhaaGreat
open Go.RowKit

theorem Mcs.at_ {w : World} {B : Nat} {css : List (List Value)} {xs : List MC} {i : Nat} {x : MC} (h : Mcs w B css xs) (hx : xs[i]? = some x) : ∃ c, css[i]? = some c ∧ McD w B c x := by
  have hi := (List.getElem?_eq_some_iff.1 hx).1
  have hc : css[i]? = some (css[i]'(by rw [h.1]; exact hi)) := List.getElem?_eq_getElem _
  exact ⟨_, hc, h.2 i _ x hc hx⟩
/-- the parts of a partition or a cut in memory -/
theorem part_at {w : World} {B : Nat} {e : TypeId} {A2 : Option Addr} {c2 : Nat} {css : List (List Value)} {xs : List MC} {j : Nat} {x : MC} (h : OwnK w B e 3 (.slice A2 css.length c2) css) (hm : Mcs w B css xs) (hx : xs[j]? = some x) :
    ∃ go As cs, A2 = some ⟨go, 0, none⟩ ∧ OwnInts w B tN (.slice As x.1.1.length cs) (up x.1.1) ∧ w.cell? ⟨go, j * 3, none⟩ = some (.int .i64 (x.2 : Nat)) ∧ w.cell? ⟨go, j * 3 + 1, none⟩ = some (.slice As x.1.1.length cs) ∧ w.cell? ⟨go, j * 3 + 2, none⟩ = some (.int .i64 (x.1.2 : Nat)) := by
  obtain ⟨c, hc, s, rfl, hs⟩ := hm.at_ hx
  obtain ⟨As, cs, rfl, -, -, -⟩ := hs.ints.open_
  rw [up_len] at hs hc
  obtain ⟨go, cg, heo, hg0⟩ := h.cell (j := 0) hc rfl
  simp only [Value.slice.injEq] at heo
  obtain ⟨rfl, -, rfl⟩ := heo
  refine ⟨go, As, cs, rfl, hs, hg0, ?_, ?_⟩
  · obtain ⟨g', c', he', h'⟩ := h.cell (j := 1) hc rfl; simp only [Value.slice.injEq, Option.some.injEq, Addr.mk.injEq, and_true, true_and] at he'; rw [he'.1]; exact h'
  · obtain ⟨g', c', he', h'⟩ := h.cell (j := 2) hc rfl; simp only [Value.slice.injEq, Option.some.injEq, Addr.mk.injEq, and_true, true_and] at he'; rw [he'.1]; exact h'
end Go.Proofs.YtdjhfeaimmpmhaaGreat

