/- Words of memory: partitions by places, and lists of lists of them. No walk. | FnExactSubstitutionUnit is true: the program's SubstitutionUnit and the reference's return the same list, each in memory of its own. No condition. | Plain: substitution of maps, its inverse, and the map whose substitution is another one, as both reckon them. No walk. | Walk: l12To of the reference. | Walk: valueOf of the program. | Walk: substituted of the program. | Walk: convolve of the program. | Words of memory: the reference's cuts by places. No walk. -/
import Derived.Test.YtngdpoeondnchaaGreatQ24
import Derived.Test.YtngdpoeondnchaaGreatQ23
import Derived.Test.YtngdpoeondnchaaGreatRows
import Derived.Test.YtngdpoeondnchaaGreatQ1
import Derived.Test.YtngdpoeondnchaaGreatQ2
import Derived.WalkLawsBesides
import Derived.Test.YtngdpoeondnchaaGreatQ5
import Derived.Test.YtngdpoeondnchaaGreatQ25
import Derived.Test.YtngdpoeondnchaaGreatQ16
import Derived.Test.YtngdpoeondnchaaGreatQ9
import Derived.Test.YtngdpoeondnchaaGreatQ14
import Derived.Test.YtngdpoeondnchaaGreatQ22
set_option maxRecDepth 100000
set_option linter.unusedVariables false
set_option linter.unusedSimpArgs false
namespace Go.Proofs.YtngdpoeondnchaaGreat
open Go.RowKit

abbrev tMp : TypeId := 87
abbrev tMpl : TypeId := 84
/-- a list of partitions by places, one's own -/
def MPL (w : World) (B : Nat) (v : Value) (xs : List MC) : Prop := ∃ css, OwnK w B tMp 3 v css ∧ Mcs w B css xs
theorem MPL.below {w w' : World} {B : Nat} {v : Value} {xs : List MC} (h : MPL w B v xs) (hb : Below w.heap.size w w') : MPL w' B v xs := by
  obtain ⟨css, h1, h2⟩ := h
  exact ⟨css, h1.below hb, h2.below hb⟩
theorem MPL.kept {w w' : World} {B : Nat} {v : Value} {xs : List MC} {e : TypeId} {u : Value} (h : MPL w B v xs) (hg : w.grownBy w' u.ownBlock) (hb : BT w e u) (h1 : tN ≠ e) (h2 : tMp ≠ e) : MPL w' B v xs := by
  obtain ⟨css, h3, h4⟩ := h
  exact ⟨css, h3.kept hg (h3.bt.ne hb h2), h4.kept hg hb h1⟩
/-- a list of such lists: read only -/
def MPs (w : World) (B : Nat) (us : List Value) (xss : List (List MC)) : Prop := us.length = xss.length ∧ ∀ (i : Nat) (u : Value) (x : List MC), us[i]? = some u → xss[i]? = some x → MPL w B u x
section
variable {w w' : World} {B : Nat} {us : List Value} {xss : List (List MC)}
theorem MPs.nil (w : World) (B : Nat) : MPs w B [] [] := ⟨rfl, fun i c x h => by simp at h⟩
theorem MPs.below (h : MPs w B us xss) (hb : Below w.heap.size w w') : MPs w' B us xss := ⟨h.1, fun i c x hc hx => (h.2 i c x hc hx).below hb⟩
theorem MPs.kept {v : Value} {e : TypeId} (h : MPs w B us xss) (hg : w.grownBy w' v.ownBlock) (hb : BT w e v) (h1 : tN ≠ e) (h2 : tMp ≠ e) : MPs w' B us xss := ⟨h.1, fun i c x hc hx => (h.2 i c x hc hx).kept hg hb h1 h2⟩
theorem MPs.snoc {u : Value} {x : List MC} (h : MPs w B us xss) (hx : MPL w B u x) : MPs w B (us ++ [u]) (xss ++ [x]) := by
  refine ⟨by simp [h.1], fun i c' x' hc hx' => ?_⟩
  by_cases hlt : i < us.length
  · rw [List.getElem?_append_left hlt] at hc
    rw [List.getElem?_append_left (by rw [← h.1]; exact hlt)] at hx'
    exact h.2 i c' x' hc hx'
  · have hkl := (List.getElem?_eq_some_iff.1 hc).1
    simp at hkl
    have hi : i = us.length := by omega
    rw [hi] at hc
    rw [hi, h.1] at hx'
    simp at hc hx'
    subst hc hx'
    exact hx
end

/-- what mapPartitions returns -/
def Prs (w : World) (B : Nat) (v : Value) : Prop := ∃ us, Own w B tMpl v us ∧ MPs w B us (T6n.map prtI)
theorem Prs.below {w w' : World} {B : Nat} {v : Value} (h : Prs w B v) (hb : Below w.heap.size w w') : Prs w' B v := by
  obtain ⟨us, h1, h2⟩ := h
  exact ⟨us, h1.below hb, h2.below hb⟩
end Go.Proofs.YtngdpoeondnchaaGreat

set_option linter.unusedVariables false
set_option linter.unusedSimpArgs false
namespace Go.Proofs.YtngdpoeondnchaaGreat
open Go.RowKit

end Go.Proofs.YtngdpoeondnchaaGreat

set_option maxRecDepth 100000
set_option linter.unusedVariables false
set_option linter.unusedSimpArgs false
namespace Go.Proofs.YtngdpoeondnchaaGreat
open Go.RowKit

/-! ### the partitions of the trees of maps -/
structure PrA (t : List Nat) (i : Nat) (sk : List Nat) (pcs : List (List Nat)) : Prop where
  hsk : canO 9 (sklN t (2 * i)) = some sk
  hpc : mapO (fun j => canO 9 (pieN t (2 * i) j)) (0 :: cutsN (2 * i) (t.length - 1) 1) = some pcs
  prt : prtN t (2 * i) = (srtB pcs, sk)
  osk : okPl sk = true
  opc : ∀ q ∈ srtB pcs, okPl q = true
  pl : (srtB pcs).length ≤ 8
  pie : ∀ j, j < t.length → (pieN t (2 * i) j).length ≤ 8
  full : i + 1 = 2 ^ (t.length - 1) ↔ idxN T6n sk = idxN T6n t
  one : i = 0 ↔ idxN T6n sk = 1
/-! ### sums over masks -/
/-! ### substitution -/
/-! ### lists that are filled one place after the other -/
/-! ### the inverse by substitution -/
/-! ### the map whose substitution into a is another one -/
end Go.Proofs.YtngdpoeondnchaaGreat

set_option maxRecDepth 100000
set_option linter.unusedVariables false
set_option linter.unusedSimpArgs false
namespace Go.Proofs.YtngdpoeondnchaaGreat
open Go.RowKit

/-- a cell of a map -/
theorem map_cell {w : World} {A : Option Addr} {c : Nat} {a : List Int} (h : Ints w (.slice A 38 c) a) (hm : ∀ z ∈ a, 0 ≤ z ∧ z ≤ 10006) {k : Nat} (hk : k < 38) :
    ∃ ad, A = some ad ∧ w.cell? (ad.add k) = some (.int .i64 (a.getD k 0)) ∧ 0 ≤ a.getD k 0 ∧ a.getD k 0 ≤ 10006 := by
  obtain ⟨A', c', he, -, -, h3⟩ := h.open_
  simp only [Value.slice.injEq] at he
  obtain ⟨rfl, hl, rfl⟩ := he
  obtain ⟨ad, z, rfl, hz, -, hc⟩ := h3 k (by omega)
  rw [ints_getD hz]
  have := hm z (List.mem_of_getElem? hz)
  exact ⟨ad, rfl, hc, this.1, this.2⟩

end Go.Proofs.YtngdpoeondnchaaGreat

set_option maxRecDepth 100000
set_option linter.unusedVariables false
set_option linter.unusedSimpArgs false
namespace Go.Proofs.YtngdpoeondnchaaGreat
open Go.RowKit

set_option maxHeartbeats 2000000 in
theorem i_valueOf (w : World) (va vp : Value) (a : List Int) (ps : List Nat) (h1 : Ints w va a) (l1 : a.length = 38) (hN : Nums a) (h2 : Ints w vp (up ps)) (hp : ∀ p ∈ ps, p < 38) :
    Calls Tryz.prog 110 #[va, vp] w fun e w' => e = .returned (.int .i64 (valZ a ps)) ∧ w = w' := by
  obtain ⟨A, c, rfl, -, -, -⟩ := h1.open_
  rw [l1] at h1 ⊢
  have HA := Lib.hid h1
  have HN := Lib.hid hN
  have HP := Lib.hid hp
  obtain ⟨A2, c2, rfl, hc2, hc3, g2⟩ := h2.open_
  rw [up_len] at g2 hc2 ⊢
  have G2 := Lib.hid g2
  clear h1 h2 l1 hN hp g2
  go_enter Tryz.func110, Tryz.ntmps110
  go_wp2_with fail
  go_loop [5, 10] (fun x y => ∃ k : Nat, k ≤ ps.length ∧ x = .int .i64 (valZ a (ps.take k)) ∧ y = .int .i64 k) (fun _ y => ps.length - (intOf y).toNat)
  case atStart => exact ⟨0, Nat.zero_le _, rfl, rfl⟩
  case round =>
    obtain ⟨k, hk, rfl, rfl⟩ := hrel
    have hv := valZ_bd a (ps.take k)
    by_cases hlt : k < ps.length
    · obtain ⟨p, hpk⟩ : ∃ p, ps[k]? = some p := ⟨_, List.getElem?_eq_getElem hlt⟩
      have hp38 := HP.out p (List.mem_of_getElem? hpk)
      obtain ⟨a2, z, rfl, hz, -, hcz⟩ := G2.out k hlt
      have hze : z = (p : Int) := by
        unfold up at hz
        rw [List.getElem?_map, hpk] at hz
        injection hz with hz
        exact hz.symm
      subst hze
      obtain ⟨ad, rfl, hcx, hx0, hx1⟩ := map_cell HA.out HN.out hp38
      have HV := Lib.hid (show valZ a (ps.take (k + 1)) = valZ a (ps.take k) * a.getD p 0 % 10007 from by rw [List.take_add_one, hpk]; exact valZ_snoc a _ p)
      generalize a.getD p 0 = y at *
      generalize valZ a (ps.take k) = s at *
      obtain ⟨p1, p2⟩ := mul_bd 10006 10006 hv.1 hv.2 hx0 hx1
      have hkk : (k : Int) < (ps.length : Int) := by omega
      have hpp : (p : Int) < 38 := by omega
      clear hz hpk
      go_wp2_with (go_at_call 103; refine (i_num _ _ (by omega) (by omega)).mono ?_; rintro e w' ⟨rfl, rfl⟩)
      go_roundw
      case rel => exact ⟨k + 1, by omega, by rw [HV.out], by go_num⟩
      case measure => simp [intOf]; omega
    · have hkl : ps.take k = ps := List.take_of_length_le (by omega)
      rw [hkl]
      clear hkl
      go_wp2_with fail
      go_ret
      exact ⟨rfl, rfl⟩
end Go.Proofs.YtngdpoeondnchaaGreat

set_option maxRecDepth 100000
set_option linter.unusedVariables false
set_option linter.unusedSimpArgs false
namespace Go.Proofs.YtngdpoeondnchaaGreat
open Go.RowKit

/-- the list at index i of the partitions -/
theorem Prs.at_ {w : World} {B : Nat} {v : Value} (h : Prs w B v) : ∃ A c, v = .slice A 37 c ∧ ∀ i, i < 37 → ∃ ad css A2 c2, A = some ad ∧ OwnK w B tMp 3 (.slice A2 css.length c2) css ∧ Mcs w B css (prtI (tr i)) ∧ w.cell? (ad.add i) = some (.slice A2 css.length c2) := by
  obtain ⟨us, h1, h2⟩ := h
  have hl := h2.1
  rw [List.length_map, T6n_len] at hl
  obtain ⟨A, c, rfl, -, -⟩ := h1.cells.open_
  rw [hl]
  refine ⟨A, c, rfl, fun i hi => ?_⟩
  obtain ⟨u, hu⟩ : ∃ u, us[i]? = some u := ⟨_, List.getElem?_eq_getElem (by rw [hl]; exact hi)⟩
  obtain ⟨css, h3, h4⟩ := h2.2 i u (prtI (tr i)) hu (by rw [List.getElem?_map, tr_get hi]; rfl)
  obtain ⟨A2, c2, rfl, -, -⟩ := h3.open_
  obtain ⟨ad, n', c', he, hc⟩ := h1.cells.at_ hu
  simp only [Value.slice.injEq] at he
  exact ⟨ad, css, A2, c2, he.1, h3, h4, hc⟩
theorem Mcs.at_ {w : World} {B : Nat} {css : List (List Value)} {xs : List MC} {i : Nat} {x : MC} (h : Mcs w B css xs) (hx : xs[i]? = some x) : ∃ c, css[i]? = some c ∧ McD w B c x := by
  have hi := (List.getElem?_eq_some_iff.1 hx).1
  have hc : css[i]? = some (css[i]'(by rw [h.1]; exact hi)) := List.getElem?_eq_getElem _
  exact ⟨_, hc, h.2 i _ x hc hx⟩
/-- the parts of a partition or a cut in memory -/
theorem part_at {w : World} {B : Nat} {e : TypeId} {A2 : Option Addr} {c2 : Nat} {css : List (List Value)} {xs : List MC} {j : Nat} {x : MC} (h : OwnK w B e 3 (.slice A2 css.length c2) css) (hm : Mcs w B css xs) (hx : xs[j]? = some x) :
    ∃ go As cs, A2 = some ⟨go, 0, none⟩ ∧ OwnInts w B tN (.slice As x.1.1.length cs) (up x.1.1) ∧ w.cell? ⟨go, j * 3, none⟩ = some (.int .i64 (x.2 : Nat)) ∧ w.cell? ⟨go, j * 3 + 1, none⟩ = some (.slice As x.1.1.length cs) ∧ w.cell? ⟨go, j * 3 + 2, none⟩ = some (.int .i64 (x.1.2 : Nat)) := by
  obtain ⟨c, hc, s, rfl, hs⟩ := hm.at_ hx
  obtain ⟨As, cs, rfl, -, -, -⟩ := hs.ints.open_
  rw [up_len] at hs hc
  obtain ⟨go, cg, heo, hg0⟩ := h.cell (j := 0) hc rfl
  simp only [Value.slice.injEq] at heo
  obtain ⟨rfl, -, rfl⟩ := heo
  refine ⟨go, As, cs, rfl, hs, hg0, ?_, ?_⟩
  · obtain ⟨g', c', he', h'⟩ := h.cell (j := 1) hc rfl; simp only [Value.slice.injEq, Option.some.injEq, Addr.mk.injEq, and_true, true_and] at he'; rw [he'.1]; exact h'
  · obtain ⟨g', c', he', h'⟩ := h.cell (j := 2) hc rfl; simp only [Value.slice.injEq, Option.some.injEq, Addr.mk.injEq, and_true, true_and] at he'; rw [he'.1]; exact h'
end Go.Proofs.YtngdpoeondnchaaGreat

set_option maxRecDepth 100000
set_option linter.unusedVariables false
set_option linter.unusedSimpArgs false
namespace Go.Proofs.YtngdpoeondnchaaGreat
open Go.RowKit

set_option maxHeartbeats 16000000 in
theorem i_convolve (w : World) (vp va vb : Value) (Af : Option Addr) (cf Bp : Nat) (a b : List Int) (hP : FrC w Bp vp) (h1 : Ints w va a) (l1 : a.length = 38) (hN1 : Nums a) (h2 : Ints w vb b) (l2 : b.length = 38) (hN2 : Nums b) :
    Calls Tryz.prog 64 #[.agg #[.slice Af 37 cf, vp], va, vb] w fun e w' => ∃ x, e = .returned x ∧ OwnInts w' w.heap.size tI x (cvZ a b) ∧ Below w.heap.size w w' := by
  obtain ⟨AP, cP, rfl, -⟩ := hP.at_
  obtain ⟨Ab, cb, rfl, -, -, -⟩ := h1.open_
  obtain ⟨Aa, ca, rfl, -, -, -⟩ := h2.open_
  rw [l1] at h1 ⊢
  rw [l2] at h2 ⊢
  obtain ⟨ada, rfl, hc0, ha0, ha1⟩ := map_cell h2 hN2 (k := 0) (by omega)
  obtain ⟨wb, hwb⟩ : ∃ wb, wb = w.alloc (.cells #[.slice Af 37 cf, .slice AP 37 cP] tFo) := ⟨_, rfl⟩
  have hbb : Below w.heap.size w wb := by rw [hwb]; exact below1 w _
  have HBX := Lib.hid hbb
  have HF := Lib.hid (show Blk wb w.heap.size tFo #[.slice Af 37 cf, .slice AP 37 cP] from by rw [hwb]; exact Blk.new _ _ _)
  have HP := Lib.hid (hP.below hbb)
  have HB1 := Lib.hid (h1.below hbb)
  have HA1 := Lib.hid (h2.below hbb)
  have HNB := Lib.hid hN1
  have HNA := Lib.hid hN2
  have HLB := Lib.hid l1
  have HSZ := Lib.hid (cvZ_len a b)
  obtain ⟨y0, hy0⟩ : ∃ y0, y0 = b.getD 0 0 := ⟨_, rfl⟩
  rw [← hy0] at hc0
  have HS0 := Lib.hid (show ints ((cvZ a b).take 1) = [.int .i64 y0] from by rw [hy0]; rfl)
  have OL := Lib.hid (show Own (wb.alloc (.cells #[.int .i64 y0] tI)) wb.heap.size tI (.slice (some ⟨wb.heap.size, 0, none⟩) 1 1) (ints ((cvZ a b).take 1)) from by rw [HS0.out]; exact own_lit wb tI [.int .i64 y0] (by simp [maxLen]))
  have hc0' : wb.cell? ada = some (.int .i64 y0) := keepCell hbb (by simpa [Addr.add] using hc0)
  have hf0 : wb.cell? ⟨w.heap.size, 0, none⟩ = some (.slice Af 37 cf) := HF.out.cell 0
  have hf1 : wb.cell? ⟨w.heap.size, 1, none⟩ = some (.slice AP 37 cP) := HF.out.cell 1
  have hf1a : ∀ o, (wb.alloc o).cell? ⟨w.heap.size, 1, none⟩ = some (.slice AP 37 cP) := fun o => (HF.out.alloc o).cell 1
  clear hy0 ha0 ha1
  clear hP h1 h2 l1 l2 hN1 hN2 hc0 hbb
  go_enter Tryz.func64, Tryz.ntmps64
  go_upto_region 1 with fail
  rw [← hwb]
  clear hwb
  go_wp2_with fail
  clear hf0 hf1 hf1a hc0'
  go_loopw [7, 20] (fun o x wr => ∃ i : Nat, i ≤ 37 ∧ x = .int .i64 i ∧ Own wr wb.heap.size tI o (ints ((cvZ a b).take (i + 1))) ∧ Below wb.heap.size wb wr) (fun _ x _ => 37 - (intOf x).toNat)
  case atStart => exact ⟨0, Nat.zero_le _, rfl, OL.out, below1 wb _⟩
  case round =>
    obtain ⟨i, hi, rfl, ho, hb⟩ := hrel
    rename World => wq
    clear OL
    have hel : ((cvZ a b).take (i + 1)).length = i + 1 := by rw [List.length_take, HSZ.out]; omega
    have hol := ho.cells.open_
    rw [ints_len, hel] at hol
    obtain ⟨Ao, co, rfl, -, -⟩ := hol
    have HEL := Lib.hid hel
    have HO := Lib.hid ho
    have HBQ := Lib.hid hb
    obtain ⟨AP', cP', he, hat⟩ := (HP.out.below hb).at_
    simp only [Value.slice.injEq, true_and] at he
    obtain ⟨rfl, rfl⟩ := he
    clear ho hel
    by_cases hlt : i < 37
    · obtain ⟨adp, css, A2, c2, rfl, ho2, hm2, hcp⟩ := hat i hlt
      have htm := tr_mem hlt
      have hpl := CTab_ln hlt
      obtain ⟨L, hL⟩ : ∃ L, L = CTab.getD i [] := ⟨_, rfl⟩
      rw [← hL] at hm2 hpl
      have HLE := Lib.hid hL
      have HPL := Lib.hid hpl
      have hcl := hm2.1
      have HCL := Lib.hid hcl
      have hc5 : css.length ≤ 100 := by rw [hcl]; exact hpl
      have HO2 := Lib.hid ho2
      have HM2 := Lib.hid hm2
      have HTS := Lib.hid (show ints ((cvZ a b).take (i + 1 + 1)) = ints ((cvZ a b).take (i + 1)) ++ [.int .i64 (sumF (tcI a b) L % 10007)] from by
        have h1 : (cvZ a b)[i + 1]? = some (sumF (tcI a b) L % 10007) := by rw [hL]; exact cvZ_get a b hlt
        rw [List.take_add_one, h1, ints, ints, List.map_append]; rfl)
      have hii : (i : Int) < 37 := by omega
      clear hat hb htm hpl hL hcl ho2 hm2
      go_wp2_with fail
      go_loopw [10, 26] (fun s x wr => ∃ j : Nat, j ≤ css.length ∧ x = .int .i64 j ∧ s = .int .i64 (sumF (tcI a b) (L.take j)) ∧ Below wq.heap.size wq wr) (fun _ x _ => css.length - (intOf x).toNat)
      case atStart => exact ⟨0, Nat.zero_le _, rfl, rfl, Below.refl _ _⟩
      case round =>
        obtain ⟨j, hj, rfl, rfl, hb⟩ := hrel
        rename World => wc
        have HBC := Lib.hid hb
        have hsb : 0 ≤ sumF (tcI a b) (L.take j) ∧ sumF (tcI a b) (L.take j) ≤ 100 * 10006 := by
          have h := sumF_bd (tcI a b) 10006 (L.take j) fun x _ => tcI_bd a b x
          have h2 : (L.take j).length ≤ 100 := Nat.le_trans (List.length_take_le _ _) (by omega)
          have h3 := HPL.out
          rw [List.length_take] at h
          omega
        by_cases hlj : j < css.length
        · obtain ⟨⟨⟨cr, sk⟩, n⟩, hx⟩ : ∃ x, L[j]? = some x := ⟨_, List.getElem?_eq_getElem (by rw [← HCL.out]; exact hlj)⟩
          have hxm := List.mem_of_getElem? hx
          obtain ⟨hcr, hsk, hn⟩ := CTab_at hlt (x := ((cr, sk), n)) (by rw [← HLE.out]; exact hxm)
          have hn : n ≤ 100 := hn
          have hcr : ∀ p ∈ cr, p < 38 := hcr
          have hsk : sk < 38 := hsk
          obtain ⟨go, As, cs, rfl, hs1, hq0, hq1, hq2⟩ := part_at (HO2.out.below hb) (HM2.out.below hb) hx
          have hs1 : OwnInts wc Bp tN (.slice As cr.length cs) (up cr) := hs1
          have hq0 : wc.cell? ⟨go, j * 3, none⟩ = some (.int .i64 n) := hq0
          have hq1 : wc.cell? ⟨go, j * 3 + 1, none⟩ = some (.slice As cr.length cs) := hq1
          have hq2 : wc.cell? ⟨go, j * 3 + 2, none⟩ = some (.int .i64 sk) := hq2
          have HTJ := Lib.hid (show sumF (tcI a b) (L.take (j + 1)) = sumF (tcI a b) (L.take j) + (n : Int) * (valZ a cr * b.getD sk 0 % 10007) % 10007 from by rw [sumF_take _ hx]; rfl)
          have HCR := Lib.hid hcr
          generalize sumF (tcI a b) (L.take j) = sm at *
          obtain ⟨_, he, hcx, hx0, hx1⟩ := map_cell ((HA1.out.below HBQ.out).below hb) HNA.out (k := sk) hsk
          simp only [Option.some.injEq] at he
          subst he
          have hvb := valZ_bd a cr
          have HVB := Lib.hid (show valZ a cr = valZ a cr from rfl)
          obtain ⟨V, hV⟩ : ∃ V, V = valZ a cr := ⟨_, rfl⟩
          rw [← hV] at hvb HTJ
          have HVE := Lib.hid hV
          generalize b.getD sk 0 = y at *
          obtain ⟨p1, p2⟩ := mul_bd 10006 10006 hvb.1 hvb.2 hx0 hx1
          have hmd : 0 ≤ V * y % 10007 ∧ V * y % 10007 ≤ 10006 := by omega
          obtain ⟨q1, q2⟩ := mul_bd 100 10006 (show (0 : Int) ≤ (n : Int) by omega) (show (n : Int) ≤ 100 by omega) hmd.1 hmd.2
          have hjj : (j : Int) < (css.length : Int) := by omega
          have hskk : (sk : Int) < 38 := by omega
          clear hxm hcr hx hV hb
          go_upto_region 9 with fail
          obtain ⟨W, hW⟩ : ∃ W, W = wc.alloc (.cells #[.int .i64 n, .slice As cr.length cs, .int .i64 sk] tMc) := ⟨_, rfl⟩
          have hbw : Below wc.heap.size wc W := by rw [hW]; exact below1 wc _
          have HBW := Lib.hid hbw
          have HKP := Lib.hid (show Blk W wc.heap.size tMc #[.int .i64 n, .slice As cr.length cs, .int .i64 sk] from by rw [hW]; exact Blk.new _ _ _)
          have HSW := Lib.hid (hs1.below hbw).ints
          have HBB := Lib.hid ((HB1.out.below HBQ.out).below (HBC.out.trans (hbw.mono HBC.out.size)))
          rw [← hW]
          clear hW hs1 hbw
          obtain ⟨S, hS1, hS2⟩ : ∃ S : World → Prop, (∀ Wx, S Wx → Below W.heap.size W Wx) ∧ (∀ Wx, Below W.heap.size W Wx → S Wx) := ⟨fun Wx => Below W.heap.size W Wx, fun _ h => h, fun _ h => h⟩
          have HSE := Lib.hid (show ∀ x : GW S, Below W.heap.size W x.w from fun x => hS1 _ x.h)
          have HSI := Lib.hid (show S W.drew from hS2 _ (Below.refl W.heap.size W).drew)
          have hx0' : ∀ x : GW S, x.w.cell? ⟨wc.heap.size, 0, none⟩ = some (.int .i64 n) := fun x => keepCell (HSE.out x) (HKP.out.cell 0)
          have hx1' : ∀ x : GW S, x.w.cell? ⟨wc.heap.size, 1, none⟩ = some (.slice As cr.length cs) := fun x => keepCell (HSE.out x) (HKP.out.cell 1)
          have hx2' : ∀ x : GW S, x.w.cell? ⟨wc.heap.size, 2, none⟩ = some (.int .i64 sk) := fun x => keepCell (HSE.out x) (HKP.out.cell 2)
          have hx3' : ∀ x : GW S, x.w.cell? (ada.add sk) = some (.int .i64 y) := fun x => keepCell ((HBW.out.trans ((HSE.out x).mono HBW.out.size))) hcx
          have HVL := Lib.hid (show ∀ x : GW S, Calls Tryz.prog 110 #[.slice Ab 38 cb, .slice As cr.length cs] x.w (fun e w' => e = .returned (.int .i64 V) ∧ S w') from fun x => (i_valueOf x.w _ _ a cr (HBB.out.below (HSE.out x)) HLB.out HNB.out (HSW.out.below (HSE.out x)) HCR.out).mono (by rintro e w7 ⟨rfl, rfl⟩; exact ⟨by rw [HVE.out], hS2 _ (HSE.out x)⟩))
          have HN1 := Lib.hid (show ∀ x : GW S, Calls Tryz.prog 103 #[.int .i64 (V * y)] x.w (fun e w' => e = .returned (.int .i64 (V * y % 10007)) ∧ S w') from fun x => (i_num (V * y) x.w (by omega) (by omega)).mono (by rintro e w7 ⟨rfl, rfl⟩; exact ⟨rfl, hS2 _ (HSE.out x)⟩))
          have hws1 : IntKind.i64.wrap (V * y) = V * y := IntWalk.i64_in _ (by omega)
          generalize V * y % 10007 = q at *
          have HN2 := Lib.hid (show ∀ x : GW S, Calls Tryz.prog 103 #[.int .i64 ((n : Int) * q)] x.w (fun e w' => e = .returned (.int .i64 ((n : Int) * q % 10007)) ∧ S w') from fun x => (i_num ((n : Int) * q) x.w (by omega) (by omega)).mono (by rintro e w7 ⟨rfl, rfl⟩; exact ⟨rfl, hS2 _ (HSE.out x)⟩))
          have hws2 : IntKind.i64.wrap ((n : Int) * q) = (n : Int) * q := IntWalk.i64_in _ (by omega)
          have hq3 : 0 ≤ (n : Int) * q % 10007 ∧ (n : Int) * q % 10007 ≤ 10006 := by omega
          clear hS1 hS2 hq0 hq1 hq2 hcx
          refine wp_region_grow S (by kernel_rfl) (by kernel_rfl) HSI.out (fun hne => ?_)
          repeat (go_big_quiet_step ((first
            | (go_at_call 110; exact grow_call (HVL.out _))
            | (go_at_call_of 103 V; exact grow_call (HN1.out _))
            | (go_at_call 103; exact grow_call (HN2.out _)))))
          refine wpQuiet_nil ?_
          rintro _ ⟨xq, rfl⟩
          clear hx0' hx1' hx2' hx3'
          go_wp2_with fail
          go_roundw
          case rel => exact ⟨j + 1, by omega, by go_num, by rw [HTJ.out], HBC.out.trans ((HBW.out.trans ((HSE.out xq).mono HBW.out.size)).mono HBC.out.size)⟩
          case measure => simp [intOf]; omega
        · have hjl : L.take j = L := List.take_of_length_le (by rw [← HCL.out]; omega)
          rw [hjl] at hsb ⊢
          have HOX := Lib.hid (HO.out.below HBC.out)
          clear hjl hb
          generalize sumF (tcI a b) L = sm at *
          go_wp2_with (first
            | (go_at_call 103; refine (i_num sm _ (by omega) (by omega)).mono ?_; rintro e w' ⟨rfl, rfl⟩)
            | (at_builtin; go_loud (refine wpList_app1 T_int HOX.out (by rw [ints_len, HEL.out]; omega) (Nat.le_trans HBQ.out.size HBC.out.size) (by rfl) rfl (by rfl) (by rfl) (by rfl) ?_; intro v1 w6 hown1 hgr1; have HN := Lib.hid hown1; have HGR := Lib.hid hgr1; clear hown1 hgr1)))
          go_roundw
          case rel =>
            refine ⟨i + 1, by omega, by go_num, ?_, HGR.out.below (HBQ.out.trans (HBC.out.mono HBQ.out.size)) (Nat.le_trans HBQ.out.size HBC.out.size) HO.out.ge⟩
            rw [HTS.out]; exact HN.out
          case measure => simp [intOf]; omega
    · have hil : i + 1 = (cvZ a b).length := by rw [HSZ.out]; omega
      have HFF := Lib.hid (show (cvZ a b).take (i + 1) = cvZ a b from by rw [hil]; exact List.take_length)
      clear hil
      go_wp2_with fail
      go_ret
      refine ⟨_, rfl, ⟨?_, fun z hz => in64_num (cvZ_nums HNA.out z hz)⟩, HBX.out.trans (HBQ.out.mono HBX.out.size)⟩
      have h := HO.out
      rw [HFF.out] at h
      exact h.mono HBX.out.size
end Go.Proofs.YtngdpoeondnchaaGreat

set_option maxRecDepth 100000
set_option linter.unusedVariables false
set_option linter.unusedSimpArgs false
namespace Go.Proofs.YtngdpoeondnchaaGreat
open Go.RowKit

abbrev t7 : TypeId := 106
abbrev t7l : TypeId := 103
theorem T_7 : ElemK Tryz.prog 103 106 (.agg #[.int .i64 0, .slice none 0 0, .int .i64 0]) 3 40 := ⟨Tryz.underlying103, by kernel_rfl, rfl, by omega, by omega⟩
theorem T_7l : ElemT Tryz.prog 60 103 (.slice none 0 0) 24 := ⟨Tryz.underlying60, by kernel_rfl, rfl, by omega⟩
def M7D (w : World) (B : Nat) (c : List Value) (x : MC) : Prop := ∃ s, c = [.int .i64 (x.2 : Nat), s, .int .i64 (x.1.2 : Nat)] ∧ OwnInts w B tI s (up x.1.1)
def M7s (w : World) (B : Nat) (css : List (List Value)) (xs : List MC) : Prop := css.length = xs.length ∧ ∀ (i : Nat) (c : List Value) (x : MC), css[i]? = some c → xs[i]? = some x → M7D w B c x
theorem M7D.below {w w' : World} {B : Nat} {c : List Value} {x : MC} (h : M7D w B c x) (hb : Below w.heap.size w w') : M7D w' B c x := by
  obtain ⟨s, rfl, h⟩ := h
  exact ⟨s, rfl, h.below hb⟩
theorem M7D.mono {w : World} {B B' : Nat} {c : List Value} {x : MC} (h : M7D w B c x) (hB : B' ≤ B) : M7D w B' c x := by
  obtain ⟨s, rfl, h⟩ := h
  exact ⟨s, rfl, h.mono hB⟩
theorem M7D.kept {w w' : World} {B : Nat} {c : List Value} {x : MC} {e : TypeId} {v : Value} (h : M7D w B c x) (hg : w.grownBy w' v.ownBlock) (hb : BT w e v) (hne : tI ≠ e) : M7D w' B c x := by
  obtain ⟨s, rfl, h⟩ := h
  exact ⟨s, rfl, h.kept hg (h.1.bt.ne hb hne)⟩
section
variable {w w' : World} {B : Nat} {css : List (List Value)} {xs : List MC}
theorem M7s.nil (w : World) (B : Nat) : M7s w B [] [] := ⟨rfl, fun i c x h => by simp at h⟩
theorem M7s.below (h : M7s w B css xs) (hb : Below w.heap.size w w') : M7s w' B css xs := ⟨h.1, fun i c x hc hx => (h.2 i c x hc hx).below hb⟩
theorem M7s.mono {B' : Nat} (h : M7s w B css xs) (hB : B' ≤ B) : M7s w B' css xs := ⟨h.1, fun i c x hc hx => (h.2 i c x hc hx).mono hB⟩
theorem M7s.kept {v : Value} {e : TypeId} (h : M7s w B css xs) (hg : w.grownBy w' v.ownBlock) (hb : BT w e v) (hne : tI ≠ e) : M7s w' B css xs := ⟨h.1, fun i c x hc hx => (h.2 i c x hc hx).kept hg hb hne⟩
theorem M7s.snoc {c : List Value} {x : MC} (h : M7s w B css xs) (hx : M7D w B c x) : M7s w B (css ++ [c]) (xs ++ [x]) := by
  refine ⟨by simp [h.1], fun i c' x' hc hx' => ?_⟩
  by_cases hlt : i < css.length
  · rw [List.getElem?_append_left hlt] at hc
    rw [List.getElem?_append_left (by rw [← h.1]; exact hlt)] at hx'
    exact h.2 i c' x' hc hx'
  · have hkl := (List.getElem?_eq_some_iff.1 hc).1
    simp at hkl
    have hi : i = css.length := by omega
    rw [hi] at hc
    rw [hi, h.1] at hx'
    simp at hc hx'
    subst hc hx'
    exact hx
end
/-- a list of cuts by places, one's own -/
def M7L (w : World) (B : Nat) (v : Value) (xs : List MC) : Prop := ∃ css, OwnK w B t7 3 v css ∧ M7s w B css xs
theorem M7L.below {w w' : World} {B : Nat} {v : Value} {xs : List MC} (h : M7L w B v xs) (hb : Below w.heap.size w w') : M7L w' B v xs := by
  obtain ⟨css, h1, h2⟩ := h
  exact ⟨css, h1.below hb, h2.below hb⟩
theorem M7L.kept {w w' : World} {B : Nat} {v : Value} {xs : List MC} {e : TypeId} {u : Value} (h : M7L w B v xs) (hg : w.grownBy w' u.ownBlock) (hb : BT w e u) (h1 : tI ≠ e) (h2 : t7 ≠ e) : M7L w' B v xs := by
  obtain ⟨css, h3, h4⟩ := h
  exact ⟨css, h3.kept hg (h3.bt.ne hb h2), h4.kept hg hb h1⟩
/-- a list of such lists: read only -/
def M7T (w : World) (B : Nat) (us : List Value) (xss : List (List MC)) : Prop := us.length = xss.length ∧ ∀ (i : Nat) (u : Value) (x : List MC), us[i]? = some u → xss[i]? = some x → M7L w B u x
section
variable {w w' : World} {B : Nat} {us : List Value} {xss : List (List MC)}
theorem M7T.nil (w : World) (B : Nat) : M7T w B [] [] := ⟨rfl, fun i c x h => by simp at h⟩
theorem M7T.below (h : M7T w B us xss) (hb : Below w.heap.size w w') : M7T w' B us xss := ⟨h.1, fun i c x hc hx => (h.2 i c x hc hx).below hb⟩
theorem M7T.kept {v : Value} {e : TypeId} (h : M7T w B us xss) (hg : w.grownBy w' v.ownBlock) (hb : BT w e v) (h1 : tI ≠ e) (h2 : t7 ≠ e) : M7T w' B us xss := ⟨h.1, fun i c x hc hx => (h.2 i c x hc hx).kept hg hb h1 h2⟩
theorem M7T.snoc {u : Value} {x : List MC} (h : M7T w B us xss) (hx : M7L w B u x) : M7T w B (us ++ [u]) (xss ++ [x]) := by
  refine ⟨by simp [h.1], fun i c' x' hc hx' => ?_⟩
  by_cases hlt : i < us.length
  · rw [List.getElem?_append_left hlt] at hc
    rw [List.getElem?_append_left (by rw [← h.1]; exact hlt)] at hx'
    exact h.2 i c' x' hc hx'
  · have hkl := (List.getElem?_eq_some_iff.1 hc).1
    simp at hkl
    have hi : i = us.length := by omega
    rw [hi] at hc
    rw [hi, h.1] at hx'
    simp at hc hx'
    subst hc hx'
    exact hx
end
theorem M7s.at_ {w : World} {B : Nat} {css : List (List Value)} {xs : List MC} {i : Nat} {x : MC} (h : M7s w B css xs) (hx : xs[i]? = some x) : ∃ c, css[i]? = some c ∧ M7D w B c x := by
  have hi := (List.getElem?_eq_some_iff.1 hx).1
  have hc : css[i]? = some (css[i]'(by rw [h.1]; exact hi)) := List.getElem?_eq_getElem _
  exact ⟨_, hc, h.2 i _ x hc hx⟩
/-- the parts of a partition or a cut in memory -/
theorem part7_at {w : World} {B : Nat} {e : TypeId} {A2 : Option Addr} {c2 : Nat} {css : List (List Value)} {xs : List MC} {j : Nat} {x : MC} (h : OwnK w B e 3 (.slice A2 css.length c2) css) (hm : M7s w B css xs) (hx : xs[j]? = some x) :
    ∃ go As cs, A2 = some ⟨go, 0, none⟩ ∧ OwnInts w B tI (.slice As x.1.1.length cs) (up x.1.1) ∧ w.cell? ⟨go, j * 3, none⟩ = some (.int .i64 (x.2 : Nat)) ∧ w.cell? ⟨go, j * 3 + 1, none⟩ = some (.slice As x.1.1.length cs) ∧ w.cell? ⟨go, j * 3 + 2, none⟩ = some (.int .i64 (x.1.2 : Nat)) := by
  obtain ⟨c, hc, s, rfl, hs⟩ := hm.at_ hx
  obtain ⟨As, cs, rfl, -, -, -⟩ := hs.ints.open_
  rw [up_len] at hs hc
  obtain ⟨go, cg, heo, hg0⟩ := h.cell (j := 0) hc rfl
  simp only [Value.slice.injEq] at heo
  obtain ⟨rfl, -, rfl⟩ := heo
  refine ⟨go, As, cs, rfl, hs, hg0, ?_, ?_⟩
  · obtain ⟨g', c', he', h'⟩ := h.cell (j := 1) hc rfl; simp only [Value.slice.injEq, Option.some.injEq, Addr.mk.injEq, and_true, true_and] at he'; rw [he'.1]; exact h'
  · obtain ⟨g', c', he', h'⟩ := h.cell (j := 2) hc rfl; simp only [Value.slice.injEq, Option.some.injEq, Addr.mk.injEq, and_true, true_and] at he'; rw [he'.1]; exact h'
/-- what l07Cuts returns -/
def C7 (w : World) (B : Nat) (v : Value) : Prop := ∃ us, Own w B t7l v us ∧ M7T w B us ([] :: CTab)
theorem CTab_len : CTab.length = 37 := rfl
theorem C7.below {w w' : World} {B : Nat} {v : Value} (h : C7 w B v) (hb : Below w.heap.size w w') : C7 w' B v := by
  obtain ⟨us, h1, h2⟩ := h
  exact ⟨us, h1.below hb, h2.below hb⟩
/-- the list at place p -/
theorem C7.at_ {w : World} {B : Nat} {v : Value} (h : C7 w B v) : ∃ A c, v = .slice A 38 c ∧ ∀ i, i < 37 → ∃ ad css A2 c2, A = some ad ∧ OwnK w B t7 3 (.slice A2 css.length c2) css ∧ M7s w B css (CTab.getD i []) ∧ w.cell? (ad.add (i + 1)) = some (.slice A2 css.length c2) := by
  obtain ⟨us, h1, h2⟩ := h
  have hl : us.length = 38 := h2.1
  obtain ⟨A, c, rfl, -, -⟩ := h1.cells.open_
  rw [hl]
  refine ⟨A, c, rfl, fun i hi => ?_⟩
  obtain ⟨u, hu⟩ : ∃ u, us[i + 1]? = some u := ⟨_, List.getElem?_eq_getElem (by rw [hl]; omega)⟩
  have hc : ([] :: CTab)[i + 1]? = some (CTab.getD i []) := by
    rw [List.getElem?_cons_succ, List.getD_eq_getElem?_getD, List.getElem?_eq_getElem (by rw [CTab_len]; exact hi)]
    rfl
  obtain ⟨css, h3, h4⟩ := h2.2 (i + 1) u (CTab.getD i []) hu hc
  obtain ⟨A2, c2, rfl, -, -⟩ := h3.open_
  obtain ⟨ad, n', c', he, hcc⟩ := h1.cells.at_ hu
  simp only [Value.slice.injEq] at he
  exact ⟨ad, css, A2, c2, he.1, h3, h4, hcc⟩
end Go.Proofs.YtngdpoeondnchaaGreat

