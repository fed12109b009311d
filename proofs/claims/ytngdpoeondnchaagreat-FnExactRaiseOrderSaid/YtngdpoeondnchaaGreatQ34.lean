/- Walk: grafted of the program, for one tree at the root. | Walks: agreement of maps, of the program and of the reference; maps cut down. | Walks: productsTo of the program; SymplecticTo, HamiltonianTo. | Walks: symplecticTo, hamiltonianTo; SymplecticTo, HamiltonianTo of the program and of the reference. (printed by vgen.py) | Walk: l04Cut of the reference. | Walk: l04Turn of the reference: the recursion. | Walk: l04Double of the reference. | Walk: l04Put of the reference. | Walk: l04Roots of the reference. | Walk: l12Free of the reference. | Walks: allConditions of the program; l12All of the reference. (printed by allgen.py) | Plain: the free conditions by places; reduced order. No walk. | Walks: ReducedOrder, FreeNumbersOf of the program. | Walks: l16Piece, l16Pieces of the reference. | Walk: l16Pieces of the reference. | DROP Walk: the reference's substitution. | DROP Walk: mapPartitions of the program. | Walks: plus of the program, l02Add of the reference. | Walks: FirstError of the program and of the reference. | Walks: the codes of two maps the first of which has to be infinitesimal, of the program and of the reference; SubstituteMap of both. | A region that draws its order: first operations that yield one value each in every world of a class S, in whatever order; then a tail in one order, which may write. No program in sight. | Walk: substitutionInverse of the program. (printed by ivgen.py) | Walk: intoMap of the program. (printed by ivgen.py) | Walk: the reference's inverse by substitution. | Walk: l17Fit of the reference: the map whose substitution is another one, by numbers of nodes. | Walks: SubstitutionInverse, modifiedMap, ModifiedMap, ModifyingMap, ErrorMap of the program and of the reference. | Walks: modifiedMap, ModifiedMap, ModifyingMap of the program and of the reference. | Walks: CommuteTo of the program and of the reference. -/
import Derived.Test.YtngdpoeondnchaaGreatQ24
import Derived.Test.YtngdpoeondnchaaGreatQ10
import Derived.Test.YtngdpoeondnchaaGreatQ11
import Derived.Test.YtngdpoeondnchaaGreatQ9
import Derived.Test.YtngdpoeondnchaaGreatQ14
import Derived.Test.YtngdpoeondnchaaGreatQ25
import Derived.Test.YtngdpoeondnchaaGreatQ26
import Derived.Test.YtngdpoeondnchaaGreatQ23
import Derived.Test.YtngdpoeondnchaaGreatQ20
import Derived.Deep.CutRange
import Derived.Deep.CutBlock
import Derived.Deep.DeepCutAuto
import Derived.Test.YtngdpoeondnchaaGreatQ16
import Derived.Test.YtngdpoeondnchaaGreatQ21
import Derived.Test.YtngdpoeondnchaaGreatQ15
import Derived.Test.YtngdpoeondnchaaGreatQ5
import Derived.StillTail
import Derived.Test.YtngdpoeondnchaaGreatQ27
import Derived.Test.YtngdpoeondnchaaGreatQ33
set_option maxRecDepth 100000
set_option linter.unusedVariables false
set_option linter.unusedSimpArgs false
namespace Go.Proofs.YtngdpoeondnchaaGreat
open Go.RowKit

/-- rows of neighbours, apart or not: each a list of numbers in a block from B on -/
def RN (w : World) (B : Nat) (vs : List Value) (nss : List (List Nat)) : Prop :=
  vs.length = nss.length ∧ ∀ (k : Nat) (u : Value) (ns : List Nat), vs[k]? = some u → nss[k]? = some ns → OwnInts w B tN u (up ns)
section
variable {w w' : World} {B : Nat} {vs : List Value} {nss : List (List Nat)}
theorem RN.below (h : RN w B vs nss) (hb : Below w.heap.size w w') : RN w' B vs nss := ⟨h.1, fun k u zs hu hz => (h.2 k u zs hu hz).below hb⟩
theorem RN.mono {B' : Nat} (h : RN w B vs nss) (hB : B' ≤ B) : RN w B' vs nss := ⟨h.1, fun k u zs hu hz => (h.2 k u zs hu hz).mono hB⟩
theorem RN.snoc {u : Value} {ns : List Nat} (h : RN w B vs nss) (hu : OwnInts w B tN u (up ns)) : RN w B (vs ++ [u]) (nss ++ [ns]) := by
  refine ⟨by simp [h.1], fun k u' zs' hk hz => ?_⟩
  by_cases hlt : k < vs.length
  · rw [List.getElem?_append_left hlt] at hk
    rw [List.getElem?_append_left (by rw [← h.1]; exact hlt)] at hz
    exact h.2 k u' zs' hk hz
  · have hkl := (List.getElem?_eq_some_iff.1 hk).1
    simp at hkl
    have : k = vs.length := by omega
    subst this
    rw [List.getElem?_append_right (Nat.le_refl _)] at hk
    rw [List.getElem?_append_right (by rw [h.1]; exact Nat.le_refl _), h.1] at hz
    simp at hk hz
    subst hk; subst hz
    exact hu
theorem RN.set {k : Nat} {u : Value} {ns : List Nat} (h : RN w B vs nss) (hu : OwnInts w B tN u (up ns)) : RN w B (vs.set k u) (nss.set k ns) := by
  refine ⟨by simp [h.1], fun j u' zs' hj hz => ?_⟩
  rw [List.getElem?_set] at hj hz
  by_cases hjk : k = j
  · subst hjk
    rw [if_pos rfl] at hj hz
    split at hj
    · rw [if_pos (by rw [← h.1]; assumption)] at hz
      injection hj with hj; injection hz with hz
      subst hj; subst hz
      exact hu
    · cases hj
  · rw [if_neg hjk] at hj hz
    exact h.2 j u' zs' hj hz
theorem RN.kept {v : Value} {e : TypeId} (h : RN w B vs nss) (hg : w.grownBy w' v.ownBlock) (hb : BT w e v) (hne : tN ≠ e) : RN w' B vs nss :=
  ⟨h.1, fun k u zs hu hz => (h.2 k u zs hu hz).kept hg ((h.2 k u zs hu hz).1.bt.ne hb hne)⟩
theorem RN.rows {v : Value} {B' : Nat} (h : RN w B vs nss) (ho : Own w B' tNL v vs) : Rows w v (nss.map up) :=
  ⟨vs, ho.cells, by rw [List.length_map]; exact h.1, fun k u zs hu hz => by
    rw [List.getElem?_map] at hz
    cases hn : nss[k]? with
    | none => rw [hn] at hz; cases hz
    | some ns => rw [hn] at hz; injection hz with hz; subst hz; exact (h.2 k u ns hu hn).ints⟩
theorem RN.at_ {k : Nat} {ns : List Nat} (h : RN w B vs nss) (hz : nss[k]? = some ns) : ∃ A c, vs[k]? = some (.slice A ns.length c) ∧ OwnInts w B tN (.slice A ns.length c) (up ns) := by
  have hk : k < vs.length := by rw [h.1]; exact (List.getElem?_eq_some_iff.1 hz).1
  have hu : vs[k]? = some (vs[k]'hk) := List.getElem?_eq_getElem _
  have ho := h.2 k _ ns hu hz
  obtain ⟨A, c, he, -, -, -⟩ := ho.ints.open_
  rw [up_len] at he
  exact ⟨A, c, by rw [hu, he], by rw [← he]; exact ho⟩
end
end Go.Proofs.YtngdpoeondnchaaGreat

set_option maxRecDepth 100000
set_option linter.unusedVariables false
set_option linter.unusedSimpArgs false
namespace Go.Proofs.YtngdpoeondnchaaGreat
open Go.RowKit

theorem neq_false {x y : Int} (h : x = y) : (x != y) = false := by simp [h]
theorem neq_true {x y : Int} (h : ¬ x = y) : (x != y) = true := by simp [h]

set_option maxHeartbeats 4000000 in
theorem i_agreeTo (w : World) (v va vb : Value) (B : Option Addr) (m d : Nat) (a b : List Int) (ha : Rows w v (T6n.map up)) (h1 : Ints w va a) (h2 : Ints w vb b) (l1 : a.length = 38) (l2 : b.length = 38) :
    Calls Tryz.prog 63 #[.agg #[v, .slice B m d], va, vb] w fun e w' => e = .returned (.int .i64 (agZ a b)) ∧ Below w.heap.size w w' := by
  obtain ⟨A, c, he, -, -, -⟩ := ha.open_
  rw [List.length_map, T6n_len] at he
  subst he
  have hbel : Below w.heap.size w (w.alloc (.cells #[.slice A 37 c, .slice B m d] 57)) := below1 w _
  have HRA := Lib.hid (ha.below hbel)
  obtain ⟨A1, c1, rfl, -, -, g1⟩ := (h1.below hbel).open_
  obtain ⟨A2, c2, rfl, -, -, g2⟩ := (h2.below hbel).open_
  rw [l1] at g1 ⊢
  rw [l2] at g2 ⊢
  have G1 := Lib.hid g1
  have G2 := Lib.hid g2
  have HBX := Lib.hid (Blk.new w #[.slice A 37 c, .slice B m d] 57)
  have HBE := Lib.hid hbel
  clear ha hbel h1 h2 l1 l2 g1 g2
  go_enter Tryz.func63, Tryz.ntmps63
  go_wp2_with fail
  generalize hwq : (w.alloc (.cells #[.slice A 37 c, .slice B m d] 57)) = wq at HRA G1 G2 HBX HBE ⊢
  clear hwq
  go_loopw [10] (fun x wr => ∃ k n : Nat, k ≤ 38 ∧ x = .int .i64 k ∧ Hid (∀ i, i < k → a.getD i 0 = b.getD i 0) ∧ wr = wq.drewN n) (fun x _ => 38 - (intOf x).toNat)
  case atStart => exact ⟨0, 0, Nat.zero_le _, rfl, fun i hi => by omega, rfl⟩
  case round =>
    obtain ⟨k, n, hk, rfl, hI, rfl⟩ := hrel
    by_cases hlt : k < 38
    · obtain ⟨a1, x, rfl, hx, -, hcx⟩ := G1.out k hlt
      obtain ⟨a2, y, rfl, hy, -, hcy⟩ := G2.out k hlt
      have hgx := ints_getD hx
      have hgy := ints_getD hy
      have hkk : (k : Int) < 38 := by omega
      by_cases hxy : x = y
      · have hne := neq_false hxy
        have HI2 := Lib.hid (show ∀ i, i < k + 1 → a.getD i 0 = b.getD i 0 from fun i hi => by
          by_cases e : i = k
          · subst e; rw [hgx, hgy]; exact hxy
          · exact hI i (by omega))
        clear hI hx hy hgx hgy hxy
        go_upto_region 4 with fail
        go_quiet (fail)
        go_wp2_with fail
        go_roundw
        case rel => exact ⟨k + 1, _, by omega, by go_num, HI2.out, by first | rfl | exact World.drewN_drewN ..⟩
        case measure => simp [intOf]; omega
      · have hne := neq_true hxy
        have HZ := Lib.hid (agZ_hit hI hlt (by rw [hgx, hgy]; exact hxy))
        have hs := szN_le k
        clear hI hx hy hgx hgy hxy
        go_upto_region 4 with fail
        go_quiet (fail)
        have hf0 : wq.cell? ⟨w.heap.size, 0, none⟩ = some (.slice A 37 c) := HBX.out.cell 0
        have hf1 : wq.cell? ⟨w.heap.size, 1, none⟩ = some (.slice B m d) := HBX.out.cell 1
        go_wp2_with (go_at_call 120; go_loud (refine (im_nodes _ _ B m d k (HRA.out.below (below_drewN (Below.refl _ _) _)) (by omega)).mono ?_; rintro e w2 ⟨rfl, hw2⟩; have HB2 := Lib.hid (show Below w.heap.size w w2 from by rw [hw2]; exact (below_drewN HBE.out _).trans ((below1 _ _).mono (by have := HBE.out.size; simpa using this))); clear hw2))
        go_ret
        exact ⟨ret_i64 HZ.out.symm, HB2.out⟩
    · have HZ := Lib.hid (agZ_miss (a := a) (b := b) (fun i hi => hI i (by omega)))
      clear hI
      go_wp2_with fail
      go_ret
      exact ⟨ret_i64 HZ.out.symm, below_drewN HBE.out _⟩

set_option maxHeartbeats 4000000 in
theorem s_l07Agree (w : World) (va vb : Value) (a b : List Int) (h1 : Ints w va a) (h2 : Ints w vb b) (l1 : a.length = 38) (l2 : b.length = 38) :
    Calls Tryz.prog 60 #[va, vb] w fun e w' => e = .returned (.int .i64 (agZ a b)) ∧ Below w.heap.size w w' := by
  have HA := Lib.hid h1
  have HB := Lib.hid h2
  obtain ⟨A1, c1, rfl, -, -, g1⟩ := h1.open_
  obtain ⟨A2, c2, rfl, -, -, g2⟩ := h2.open_
  rw [l1] at g1 HA ⊢
  rw [l2] at g2 HB ⊢
  obtain ⟨a1, x, rfl, hx, -, hcx⟩ := g1 0 (by omega)
  obtain ⟨a2, y, rfl, hy, -, hcy⟩ := g2 0 (by omega)
  have hcx0 : w.cell? a1 = some (.int .i64 x) := by simpa [Addr.add] using hcx
  have hcy0 : w.cell? a2 = some (.int .i64 y) := by simpa [Addr.add] using hcy
  have hgx := ints_getD hx
  have hgy := ints_getD hy
  have G1 := Lib.hid g1
  have G2 := Lib.hid g2
  clear h1 h2 l1 l2 g1 g2 hcx hcy hx hy
  by_cases hxy : x = y
  · have hne := neq_false hxy
    have HI0 := Lib.hid (show ∀ i, i < 0 + 1 → a.getD i 0 = b.getD i 0 from fun i hi => by
      have : i = 0 := by omega
      subst this; rw [hgx, hgy]; exact hxy)
    clear hgx hgy hxy
    go_enter Tryz.func60, Tryz.ntmps60
    go_upto_region 1 with fail
    go_quiet (fail)
    generalize hwq : w.drewN nq = wq
    have HBE := Lib.hid (show Below w.heap.size w wq from by rw [← hwq]; exact below_drewN (Below.refl _ _) _)
    clear hwq
    go_wp2_with (go_at_call 115; go_loud (refine (s_l03All _ 6 (by omega)).mono ?_; rintro e w1 ⟨x1, rfl, hx1, hb1⟩; rw [show allG treesN 6 = T6n from rfl] at hx1; obtain ⟨A3, c3, he1, -, -, -⟩ := hx1.rows.open_; rw [List.length_map, T6n_len] at he1; subst he1; have HX1 := Lib.hid hx1.rows; have HB1 := Lib.hid (HBE.out.trans (hb1.mono HBE.out.size)); clear hx1 hb1))
    go_loopw [6] (fun x wr => ∃ k n : Nat, k ≤ 37 ∧ x = .int .i64 k ∧ Hid (∀ i, i < k + 1 → a.getD i 0 = b.getD i 0) ∧ wr = w1.drewN n) (fun x _ => 37 - (intOf x).toNat)
    case atStart => exact ⟨0, 0, Nat.zero_le _, rfl, HI0.out, rfl⟩
    case round =>
      obtain ⟨k, n, hk, rfl, hI, rfl⟩ := hrel
      by_cases hlt : k < 37
      · obtain ⟨a1', x, he1, hx, -, hcx⟩ := G1.out (k + 1) (by omega)
        injection he1 with he1
        subst he1
        obtain ⟨a2', y, he2, hy, -, hcy⟩ := G2.out (k + 1) (by omega)
        injection he2 with he2
        subst he2
        have hcx1 := keepCellG HB1.out hcx
        have hcy1 := keepCellG HB1.out hcy
        have hgx := ints_getD hx
        have hgy := ints_getD hy
        have hkk : (k : Int) < 37 := by omega
        obtain ⟨k1, hk1⟩ : ∃ k1 : Nat, k1 = k + 1 := ⟨_, rfl⟩
        have hkk2 : (k1 : Int) < 38 := by omega
        have hkk3 : k1 < 38 := by omega
        have hkw : IntKind.i64.wrap ((k : Int) + 1) = (k1 : Int) := by rw [hk1]; exact IntWalk.i64_in _ (by omega)
        rw [← hk1] at hcx1 hcy1
        have HK1 := Lib.hid hk1
        clear hk1
        by_cases hxy : x = y
        · have hne := neq_false hxy
          have HI2 := Lib.hid (show ∀ i, i < k + 1 + 1 → a.getD i 0 = b.getD i 0 from fun i hi => by
            by_cases e : i = k + 1
            · subst e; rw [hgx, hgy]; exact hxy
            · exact hI i (by omega))
          clear hI hx hy hgx hgy hxy hcx hcy
          go_upto_region 7 with fail
          go_quiet (fail)
          go_wp2_with fail
          go_roundw
          case rel => exact ⟨k1, _, by omega, by first | rfl | go_num, by rw [HK1.out]; exact HI2.out, by first | rfl | exact World.drewN_drewN ..⟩
          case measure => have := HK1.out; simp [intOf]; omega
        · have hne := neq_true hxy
          obtain ⟨ad, At, ct, t, rfl, ht, hti, hcr⟩ := HX1.out.tree hlt
          have HZ := Lib.hid (show agZ a b = (t.length : Int) - 1 from by rw [agZ_hit hI (by omega) (by rw [hgx, hgy]; exact hxy), szN_succ ht])
          have hs := (T6n_at (List.mem_of_getElem? ht)).2.2.1
          clear hI hx hy hgx hgy hxy hcx hcy ht hti
          go_upto_region 7 with fail
          go_quiet (fail)
          go_wp2_with fail
          go_ret
          exact ⟨ret_i64 HZ.out.symm, below_drewN HB1.out _⟩
      · have HZ := Lib.hid (agZ_miss (a := a) (b := b) (fun i hi => hI i (by omega)))
        clear hI
        go_wp2_with fail
        go_ret
        exact ⟨ret_i64 HZ.out.symm, below_drewN HB1.out _⟩
  · have hne := neq_true hxy
    have HZ := Lib.hid (show agZ a b = -1 from by rw [agZ_hit (k := 0) (fun i hi => by omega) (by omega) (by rw [hgx, hgy]; exact hxy)]; rfl)
    clear hgx hgy hxy
    go_enter Tryz.func60, Tryz.ntmps60
    go_upto_region 1 with fail
    go_quiet (fail)
    go_wp2_with fail
    go_ret
    exact ⟨ret_i64 HZ.out.symm, below_drewN (Below.refl _ _) _⟩

end Go.Proofs.YtngdpoeondnchaaGreat

set_option maxRecDepth 100000
set_option linter.unusedVariables false
set_option linter.unusedSimpArgs false
namespace Go.Proofs.YtngdpoeondnchaaGreat
open Go.RowKit

end Go.Proofs.YtngdpoeondnchaaGreat

set_option maxRecDepth 100000
set_option linter.unusedVariables false
set_option linter.unusedSimpArgs false
namespace Go.Proofs.YtngdpoeondnchaaGreat
open Go.RowKit

end Go.Proofs.YtngdpoeondnchaaGreat

set_option maxRecDepth 100000
set_option linter.unusedVariables false
set_option linter.unusedSimpArgs false
namespace Go.Proofs.YtngdpoeondnchaaGreat
open Go.RowKit

end Go.Proofs.YtngdpoeondnchaaGreat

set_option maxRecDepth 100000
set_option linter.unusedVariables false
set_option linter.unusedSimpArgs false
namespace Go.Proofs.YtngdpoeondnchaaGreat
open Go.RowKit

end Go.Proofs.YtngdpoeondnchaaGreat

set_option maxRecDepth 100000
set_option linter.unusedVariables false
set_option linter.unusedSimpArgs false
namespace Go.Proofs.YtngdpoeondnchaaGreat
open Go.RowKit

end Go.Proofs.YtngdpoeondnchaaGreat

set_option maxRecDepth 100000
set_option linter.unusedVariables false
set_option linter.unusedSimpArgs false
namespace Go.Proofs.YtngdpoeondnchaaGreat
open Go.RowKit

end Go.Proofs.YtngdpoeondnchaaGreat

set_option maxRecDepth 100000
set_option linter.unusedVariables false
set_option linter.unusedSimpArgs false
namespace Go.Proofs.YtngdpoeondnchaaGreat
open Go.RowKit

end Go.Proofs.YtngdpoeondnchaaGreat

set_option maxRecDepth 100000
set_option linter.unusedVariables false
set_option linter.unusedSimpArgs false
namespace Go.Proofs.YtngdpoeondnchaaGreat
open Go.RowKit

end Go.Proofs.YtngdpoeondnchaaGreat

set_option maxRecDepth 100000
set_option linter.unusedVariables false
set_option linter.unusedSimpArgs false
namespace Go.Proofs.YtngdpoeondnchaaGreat
open Go.RowKit

end Go.Proofs.YtngdpoeondnchaaGreat

set_option maxRecDepth 100000
set_option linter.unusedVariables false
set_option linter.unusedSimpArgs false
namespace Go.Proofs.YtngdpoeondnchaaGreat
open Go.RowKit

end Go.Proofs.YtngdpoeondnchaaGreat

set_option maxRecDepth 100000
set_option linter.unusedVariables false
set_option linter.unusedSimpArgs false
namespace Go.Proofs.YtngdpoeondnchaaGreat
open Go.RowKit

theorem LA.keptLt' {w w' : World} {B g : Nat} {v : Value} {xss : List (List Int)} (h : LA w B v xss) (hg : w.grownBy w' (some g)) (hlt : g < B) : LA w' B v xss := by
  obtain ⟨vs, h1, h2, h3⟩ := h
  have ne : ∀ u : Value, (∀ b, u.ownBlock = some b → B ≤ b) → u.ownBlock = none ∨ u.ownBlock ≠ some g := fun u hu => by
    cases hb : u.ownBlock with
    | none => exact .inl rfl
    | some b => exact .inr fun e => by injection e with e; have := hu b hb; omega
  exact ⟨vs, h1.kept hg (ne v h1.ge), ⟨h2.1, fun k u zs hu hz => ⟨(h2.2 k u zs hu hz).1.kept hg (ne u (h2.2 k u zs hu hz).1.ge), (h2.2 k u zs hu hz).2⟩⟩, h3⟩

end Go.Proofs.YtngdpoeondnchaaGreat

set_option maxRecDepth 100000
set_option linter.unusedVariables false
set_option linter.unusedSimpArgs false
namespace Go.Proofs.YtngdpoeondnchaaGreat
open Go.RowKit

end Go.Proofs.YtngdpoeondnchaaGreat

set_option maxRecDepth 100000
set_option linter.unusedVariables false
set_option linter.unusedSimpArgs false
namespace Go.Proofs.YtngdpoeondnchaaGreat
open Go.RowKit

end Go.Proofs.YtngdpoeondnchaaGreat

set_option maxRecDepth 100000
set_option linter.unusedVariables false
set_option linter.unusedSimpArgs false
namespace Go.Proofs.YtngdpoeondnchaaGreat
open Go.RowKit

end Go.Proofs.YtngdpoeondnchaaGreat

set_option maxRecDepth 100000
set_option linter.unusedVariables false
set_option linter.unusedSimpArgs false
namespace Go.Proofs.YtngdpoeondnchaaGreat
open Go.RowKit

end Go.Proofs.YtngdpoeondnchaaGreat

set_option linter.unusedVariables false
set_option linter.unusedSimpArgs false
namespace Go.Proofs.YtngdpoeondnchaaGreat
open Go.RowKit

/-- the first j places of a + k b -/
def addTo (k : Int) (a b : List Int) (j : Nat) : List Int := (List.range j).map fun i => (a.getD i 0 + k * b.getD i 0) % 10007
def addk (k : Int) (a b : List Int) : List Int := addTo k a b a.length
theorem addTo_len (k : Int) (a b : List Int) (j : Nat) : (addTo k a b j).length = j := by simp [addTo]
theorem addTo_succ {k : Int} {a b : List Int} {j : Nat} {x y : Int} (hx : a[j]? = some x) (hy : b[j]? = some y) : addTo k a b (j + 1) = addTo k a b j ++ [(x + k * y) % 10007] := by
  simp [addTo, List.range_succ, List.getD, hx, hy]
theorem addTo_nums (k : Int) (a b : List Int) (j : Nat) : Nums (addTo k a b j) := by
  intro z hz
  obtain ⟨i, _, rfl⟩ := List.mem_map.1 hz
  omega
theorem nums_in {zs : List Int} (h : Nums zs) : ∀ z ∈ zs, In64 z := by
  intro z hz
  have := h z hz
  unfold In64
  omega

set_option maxRecDepth 100000 in
set_option maxHeartbeats 1000000 in
theorem i_plus (w : World) (v v' : Value) (a b : List Int) (k : Int) (ha : Ints w v a) (hb : Ints w v' b) (hA : Nums a) (hB : Nums b) (hl : a.length ≤ b.length) (hn : a.length ≤ 4294967296) (h0 : -4000000000000000000 ≤ k) (h1 : k ≤ 4000000000000000000) :
    Calls Tryz.prog 102 #[v, v', .int .i64 k] w fun e w' => ∃ r, e = .returned r ∧ OwnInts w' w.heap.size tI r (addk (k % 10007) a b) ∧ Below w.heap.size w w' := by
  obtain ⟨A, c, rfl, l1, l2, h3⟩ := ha.open_
  obtain ⟨A', c', rfl, l1', l2', h3'⟩ := hb.open_
  have H3 := Lib.hid h3
  have G3 := Lib.hid h3'
  have HN := Lib.hid hA
  have HM := Lib.hid hB
  clear ha hb h3 h3' hA hB
  have OL := Lib.hid (own_lit w tI [] (by simp [maxLen]))
  go_enter Tryz.func102, Tryz.ntmps102
  go_wp2_with fail
  go_loopw [7, 13] (fun o i wr => ∃ j : Nat, j ≤ a.length ∧ i = .int .i64 j ∧ Own wr w.heap.size tI o (ints (addTo (k % 10007) a b j)) ∧ Below w.heap.size w wr) (fun _ i _ => a.length - (intOf i).toNat)
  case atStart => exact ⟨0, Nat.zero_le _, rfl, by simpa [addTo, ints] using OL.out, (Below.refl _ _).alloc (Nat.le_refl _) _⟩
  case round =>
    obtain ⟨j, hj, rfl, hown, hb⟩ := hrel
    clear OL
    have HO := Lib.hid hown
    have HB := Lib.hid hb
    clear hown hb
    by_cases hlt : j < a.length
    · obtain ⟨ad, x, rfl, hx, -, hcx⟩ := H3.out j hlt
      obtain ⟨ad', y, rfl, hy, -, hcy⟩ := G3.out j (by omega)
      have hc : wr.cell? (ad.add j) = some (.int .i64 x) := by
        rw [HB.out.cell (by rw [block_add]; have := World.block_lt_of_cell? w _ hcx; rwa [block_add] at this)]; exact hcx
      have hc' : wr.cell? (ad'.add j) = some (.int .i64 y) := by
        rw [HB.out.cell (by rw [block_add]; have := World.block_lt_of_cell? w _ hcy; rwa [block_add] at this)]; exact hcy
      have hxn := HN.out x (List.mem_of_getElem? hx)
      have hyn := HM.out y (List.mem_of_getElem? hy)
      have HS := Lib.hid (addTo_succ (k := k % 10007) hx hy)
      have hm0 : 0 ≤ k % 10007 ∧ k % 10007 ≤ 10006 := by omega
      obtain ⟨p1, p2⟩ := mul_bd 10006 10006 hm0.1 hm0.2 hyn.1 hyn.2
      have hjb : (j : Int) < (b.length : Int) := by omega
      have hjb' : j < b.length := by omega
      clear hx hy hcx hcy
      go_wp2_with fail
      have wA : IntKind.i64.wrap (k % 10007 * y) = k % 10007 * y := IntWalk.i64_in _ (by omega)
      have wB : IntKind.i64.wrap (x + k % 10007 * y) = x + k % 10007 * y := IntWalk.i64_in _ (by omega)
      go_region_law (first | (refine step_app1 T_int (B := w.heap.size) (W := wr.drew) (by exact HO.out) (by rw [ints_len, addTo_len]; omega) (by exact HB.out.size) (by rfl) rfl (by rfl) (by rfl) (by rfl) ?_; intro v1 w1 hown1 hgr1) | (go_simp; go_at_call 103; refine (i_num _ _ (by omega) (by omega)).mono ?_; rintro e w' ⟨rfl, rfl⟩))
      all_goals
        go_wp2_with fail
        go_roundw
        case rel =>
          refine ⟨j + 1, by omega, by go_num, ?_, hgr1.below HB.out.drew HB.out.size HO.out.ge⟩
          rw [HS.out]
          simpa [ints] using hown1
        case measure => simp [intOf]; omega
    · have : j = a.length := by omega
      subst this
      go_wp2_with fail
      go_ret
      exact ⟨_, rfl, ⟨HO.out, nums_in (addTo_nums _ _ _ _)⟩, HB.out⟩
end Go.Proofs.YtngdpoeondnchaaGreat

set_option maxRecDepth 100000
set_option linter.unusedVariables false
set_option linter.unusedSimpArgs false
namespace Go.Proofs.YtngdpoeondnchaaGreat
open Go.RowKit

theorem chr_of {a : List Int} (h : chrC a = 0) : mapB a = true ∧ a.getD 0 0 = 1 := by
  unfold chrC at h
  cases hm : mapB a with
  | false => rw [hm] at h; simp at h
  | true =>
    rw [hm] at h
    refine ⟨rfl, ?_⟩
    by_cases e : a.getD 0 0 = 1
    · exact e
    · rw [if_pos rfl, if_neg e] at h; exact absurd h (by decide)
end Go.Proofs.YtngdpoeondnchaaGreat

set_option maxRecDepth 100000
set_option linter.unusedVariables false
set_option linter.unusedSimpArgs false
namespace Go.Proofs.YtngdpoeondnchaaGreat
open Go.RowKit

end Go.Proofs.YtngdpoeondnchaaGreat

set_option linter.unusedVariables false
set_option linter.unusedSimpArgs false
namespace Go.Proofs.YtngdpoeondnchaaGreat
open Go Go.RowKit

section
variable {P : Program} {ops : Array Oper} {md : Region.Mode} {C : World → Prop} {n : Nat} {D : Array Bool → Act → Prop}

/-- so many steps, each by an operation of the head, whatever is picked; then D -/
def HeadQ (P : Program) (md : Region.Mode) (ops : Array Oper) (C : World → Prop) (n : Nat) (D : Array Bool → Act → Prop) : Nat → Array Bool → Act → Prop
  | 0, L, a => D L a
  | f + 1, L, a => Region.ready md ops L ≠ [] ∧ ∀ i ∈ Region.ready md ops L, i < n ∧ qOp P ops C i (HeadQ P md ops C n D f (L.setIfInBounds i true)) a

theorem HeadQ.any {g : Nat} {Q : Exit → Act → World → Prop} (hD : ∀ L a, D L a → ∀ w, C w → wpAny P md ops Q g L a w) : ∀ (f : Nat) (L : Array Bool) (a : Act) (w : World), C w → HeadQ P md ops C n D f L a → wpAny P md ops Q (f + g) L a w := by
  intro f
  induction f with
  | zero => intro L a w hw h; rw [Nat.zero_add]; exact hD L a h w hw
  | succ f ih =>
    intro L a w hw h
    have e : f + 1 + g = (f + g) + 1 := by omega
    rw [e]
    refine ⟨fun h0 => absurd h0 h.1, fun i hi => ?_⟩
    exact wpOp_of_qOp hw (fun a' w' hw' h' => ih _ a' w' hw' h') (h.2 i hi).2

theorem HeadQ.take {i : Nat} {oi : Oper} {v : Value} (hi : ops[i]? = some oi) (hsel : ∀ (j : Nat) (o : Oper) cs b, ops[j]? = some o → o.op ≠ .select cs b)
    (hs : Region.sinkB md ops n = true) (hc : Region.chainB md ops n = true) (hn : n < ops.size) (hin : i < n) (hD : ∀ L a, D L a → ∀ j ∈ Region.ready md ops L, n ≤ j) :
    ∀ (f : Nat) (L : Array Bool) (a : Act), HeadInv md ops n L →
      (∀ j oj, ops[j]? = some oj → j ≠ i → L.getD j true = false → (∀ e ∈ oj.after, Region.binds md e = true → e.on ≠ i) → oi.apart ops oj = true) →
      i ∈ Region.ready md ops L → YieldsIn P ops C oi v a →
      HeadQ P md ops C n D f (L.setIfInBounds i true) (a.put oi.dst v) → HeadQ P md ops C n D (f + 1) L a := by
  intro f
  induction f with
  | zero =>
    intro L a inv _ hr hy H
    have hun := (mem_ready.1 hr).1
    refine ⟨List.ne_nil_of_mem hr, fun j hj => ?_⟩
    have hjn : j < n := Nat.lt_of_not_le fun h => tail_waits hs hc hn inv _ i rfl hin hun j h hj
    by_cases hji : j = i
    · subst hji; exact ⟨hjn, hy.qOp hi H⟩
    · have := hD _ _ H j (ready_mono hj hji)
      omega
  | succ f ih =>
    intro L a inv hfree hr hy H
    have hun := (mem_ready.1 hr).1
    refine ⟨List.ne_nil_of_mem hr, fun j hj => ?_⟩
    have hjn : j < n := Nat.lt_of_not_le fun h => tail_waits hs hc hn inv _ i rfl hin hun j h hj
    by_cases hji : j = i
    · subst hji; exact ⟨hjn, hy.qOp hi H⟩
    · refine ⟨hjn, ?_⟩
      obtain ⟨hjun, oj, hoj, hall⟩ := mem_ready.1 hj
      have hnot : ∀ e ∈ oj.after, Region.binds md e = true → e.on ≠ i := by
        intro e he hb heq
        have h1 := hall e he hb
        rw [heq, getD_both hun] at h1
        cases h1
      have h2 := qOp_put hoj (hfree j oj hoj hji hjun hnot) (fun cs b => hsel i oi cs b hi) (fun cs b => hsel j oj cs b hoj) hy (H.2 j (ready_mono hj hji)).2
      refine qOp_mono (fun a' h3 => ?_) h2
      refine ih (L.setIfInBounds j true) a' (inv.set hj hjn) (fun k ok hk hki hun' hno => hfree k ok hk hki ?_ hno) (ready_mono hr (Ne.symm hji)) h3.1 ?_
      · by_cases hjk : j = k
        · subst hjk; exact hjun
        · rwa [getD_set_ne true hjk] at hun'
      · rw [Array.setIfInBounds_comm _ _ hji]
        exact h3.2

end
end Go.Proofs.YtngdpoeondnchaaGreat

set_option maxRecDepth 100000
set_option linter.unusedVariables false
set_option linter.unusedSimpArgs false
namespace Go.Proofs.YtngdpoeondnchaaGreat
open Go.RowKit

end Go.Proofs.YtngdpoeondnchaaGreat

set_option maxRecDepth 100000
set_option linter.unusedVariables false
set_option linter.unusedSimpArgs false
namespace Go.Proofs.YtngdpoeondnchaaGreat
open Go.RowKit

end Go.Proofs.YtngdpoeondnchaaGreat

set_option maxRecDepth 100000
set_option linter.unusedVariables false
set_option linter.unusedSimpArgs false
namespace Go.Proofs.YtngdpoeondnchaaGreat
open Go.RowKit

end Go.Proofs.YtngdpoeondnchaaGreat

set_option maxRecDepth 100000
set_option linter.unusedVariables false
set_option linter.unusedSimpArgs false
namespace Go.Proofs.YtngdpoeondnchaaGreat
open Go.RowKit

end Go.Proofs.YtngdpoeondnchaaGreat

set_option maxRecDepth 100000
set_option linter.unusedVariables false
set_option linter.unusedSimpArgs false
namespace Go.Proofs.YtngdpoeondnchaaGreat
open Go.RowKit

end Go.Proofs.YtngdpoeondnchaaGreat

set_option maxRecDepth 100000
set_option linter.unusedVariables false
set_option linter.unusedSimpArgs false
namespace Go.Proofs.YtngdpoeondnchaaGreat
open Go.RowKit

end Go.Proofs.YtngdpoeondnchaaGreat

set_option maxRecDepth 100000
set_option linter.unusedVariables false
set_option linter.unusedSimpArgs false
namespace Go.Proofs.YtngdpoeondnchaaGreat
open Go.RowKit

theorem C7.r7 {w : World} {B : Nat} {v : Value} (h : C7 w B v) : ∃ A c, v = .slice A 38 c ∧ R7 w B A 38 := by
  obtain ⟨A, c, he, h1⟩ := h.at_
  exact ⟨A, c, he, fun i hi => h1 i (by omega)⟩
theorem cvZ_take (a b : List Int) : (cvZ a b).take 38 = cvZ a b := by rw [List.take_of_length_le]; rw [cvZ_len]; exact Nat.le_refl _
end Go.Proofs.YtngdpoeondnchaaGreat

