/- DROP Walk: grafted of the program, for one tree at the root. | DROP Walks: productsTo of the program; SymplecticTo, HamiltonianTo. | DROP Walks: symplecticTo, hamiltonianTo; SymplecticTo, HamiltonianTo of the program and of the reference. (printed by vgen.py) | Walk: l04Cut of the reference. | Walk: l04Turn of the reference: the recursion. | Walk: l04Double of the reference. | Walk: l04Put of the reference. | Walk: l04Roots of the reference. | Walk: l12Free of the reference. | Walks: allConditions of the program; l12All of the reference. (printed by allgen.py) | Plain: the free conditions by places; reduced order. No walk. | Walks: ReducedOrder, FreeNumbersOf of the program. | Walk: l07Scale of the reference. -/
import Derived.Test.YtdjhfeaimmpmhaaGreatZm18
import Derived.Test.YtdjhfeaimmpmhaaGreatZm7
import Derived.Test.YtdjhfeaimmpmhaaGreatZm8
import Derived.Test.YtdjhfeaimmpmhaaGreatZm6
import Derived.Test.YtdjhfeaimmpmhaaGreatZm19
import Derived.Test.YtdjhfeaimmpmhaaGreatZm11
import Derived.Test.YtdjhfeaimmpmhaaGreatZm22
import Derived.Test.YtdjhfeaimmpmhaaGreatZm16
import Derived.Deep.CutRange
import Derived.Deep.CutBlock
import Derived.Deep.DeepCutAuto
import Derived.Test.YtdjhfeaimmpmhaaGreatZm12
import Derived.Test.YtdjhfeaimmpmhaaGreatZm17
import Derived.Test.YtdjhfeaimmpmhaaGreatZm3
set_option maxRecDepth 100000
set_option linter.unusedVariables false
set_option linter.unusedSimpArgs false
namespace Go.Proofs.YtdjhfeaimmpmhaaGreat
open Go.RowKit

/-- rows of neighbours, apart or not: each a list of numbers in a block from B on -/
def RN (w : World) (B : Nat) (vs : List Value) (nss : List (List Nat)) : Prop :=
  vs.length = nss.length ∧ ∀ (k : Nat) (u : Value) (ns : List Nat), vs[k]? = some u → nss[k]? = some ns → OwnInts w B tN u (up ns)
section
variable {w w' : World} {B : Nat} {vs : List Value} {nss : List (List Nat)}
theorem RN.below (h : RN w B vs nss) (hb : Below w.heap.size w w') : RN w' B vs nss := ⟨h.1, fun k u zs hu hz => (h.2 k u zs hu hz).below hb⟩
theorem RN.mono {B' : Nat} (h : RN w B vs nss) (hB : B' ≤ B) : RN w B' vs nss := ⟨h.1, fun k u zs hu hz => (h.2 k u zs hu hz).mono hB⟩
theorem RN.snoc {u : Value} {ns : List Nat} (h : RN w B vs nss) (hu : OwnInts w B tN u (up ns)) : RN w B (vs ++ [u]) (nss ++ [ns]) := by
  refine ⟨by simp [h.1], fun k u' zs' hk hz => ?_⟩
  by_cases hlt : k < vs.length
  · rw [List.getElem?_append_left hlt] at hk
    rw [List.getElem?_append_left (by rw [← h.1]; exact hlt)] at hz
    exact h.2 k u' zs' hk hz
  · have hkl := (List.getElem?_eq_some_iff.1 hk).1
    simp at hkl
    have : k = vs.length := by omega
    subst this
    rw [List.getElem?_append_right (Nat.le_refl _)] at hk
    rw [List.getElem?_append_right (by rw [h.1]; exact Nat.le_refl _), h.1] at hz
    simp at hk hz
    subst hk; subst hz
    exact hu
theorem RN.set {k : Nat} {u : Value} {ns : List Nat} (h : RN w B vs nss) (hu : OwnInts w B tN u (up ns)) : RN w B (vs.set k u) (nss.set k ns) := by
  refine ⟨by simp [h.1], fun j u' zs' hj hz => ?_⟩
  rw [List.getElem?_set] at hj hz
  by_cases hjk : k = j
  · subst hjk
    rw [if_pos rfl] at hj hz
    split at hj
    · rw [if_pos (by rw [← h.1]; assumption)] at hz
      injection hj with hj; injection hz with hz
      subst hj; subst hz
      exact hu
    · cases hj
  · rw [if_neg hjk] at hj hz
    exact h.2 j u' zs' hj hz
theorem RN.kept {v : Value} {e : TypeId} (h : RN w B vs nss) (hg : w.grownBy w' v.ownBlock) (hb : BT w e v) (hne : tN ≠ e) : RN w' B vs nss :=
  ⟨h.1, fun k u zs hu hz => (h.2 k u zs hu hz).kept hg ((h.2 k u zs hu hz).1.bt.ne hb hne)⟩
theorem RN.rows {v : Value} {B' : Nat} (h : RN w B vs nss) (ho : Own w B' tNL v vs) : Rows w v (nss.map up) :=
  ⟨vs, ho.cells, by rw [List.length_map]; exact h.1, fun k u zs hu hz => by
    rw [List.getElem?_map] at hz
    cases hn : nss[k]? with
    | none => rw [hn] at hz; cases hz
    | some ns => rw [hn] at hz; injection hz with hz; subst hz; exact (h.2 k u ns hu hn).ints⟩
theorem RN.at_ {k : Nat} {ns : List Nat} (h : RN w B vs nss) (hz : nss[k]? = some ns) : ∃ A c, vs[k]? = some (.slice A ns.length c) ∧ OwnInts w B tN (.slice A ns.length c) (up ns) := by
  have hk : k < vs.length := by rw [h.1]; exact (List.getElem?_eq_some_iff.1 hz).1
  have hu : vs[k]? = some (vs[k]'hk) := List.getElem?_eq_getElem _
  have ho := h.2 k _ ns hu hz
  obtain ⟨A, c, he, -, -, -⟩ := ho.ints.open_
  rw [up_len] at he
  exact ⟨A, c, by rw [hu, he], by rw [← he]; exact ho⟩
end
end Go.Proofs.YtdjhfeaimmpmhaaGreat

set_option maxRecDepth 100000
set_option linter.unusedVariables false
set_option linter.unusedSimpArgs false
namespace Go.Proofs.YtdjhfeaimmpmhaaGreat
open Go.RowKit

end Go.Proofs.YtdjhfeaimmpmhaaGreat

set_option maxRecDepth 100000
set_option linter.unusedVariables false
set_option linter.unusedSimpArgs false
namespace Go.Proofs.YtdjhfeaimmpmhaaGreat
open Go.RowKit

end Go.Proofs.YtdjhfeaimmpmhaaGreat

set_option maxRecDepth 100000
set_option linter.unusedVariables false
set_option linter.unusedSimpArgs false
namespace Go.Proofs.YtdjhfeaimmpmhaaGreat
open Go.RowKit

end Go.Proofs.YtdjhfeaimmpmhaaGreat

set_option maxRecDepth 100000
set_option linter.unusedVariables false
set_option linter.unusedSimpArgs false
namespace Go.Proofs.YtdjhfeaimmpmhaaGreat
open Go.RowKit

end Go.Proofs.YtdjhfeaimmpmhaaGreat

set_option maxRecDepth 100000
set_option linter.unusedVariables false
set_option linter.unusedSimpArgs false
namespace Go.Proofs.YtdjhfeaimmpmhaaGreat
open Go.RowKit

end Go.Proofs.YtdjhfeaimmpmhaaGreat

set_option maxRecDepth 100000
set_option linter.unusedVariables false
set_option linter.unusedSimpArgs false
namespace Go.Proofs.YtdjhfeaimmpmhaaGreat
open Go.RowKit

end Go.Proofs.YtdjhfeaimmpmhaaGreat

set_option maxRecDepth 100000
set_option linter.unusedVariables false
set_option linter.unusedSimpArgs false
namespace Go.Proofs.YtdjhfeaimmpmhaaGreat
open Go.RowKit

end Go.Proofs.YtdjhfeaimmpmhaaGreat

set_option maxRecDepth 100000
set_option linter.unusedVariables false
set_option linter.unusedSimpArgs false
namespace Go.Proofs.YtdjhfeaimmpmhaaGreat
open Go.RowKit

end Go.Proofs.YtdjhfeaimmpmhaaGreat

set_option maxRecDepth 100000
set_option linter.unusedVariables false
set_option linter.unusedSimpArgs false
namespace Go.Proofs.YtdjhfeaimmpmhaaGreat
open Go.RowKit

end Go.Proofs.YtdjhfeaimmpmhaaGreat

set_option maxRecDepth 100000
set_option linter.unusedVariables false
set_option linter.unusedSimpArgs false
namespace Go.Proofs.YtdjhfeaimmpmhaaGreat
open Go.RowKit

end Go.Proofs.YtdjhfeaimmpmhaaGreat

set_option maxRecDepth 100000
set_option linter.unusedVariables false
set_option linter.unusedSimpArgs false
namespace Go.Proofs.YtdjhfeaimmpmhaaGreat
open Go.RowKit

theorem LA.keptLt' {w w' : World} {B g : Nat} {v : Value} {xss : List (List Int)} (h : LA w B v xss) (hg : w.grownBy w' (some g)) (hlt : g < B) : LA w' B v xss := by
  obtain ⟨vs, h1, h2, h3⟩ := h
  have ne : ∀ u : Value, (∀ b, u.ownBlock = some b → B ≤ b) → u.ownBlock = none ∨ u.ownBlock ≠ some g := fun u hu => by
    cases hb : u.ownBlock with
    | none => exact .inl rfl
    | some b => exact .inr fun e => by injection e with e; have := hu b hb; omega
  exact ⟨vs, h1.kept hg (ne v h1.ge), ⟨h2.1, fun k u zs hu hz => ⟨(h2.2 k u zs hu hz).1.kept hg (ne u (h2.2 k u zs hu hz).1.ge), (h2.2 k u zs hu hz).2⟩⟩, h3⟩

end Go.Proofs.YtdjhfeaimmpmhaaGreat

set_option maxRecDepth 100000
set_option linter.unusedVariables false
set_option linter.unusedSimpArgs false
namespace Go.Proofs.YtdjhfeaimmpmhaaGreat
open Go.RowKit

/-- rows that no growth of a slice's own block touches -/
def APR (w : World) (o x : Value) : Prop := ∃ vs, ∀ W', w.grownBy W' o.ownBlock → Cells W' x vs ∧ Rows W' x (T6n.map up)
theorem APR.rows {w : World} {o x : Value} (h : APR w o x) : Rows w x (T6n.map up) := by
  obtain ⟨vs, h⟩ := h
  exact (h w (World.grownBy.refl _ _)).2
theorem APR.step {w w' : World} {o o' x : Value} (h : APR w o x) (hg : Grow w w' o o') : APR w' o' x := by
  obtain ⟨vs, h⟩ := h
  refine ⟨vs, fun W hW => ?_⟩
  have g1 := hg.1
  refine h W ⟨hW.os.trans g1.os, hW.tape.trans g1.tape, hW.output.trans g1.output, Nat.le_trans g1.size hW.size, fun k hk hne => ?_⟩
  have e1 := g1.block k hk hne
  have e2 := hW.block k (Nat.lt_of_lt_of_le hk g1.size) (fun e => by
    rcases hg.2 with h2 | ⟨g, h2, h3⟩
    · exact hne (h2 ▸ e)
    · rw [h2] at e; injection e with e; omega)
  exact e2.trans e1
theorem APR.drew {w : World} {o x : Value} (h : APR w o x) : APR w.drew o x := by
  obtain ⟨vs, h⟩ := h
  exact ⟨vs, fun W hW => h { w with heap := W.heap } ⟨rfl, rfl, rfl, hW.size, hW.block⟩⟩
theorem APR.cell {w W : World} {o : Value} {ad : Addr} {c i : Nat} (h : APR w o (.slice (some ad) 37 c)) (hg : w.grownBy W o.ownBlock) (hi : i < 37) : W.cell? (ad.add i) = w.cell? (ad.add i) := by
  obtain ⟨vs, h⟩ := h
  have h1 := (h w (World.grownBy.refl _ _)).1
  have h2 := (h W hg).1
  obtain ⟨A, c', e, -, -⟩ := h1.open_
  simp only [Value.slice.injEq] at e
  obtain ⟨u, hv⟩ : ∃ u, vs[i]? = some u := ⟨_, List.getElem?_eq_getElem (by omega)⟩
  obtain ⟨a1, n1, c1, e1, k1⟩ := h1.at_ hv
  obtain ⟨a2, n2, c2, e2, k2⟩ := h2.at_ hv
  simp only [Value.slice.injEq, Option.some.injEq] at e1 e2
  rw [← e1.1] at k1
  rw [← e2.1] at k2
  rw [k1, k2]
theorem APR.after {w3 : World} {B : Nat} {x : Value} (h : LA w3 B x (T6n.map up)) (v : Value) (t : TypeId) : APR (w3.alloc (.cells #[v] t)) (.slice (some ⟨w3.heap.size, 0, none⟩) 1 1) x := by
  have h0 := h
  obtain ⟨vs, h1, -, -⟩ := h0
  refine ⟨vs, fun W hW => ?_⟩
  have hb : Below w3.heap.size w3 W := (below1 w3 (.cells #[v] t)).grown hW (by simp) (fun b hb => by simp [Value.ownBlock] at hb; omega)
  exact ⟨(h1.below hb).cells, (h.below hb).rows⟩
theorem APR.before {w3 : World} {B g : Nat} {x : Value} (h : LA w3 B x (T6n.map up)) (hg : g < B) : APR w3 (.slice (some ⟨g, 0, none⟩) 1 1) x := by
  have h0 := h
  obtain ⟨vs, h1, -, -⟩ := h0
  refine ⟨vs, fun W hW => ⟨(h1.kept hW ?_).cells, (h.keptLt' hW hg).rows⟩⟩
  cases hb : x.ownBlock with
  | none => exact .inl rfl
  | some b => exact .inr fun e => by injection e with e; have := h1.ge b hb; have e : b = g := e; omega
set_option maxHeartbeats 8000000 in
theorem s_l07Scale (w : World) (va : Value) (a : List Int) (k : Int) (h1 : Ints w va a) (l1 : a.length = 38) (hN1 : Nums a) (hk0 : 0 ≤ k) (hk1 : k ≤ 10006) :
    Calls Tryz.prog 139 #[va, .int .i64 k] w fun e w' => ∃ x, e = .returned x ∧ OwnInts w' w.heap.size tI x (scZ a k) ∧ Below w.heap.size w w' := by
  obtain ⟨Aa, ca, rfl, -, -, -⟩ := h1.open_
  rw [l1] at h1 ⊢
  obtain ⟨ada, rfl, hc0, hy0, hy1⟩ := map_cell h1 hN1 (k := 0) (by omega)
  have HS0 := Lib.hid (show ints ((scZ a k).take 1) = [.int .i64 (a.getD 0 0)] from by
    have h := scZ_step a k (i := 0) (by omega)
    rw [h, szN_zero, show pw k 0 = 1 from by simp [pw], Int.mul_one, show a.getD 0 0 % 10007 = a.getD 0 0 from by omega]
    rfl)
  obtain ⟨y0, hy0'⟩ : ∃ y0, y0 = a.getD 0 0 := ⟨_, rfl⟩
  rw [← hy0'] at hc0 HS0
  have hc0' : w.cell? ada = some (.int .i64 y0) := by simpa [Addr.add] using hc0
  have HC0 := Lib.hid hc0'
  have HA := Lib.hid h1
  have HNA := Lib.hid hN1
  have HSZ := Lib.hid (scZ_len a k)
  clear hy0' hy0 hy1 hc0 h1 hN1 l1
  go_enter Tryz.func139, Tryz.ntmps139
  go_upto_region 1 with fail
  go_cut [5, 6] (fun x o wx => ∃ A c, x = .slice A 37 c ∧ APR wx o (.slice A 37 c) ∧ Own wx w.heap.size tI o (ints ((scZ a k).take 1)) ∧ Below w.heap.size w wx)
  case first =>
    go_region_law ((go_simp; go_at_call 70; refine (s_l03All _ 6 (by omega)).mono ?_; rintro e w3 ⟨x3, rfl, hx3, hb3⟩; rw [show allG treesN 6 = T6n from rfl] at hx3; obtain ⟨A3, c3, he3, -, -, -⟩ := hx3.rows.open_; rw [List.length_map, T6n_len] at he3; subst he3; have HX3 := Lib.hid hx3; have HB3 := Lib.hid hb3; have hk3 : w3.cell? ada = some (.int .i64 y0) := keepCell (by first | exact below_of_drew hb3 | exact (below1 w _).trans ((below_of_drew hb3).mono (by simp))) HC0.out; clear hx3 hb3))
    all_goals
      go_wp2_with fail
      go_meet
    all_goals first
      | exact ⟨_, _, rfl, APR.after HX3.out _ _, by rw [HS0.out]; exact (own_lit w3 tI [.int .i64 y0] (by simp [maxLen])).mono (below_of_drew HB3.out).size, (below_of_drew HB3.out).alloc (below_of_drew HB3.out).size _⟩
      | exact ⟨_, _, rfl, APR.before HX3.out (by simp), by rw [HS0.out]; exact (own_lit w tI [.int .i64 y0] (by simp [maxLen])).below (below_of_drew HB3.out), (below1 w _).trans ((below_of_drew HB3.out).mono (by simp))⟩
  case rest =>
    obtain ⟨A, c, rfl, hr, ho, hb⟩ := hcut
    have HR := Lib.hid hr
    have OL := Lib.hid ho
    have OB := Lib.hid hb
    clear hr ho hb hc0'
    go_wp2_with fail
    go_loopw [6, 7] (fun o x wr => ∃ i : Nat, i ≤ 37 ∧ x = .int .i64 i ∧ Own wr w.heap.size tI o (ints ((scZ a k).take (i + 1))) ∧ Below w.heap.size w wr ∧ Hid (APR wr o (.slice A 37 c))) (fun _ x _ => 37 - (intOf x).toNat)
    case atStart => exact ⟨0, Nat.zero_le _, rfl, OL.out, OB.out, HR⟩
    case round =>
      obtain ⟨i, hi, rfl, ho, hb, HRQ⟩ := hrel
      rename World => wq
      clear OL OB HR
      have hel : ((scZ a k).take (i + 1)).length = i + 1 := by rw [List.length_take, HSZ.out]; omega
      have hol := ho.cells.open_
      rw [ints_len, hel] at hol
      obtain ⟨Ao, co, rfl, -, -⟩ := hol
      have HEL := Lib.hid hel
      have HO := Lib.hid ho
      have HBQ := Lib.hid hb
      clear ho hel
      by_cases hlt : i < 37
      · obtain ⟨ad, At, ct, t, rfl, ht, hti, hcr⟩ := HRQ.out.rows.tree hlt
        obtain ⟨_, he, hcx, hx0, hx1⟩ := map_cell (HA.out.below hb) HNA.out (k := i + 1) (by omega)
        simp only [Option.some.injEq] at he
        subst he
        have hcx : wq.cell? ⟨ada.block, ada.off + (i + 1), none⟩ = some (.int .i64 (a.getD (i + 1) 0)) := by simpa [Addr.add] using hcx
        have HTS := Lib.hid (scZ_step a k (i := i + 1) (by omega))
        rw [szN_succ ht] at HTS
        have hsz : t.length ≤ 6 := (T6n_at (List.mem_of_getElem? ht)).2.2.1
        have hpb := pw_bd k t.length
        have HPW := Lib.hid (fun W => show Calls Tryz.prog 186 #[.int .i64 k, .int .i64 (t.length : Nat)] W fun e w' => e = .returned (.int .i64 (pw k t.length)) ∧ W = w' from by
          have h := s_l01Pow k (t.length : Nat) W hk0 (by omega) (by omega) (by omega)
          rwa [Int.toNat_natCast] at h)
        obtain ⟨P, hP⟩ : ∃ P, P = pw k t.length := ⟨_, rfl⟩
        rw [← hP] at hpb HPW HTS
        have HCX := Lib.hid (show ∀ W', Below w.heap.size w W' → W'.cell? ⟨ada.block, ada.off + (i + 1), none⟩ = some (.int .i64 (a.getD (i + 1) 0)) from fun W' hW => by
          obtain ⟨_, he, h1, -, -⟩ := map_cell (HA.out.below hW) HNA.out (k := i + 1) (by omega)
          simp only [Option.some.injEq] at he
          subst he
          simpa [Addr.add] using h1)
        generalize a.getD (i + 1) 0 = y at *
        have HMU := Lib.hid (fun W => s_l01Mul y P W hx0 (by omega) hpb.1 (by omega))
        generalize t.length = tn at *
        have QQ := Lib.hid (show ∀ W', Below wq.heap.size wq W' → W'.cell? ⟨ada.block, ada.off + (i + 1), none⟩ = some (.int .i64 y) ∧ W'.cell? (ad.add i) = some (.slice At tn ct) from fun W' h => ⟨keepCell h hcx, keepCell h hcr⟩)
        have HCR := Lib.hid hcr
        have hii : (i : Int) < 37 := by omega
        have hi1 : (i : Int) + 1 < 38 := by omega
        clear hb hP ht hti hcx hcr
        go_upto_region 5 with fail
        have hwr : IntKind.i64.wrap ((i : Int) + 1) = (i : Int) + 1 := IntWalk.i64_in _ (by omega)
        have htn1 : ((i : Int) + 1).toNat = i + 1 := by omega
        have hin0 : (0 : Int) ≤ (i : Int) + 1 := by omega
        refine AnyT.begin (k := 15) (S := fun b w' => (w'.cell? ⟨ada.block, ada.off + (i + 1), none⟩ = some (.int .i64 y) ∧ w'.cell? (ad.add i) = some (.slice At tn ct)) ∧ True) (by kernel_rfl) ?_
        have hS : (fun (b : Bool) (w' : World) => (w'.cell? ⟨ada.block, ada.off + (i + 1), none⟩ = some (.int .i64 y) ∧ w'.cell? (ad.add i) = some (.slice At tn ct)) ∧ True) false wq.drew := ⟨QQ.out _ (Below.refl wq.heap.size wq).drew, trivial⟩
        refine AnyT.take0 (i := 0) (v := ?_) rfl (by kernel_rfl) (by kernel_rfl) (by kernel_rfl) (by decide) (fun _ _ _ h => h) hS (Or.inl ⟨by first | kernel_rfl | rfl, ?_⟩) ?_
        rotate_left
        · intro w' hw'; clear hw'; go_simp; try with_reducible rfl
        try simp only [Act.put, List.setIfInBounds_toArray, List.set_cons_zero, List.set_cons_succ]
        refine AnyT.take0 (i := 1) (v := ?_) rfl (by kernel_rfl) (by kernel_rfl) (by kernel_rfl) (by decide) (fun _ _ _ h => h) hS (Or.inl ⟨by first | kernel_rfl | rfl, ?_⟩) ?_
        rotate_left
        · intro w' hw'; clear hw'; go_simp; try with_reducible rfl
        try simp only [Act.put, List.setIfInBounds_toArray, List.set_cons_zero, List.set_cons_succ]
        refine AnyT.take0 (i := 2) (v := ?_) rfl (by kernel_rfl) (by kernel_rfl) (by kernel_rfl) (by decide) (fun _ _ _ h => h) hS (Or.inl ⟨by first | kernel_rfl | rfl, ?_⟩) ?_
        rotate_left
        · intro w' hw'; clear hw'; go_simp; try with_reducible rfl
        try simp only [Act.put, List.setIfInBounds_toArray, List.set_cons_zero, List.set_cons_succ]
        refine AnyT.take0 (i := 3) (v := ?_) rfl (by kernel_rfl) (by kernel_rfl) (by kernel_rfl) (by decide) (fun _ _ _ h => h) hS (Or.inl ⟨by first | kernel_rfl | rfl, ?_⟩) ?_
        rotate_left
        · intro w' hw'; clear hw'; go_simp; try with_reducible rfl
        try simp only [Act.put, List.setIfInBounds_toArray, List.set_cons_zero, List.set_cons_succ]
        refine AnyT.take0 (i := 4) (v := ?_) rfl (by kernel_rfl) (by kernel_rfl) (by kernel_rfl) (by decide) (fun _ _ _ h => h) hS (Or.inl ⟨by first | kernel_rfl | rfl, ?_⟩) ?_
        rotate_left
        · intro w' hw'; clear hw'; go_simp; try with_reducible rfl
        try simp only [Act.put, List.setIfInBounds_toArray, List.set_cons_zero, List.set_cons_succ]
        refine AnyT.take0 (i := 5) (v := ?_) rfl (by kernel_rfl) (by kernel_rfl) (by kernel_rfl) (by decide) (fun _ _ _ h => h) hS (Or.inl ⟨by first | kernel_rfl | rfl, ?_⟩) ?_
        rotate_left
        · rintro w' ⟨b, hw'⟩; obtain ⟨hw1, -⟩ := hw'; (try (obtain ⟨hw1, hw2⟩ := hw1)); (try (obtain ⟨hw2, hw3⟩ := hw2)); (try (obtain ⟨hw3, hw4⟩ := hw3)); go_simp; try with_reducible rfl
        try simp only [Act.put, List.setIfInBounds_toArray, List.set_cons_zero, List.set_cons_succ]
        refine AnyT.take0 (i := 6) (v := ?_) rfl (by kernel_rfl) (by kernel_rfl) (by kernel_rfl) (by decide) (fun _ _ _ h => h) hS (Or.inl ⟨by first | kernel_rfl | rfl, ?_⟩) ?_
        rotate_left
        · intro w' hw'; clear hw'; go_simp; try with_reducible rfl
        try simp only [Act.put, List.setIfInBounds_toArray, List.set_cons_zero, List.set_cons_succ]
        refine AnyT.take0 (i := 7) (v := ?_) rfl (by kernel_rfl) (by kernel_rfl) (by kernel_rfl) (by decide) (fun _ _ _ h => h) hS (Or.inl ⟨by first | kernel_rfl | rfl, ?_⟩) ?_
        rotate_left
        · intro w' hw'; clear hw'; go_simp; try with_reducible rfl
        try simp only [Act.put, List.setIfInBounds_toArray, List.set_cons_zero, List.set_cons_succ]
        refine AnyT.take0 (i := 8) (v := ?_) rfl (by kernel_rfl) (by kernel_rfl) (by kernel_rfl) (by decide) (fun _ _ _ h => h) hS (Or.inl ⟨by first | kernel_rfl | rfl, ?_⟩) ?_
        rotate_left
        · intro w' hw'; clear hw'; go_simp; try with_reducible rfl
        try simp only [Act.put, List.setIfInBounds_toArray, List.set_cons_zero, List.set_cons_succ]
        refine AnyT.take0 (i := 9) (v := ?_) rfl (by kernel_rfl) (by kernel_rfl) (by kernel_rfl) (by decide) (fun _ _ _ h => h) hS (Or.inl ⟨by first | kernel_rfl | rfl, ?_⟩) ?_
        rotate_left
        · intro w' hw'; clear hw'; go_simp; try with_reducible rfl
        try simp only [Act.put, List.setIfInBounds_toArray, List.set_cons_zero, List.set_cons_succ]
        refine AnyT.take0 (i := 10) (v := ?_) rfl (by kernel_rfl) (by kernel_rfl) (by kernel_rfl) (by decide) (fun _ _ _ h => h) hS (Or.inl ⟨by first | kernel_rfl | rfl, ?_⟩) ?_
        rotate_left
        · rintro w' ⟨b, hw'⟩; obtain ⟨hw1, -⟩ := hw'; (try (obtain ⟨hw1, hw2⟩ := hw1)); (try (obtain ⟨hw2, hw3⟩ := hw2)); (try (obtain ⟨hw3, hw4⟩ := hw3)); go_simp; try with_reducible rfl
        try simp only [Act.put, List.setIfInBounds_toArray, List.set_cons_zero, List.set_cons_succ]
        refine AnyT.take0 (i := 11) (v := ?_) rfl (by kernel_rfl) (by kernel_rfl) (by kernel_rfl) (by decide) (fun _ _ _ h => h) hS (Or.inl ⟨by first | kernel_rfl | rfl, ?_⟩) ?_
        rotate_left
        · intro w' hw'; clear hw'; go_simp; try with_reducible rfl
        try simp only [Act.put, List.setIfInBounds_toArray, List.set_cons_zero, List.set_cons_succ]
        refine AnyT.go (rs := [12]) (by kernel_rfl) (by simp) ?_
        refine AllT.cons rfl (fun K hK => ?_) AllT.nil
        go_simp
        refine (HPW.out wq.drew).mono ?_
        rintro e w5 ⟨rfl, rfl⟩
        refine hK.out _ _ ⟨QQ.out _ (Below.refl wq.heap.size wq).drew, trivial⟩ (fun hS => ?_)
        clear hK
        try simp only [Act.put, List.setIfInBounds_toArray, List.set_cons_zero, List.set_cons_succ]
        refine AnyT.go (rs := [13]) (by kernel_rfl) (by simp) ?_
        refine AllT.cons rfl (fun K hK => ?_) AllT.nil
        go_simp
        refine (HMU.out wq.drew).mono ?_
        rintro e w5 ⟨rfl, rfl⟩
        refine hK.out _ _ ⟨QQ.out _ (Below.refl wq.heap.size wq).drew, trivial⟩ (fun hS => ?_)
        clear hK
        try simp only [Act.put, List.setIfInBounds_toArray, List.set_cons_zero, List.set_cons_succ]
        refine AnyT.go (rs := [14]) (by kernel_rfl) (by simp) ?_
        refine AllT.cons rfl (fun K hK => ?_) AllT.nil
        go_simp
        have HB6 := Lib.hid (show Below wq.heap.size wq (wq.drew.alloc (.cells #[.int .i64 (y * P % 10007)] tI)) from (Below.refl wq.heap.size wq).drew.trans (below1 wq.drew _))
        refine hK.out _ _ ⟨QQ.out _ HB6.out, trivial⟩ (fun hS => ?_)
        clear hK
        try simp only [Act.put, List.setIfInBounds_toArray, List.set_cons_zero, List.set_cons_succ]
        refine AnyT.go (rs := [15]) (by kernel_rfl) (by simp) ?_
        refine AllT.cons rfl (fun K hK => ?_) AllT.nil
        refine step_app1 T_int (W := wq.drew) (u := .int .i64 (y * P % 10007)) (HO.out.below (Below.refl wq.heap.size wq).drew) (by rw [ints_len, HEL.out]; omega) HBQ.out.size rfl (by rfl) rfl (by rfl) (by rfl) ?_
        intro v7 w7 hown7 hgr7
        have HN7 := Lib.hid hown7
        have HB7 := Lib.hid (show Below w.heap.size w w7 from hgr7.below (HBQ.out.drew) HBQ.out.size HO.out.ge)
        have HBC7 := Lib.hid hgr7
        have CL7 := Lib.hid (show w7.cell? ⟨ada.block, ada.off + (i + 1), none⟩ = some (.int .i64 y) ∧ w7.cell? (ad.add i) = some (.slice At tn ct) from ⟨HCX.out w7 HB7.out, by rw [HRQ.out.drew.cell hgr7.1 hlt]; exact HCR.out⟩)
        refine hK.out _ _ ⟨CL7.out, trivial⟩ (fun hS => ?_)
        clear hK hown7 hgr7
        try simp only [Act.put, List.setIfInBounds_toArray, List.set_cons_zero, List.set_cons_succ]
        refine AnyT.take0 (i := 16) (v := ?_) rfl (by kernel_rfl) (by kernel_rfl) (by kernel_rfl) (by decide) (fun _ _ _ h => h) hS (Or.inl ⟨by first | kernel_rfl | rfl, ?_⟩) ?_
        rotate_left
        · intro w' hw'; clear hw'; go_simp; try with_reducible rfl
        try simp only [Act.put, List.setIfInBounds_toArray, List.set_cons_zero, List.set_cons_succ]
        clear hS
        refine AnyT.done (by kernel_rfl) ?_ _
        go_wp2_with fail
        go_roundw
        case rel =>
          refine ⟨i + 1, by omega, by go_num, ?_, HB7.out, ?_⟩
          · rw [HTS.out]; exact HN7.out
          · exact Lib.hid (HRQ.out.drew.step HBC7.out)
        case measure => simp [intOf]; omega
      · have hil : i + 1 = (scZ a k).length := by rw [HSZ.out]; omega
        have HFF := Lib.hid (show (scZ a k).take (i + 1) = scZ a k from by rw [hil]; exact List.take_length)
        clear hil
        go_wp2_with fail
        go_ret
        refine ⟨_, rfl, ⟨?_, fun z hz => in64_num (scZ_nums a k z hz)⟩, HBQ.out⟩
        have h := HO.out
        rw [HFF.out] at h
        exact h
end Go.Proofs.YtdjhfeaimmpmhaaGreat

