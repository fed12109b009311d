/- Plain: the free conditions by places; reduced order. No walk. | Walks: ReducedOrder, FreeNumbersOf of the program. | Walk: l07Scale of the reference. -/
import Derived.Test.YtdjhfeaimmpmhaaGreatZh25
import Derived.Test.YtdjhfeaimmpmhaaGreatZh27
import Derived.Test.YtdjhfeaimmpmhaaGreatZh12
import Derived.Test.YtdjhfeaimmpmhaaGreatZh23
import Derived.Test.YtdjhfeaimmpmhaaGreatZh13
import Derived.Test.YtdjhfeaimmpmhaaGreatZh2
import Derived.Test.YtdjhfeaimmpmhaaGreatZh20
import Derived.Test.YtdjhfeaimmpmhaaGreatZh6
import Derived.Test.YtdjhfeaimmpmhaaGreatZh19
import Derived.Deep.CutRange
import Derived.Deep.CutBlock
import Derived.Deep.DeepCutAuto
set_option maxRecDepth 100000
set_option linter.unusedVariables false
set_option linter.unusedSimpArgs false
namespace Go.Proofs.YtdjhfeaimmpmhaaGreat
open Go.RowKit

/-- the free conditions with at most six nodes -/
def CD : List (List Nat) := [[0], [0, 1, 2], [0, 1, 2, 2], [0, 1, 2, 3, 4], [0, 1, 2, 3, 3], [0, 1, 2, 2, 2], [0, 1, 2, 3, 4, 4], [0, 1, 2, 3, 4, 3], [0, 1, 2, 3, 3, 3], [0, 1, 2, 2, 2, 2]]
theorem CD_eq : allG cndN 6 = CD := eqLL_eq (by decide +kernel)
def okCd (t : List Nat) : Bool := Nat.beq (fndN T6n t) (idxN T6n t) && (Nat.ble 1 (idxN T6n t) && (Nat.ble (idxN T6n t) 37 && (eqN (T6n.getD (idxN T6n t - 1) []) t && (Nat.ble t.length 6 && Nat.ble 1 t.length && t.all fun l => Nat.ble l 6))))
theorem okCd_all : CD.all okCd = true := by decide +kernel
theorem CD_at {t : List Nat} (h : t ∈ CD) : ∃ p : Nat, idxN T6n t = p + 1 ∧ fndN T6n t = p + 1 ∧ p < 37 ∧ T6n[p]? = some t ∧ t.length ≤ 6 ∧ 1 ≤ t.length ∧ (∀ l ∈ t, l ≤ 6) := by
  have h1 := okCd_all
  rw [List.all_eq_true] at h1
  have h2 := h1 t h
  unfold okCd at h2
  simp only [Bool.and_eq_true, List.all_eq_true] at h2
  obtain ⟨a1, a2, a3, a4, ⟨a5, a7⟩, a6⟩ := h2
  have b1 := Nat.eq_of_beq_eq_true a1
  have b2 := Nat.le_of_ble_eq_true a2
  have b3 := Nat.le_of_ble_eq_true a3
  refine ⟨idxN T6n t - 1, by omega, by omega, by omega, ?_, Nat.le_of_ble_eq_true a5, Nat.le_of_ble_eq_true a7, fun l hl => Nat.le_of_ble_eq_true (a6 l hl)⟩
  have e := eqN_iff.1 a4
  have hlt : idxN T6n t - 1 < T6n.length := by rw [T6n_len]; omega
  rw [List.getD_eq_getElem?_getD, List.getElem?_eq_getElem hlt] at e
  rw [List.getElem?_eq_getElem hlt]
  simpa using e
/-- the value at a condition -/
def cdV (a : List Int) (t : List Nat) : Int := a.getD (idxN T6n t) 0
noncomputable def fnoR (b : List Int) : List Int := if infC b = 0 then (if toV b 0 < 6 then [] else CD.map (cdV b)) else []
noncomputable def fnoC (b : List Int) : Int := if infC b = 0 then (if toV b 0 < 6 then 5 else 0) else infC b
theorem cdV_nums {b : List Int} (h : Nums b) (hl : b.length = 38) {t : List Nat} (ht : t ∈ CD) : 0 ≤ cdV b t ∧ cdV b t ≤ 10006 := by
  obtain ⟨p, hp, -, hp7, -⟩ := CD_at ht
  unfold cdV
  rw [hp, List.getD_eq_getElem?_getD, List.getElem?_eq_getElem (by omega)]
  exact h _ (List.getElem_mem _)
/-- a row of the conditions -/
theorem Rows.cond {w : World} {A : Option Addr} {c : Nat} (h : Rows w (.slice A 10 c) (CD.map up)) {i : Nat} (hi : i < 10) :
    ∃ ad At ct t, A = some ad ∧ CD[i]? = some t ∧ Ints w (.slice At t.length ct) (up t) ∧ w.cell? (ad.add i) = some (.slice At t.length ct) := by
  obtain ⟨A', c', he, -, -, h3⟩ := h.open_
  rw [List.length_map, show CD.length = 10 from rfl] at he h3
  simp only [Value.slice.injEq, true_and] at he
  obtain ⟨rfl, rfl⟩ := he
  obtain ⟨ad, u, zs, rfl, hz, hu, hc⟩ := h3 i hi
  have ht : CD[i]? = some (CD[i]'(by exact hi)) := List.getElem?_eq_getElem _
  rw [List.getElem?_map, ht] at hz
  injection hz with hz
  subst hz
  obtain ⟨Au, cu, rfl, -, -, -⟩ := hu.open_
  rw [up_len] at hu hc
  exact ⟨ad, Au, cu, _, rfl, ht, hu, hc⟩
end Go.Proofs.YtdjhfeaimmpmhaaGreat

set_option maxRecDepth 100000
set_option linter.unusedVariables false
set_option linter.unusedSimpArgs false
namespace Go.Proofs.YtdjhfeaimmpmhaaGreat
open Go.RowKit

theorem LA.keptLt' {w w' : World} {B g : Nat} {v : Value} {xss : List (List Int)} (h : LA w B v xss) (hg : w.grownBy w' (some g)) (hlt : g < B) : LA w' B v xss := by
  obtain ⟨vs, h1, h2, h3⟩ := h
  have ne : ∀ u : Value, (∀ b, u.ownBlock = some b → B ≤ b) → u.ownBlock = none ∨ u.ownBlock ≠ some g := fun u hu => by
    cases hb : u.ownBlock with
    | none => exact .inl rfl
    | some b => exact .inr fun e => by injection e with e; have := hu b hb; omega
  exact ⟨vs, h1.kept hg (ne v h1.ge), ⟨h2.1, fun k u zs hu hz => ⟨(h2.2 k u zs hu hz).1.kept hg (ne u (h2.2 k u zs hu hz).1.ge), (h2.2 k u zs hu hz).2⟩⟩, h3⟩

set_option maxHeartbeats 8000000 in
theorem i_FreeNumbersOf (w : World) (v : Value) (a : List Int) (ha : Ints w v a) :
    Calls Tryz.prog 14 #[v] w fun e w' => ∃ x, e = .returned (.tuple #[x, .int .i64 (fnoC a)]) ∧ OwnInts w' w.heap.size tI x (fnoR a) ∧ Below w.heap.size w w' := by
  have HA := Lib.hid ha
  have HCH := Lib.hid (i_checkInf1 w v a ha)
  obtain ⟨A, c, rfl, -, -, -⟩ := ha.open_
  clear ha
  by_cases hc : infC a = 0
  · rw [hc] at HCH
    obtain ⟨hm, ha0⟩ := inf_of hc
    have hmt := mapB_true hm
    have hl := hmt.1
    have HN := Lib.hid (show Nums a from hmt.2)
    have HL := Lib.hid hl
    rw [hl] at HA HCH ⊢
    have HC := Lib.hid hc
    clear hc hm ha0 hmt hl
    go_enter Tryz.func14, Tryz.ntmps14
    by_cases h6 : toV a 0 < 6
    · have hd6 : decide (((toV a 0 : Nat) : Int) < 6) = true := decide_eq_true (by omega)
      have hi6 : ((toV a 0 : Nat) : Int) < 6 := by omega
      have HR := Lib.hid (show fnoR a = [] from by rw [fnoR, if_pos HC.out, if_pos h6])
      have HCC := Lib.hid (show fnoC a = 5 from by rw [fnoC, if_pos HC.out, if_pos h6])
      clear h6
      go_wp2_with (first
        | (go_at_call 63; refine HCH.out.mono ?_; rintro e w0 ⟨rfl, hb0⟩; have HB0 := Lib.hid hb0; clear hb0)
        | (go_at_call 65; go_loud (refine (i_newForms _).mono ?_; rintro e w1 ⟨f, rfl, hf, hb1⟩; obtain ⟨Af, cf, Ay, my, cy, rfl, hrf⟩ := hf.opens'; have HRF := Lib.hid hrf; have HB1 := Lib.hid (HB0.out.trans (hb1.mono HB0.out.size)); clear hf hrf hb1))
        | (go_at_call 64; go_loud (refine (i_hamiltonianTo _ _ _ Ay my cy a (HRF.out.below (below1 w1 _)) ((HA.out.below HB1.out).below (below1 w1 _)) HL.out HN.out).mono ?_; rintro e w2 ⟨rfl, hb2⟩; have HB2 := Lib.hid (((HB1.out.trans ((below1 w1 _).mono HB1.out.size))).trans (hb2.mono (by have := HB1.out.size; simp; omega))); clear hb2)))
      go_ret2
      rw [HR.out, HCC.out]
      exact ⟨_, rfl, OwnInts.nil _ _ _, HB2.out⟩
    · have hd6 : decide (((toV a 0 : Nat) : Int) < 6) = false := decide_eq_false (by omega)
      have hi6 : ¬ ((toV a 0 : Nat) : Int) < 6 := by omega
      have HR := Lib.hid (show fnoR a = CD.map (cdV a) from by rw [fnoR, if_pos HC.out, if_neg h6])
      have HCC := Lib.hid (show fnoC a = 0 from by rw [fnoC, if_pos HC.out, if_neg h6])
      clear h6
      go_wp2_with (first
        | (go_at_call 63; refine HCH.out.mono ?_; rintro e w0 ⟨rfl, hb0⟩; have HB0 := Lib.hid hb0; clear hb0)
        | (go_at_call 65; go_loud (refine (i_newForms _).mono ?_; rintro e w1 ⟨f, rfl, hf, hb1⟩; obtain ⟨Af, cf, Ay, my, cy, rfl, hrf⟩ := hf.opens'; have HRF := Lib.hid hrf; have HB1 := Lib.hid (HB0.out.trans (hb1.mono HB0.out.size)); clear hf hrf hb1))
        | (go_at_call 64; go_loud (refine (i_hamiltonianTo _ _ _ Ay my cy a (HRF.out.below (below1 w1 _)) ((HA.out.below HB1.out).below (below1 w1 _)) HL.out HN.out).mono ?_; rintro e w2 ⟨rfl, hb2⟩; have HKF := Lib.hid ((Blk.new w1 #[.slice Af 37 cf, .slice Ay my cy] tFo).below hb2 (by simp)); have HB12 := Lib.hid ((below1 w1 (.cells #[.slice Af 37 cf, .slice Ay my cy] tFo)).trans (hb2.mono (by simp))); have HB2 := Lib.hid (HB1.out.trans (((below1 w1 (.cells #[.slice Af 37 cf, .slice Ay my cy] tFo)).trans (hb2.mono (by simp))).mono HB1.out.size)); clear hb2))
        | (go_at_call 55; go_loud (refine (i_allConditions _).mono ?_; rintro e w3 ⟨x3, rfl, hl3, hb3⟩; rw [CD_eq] at hl3; obtain ⟨A3, c3, he3, -, -, -⟩ := hl3.rows.open_; rw [List.length_map, show CD.length = 10 from rfl] at he3; subst he3; have HL3 := Lib.hid (show LA w3 (w2.heap.size + 1) _ (CD.map up) from by rw [size_alloc'] at hl3; exact hl3); have HB3 := Lib.hid hb3; clear hl3 hb3)))
      have OL := Lib.hid (show Own w3 w2.heap.size tI (.slice (some ⟨w2.heap.size, 0, none⟩) 0 0) (ints ((CD.take 0).map (cdV a))) from (own_lit w2 tI [] (by simp [maxLen])).below HB3.out)
      have HB23 := Lib.hid (show Below w2.heap.size w2 w3 from (below1 w2 _).trans (HB3.out.mono (by simp)))
      have HRW := Lib.hid (HRF.out.below HB12.out)
      have HAW := Lib.hid (HA.out.below HB2.out)
      clear HB3
      go_loopw [6, 22] (fun o x wr => ∃ k : Nat, k ≤ 10 ∧ x = .int .i64 k ∧ Own wr w2.heap.size tI o (ints ((CD.take k).map (cdV a))) ∧ Grow w3 wr (.slice (some ⟨w2.heap.size, 0, none⟩) 0 0) o) (fun _ x _ => 10 - (intOf x).toNat)
      case atStart => exact ⟨0, Nat.zero_le _, rfl, OL.out, Grow.refl _ _⟩
      case round =>
        obtain ⟨k, hk, rfl, ho, hg⟩ := hrel
        have hel : ((CD.take k).map (cdV a)).length = k := by rw [List.length_map, List.length_take]; show min k 10 = k; omega
        have hol := ho.cells.open_
        rw [ints_len, hel] at hol
        obtain ⟨Ao, co, rfl, -, -⟩ := hol
        have HEL := Lib.hid hel
        have HO := Lib.hid ho
        have HG := Lib.hid hg
        have HBK := Lib.hid (show Below w2.heap.size w2 wr from hg.below HB23.out HB23.out.size OL.out.ge)
        have HLK := Lib.hid ((HL3.out.keptLt' hg.1 (Nat.lt_succ_self _)).rows)
        clear ho hg hel
        by_cases hlt : k < 10
        · obtain ⟨ad, At, ct, t, rfl, ht, hti, hcr⟩ := HLK.out.cond hlt
          obtain ⟨p, hp1, -, hp7, hpt, ht6, ht1, htl⟩ := CD_at (List.mem_of_getElem? ht)
          obtain ⟨a1, he, hcx, hx0, hx1⟩ := map_cell (HAW.out.below HBK.out) HN.out (k := p + 1) (by omega)
          subst he
          have hcv : cdV a t = a.getD (p + 1) 0 := by unfold cdV; rw [hp1]
          obtain ⟨p1, hep⟩ : ∃ p1 : Nat, p1 = p + 1 := ⟨_, rfl⟩
          rw [← hcv, ← hep] at hcx
          have HTS := Lib.hid (show ints ((CD.take (k + 1)).map (cdV a)) = ints ((CD.take k).map (cdV a)) ++ [.int .i64 (cdV a t)] from by rw [List.take_add_one, ht, List.map_append, ints, ints, List.map_append]; rfl)
          generalize cdV a t = z at hcx HTS
          have hpl : (p1 : Int) < 38 := by omega
          have hpl2 : p1 < 38 := by omega
          have hbk := HKF.out.below HBK.out HKF.out.lt
          have hf0 : wr.cell? ⟨w1.heap.size, 0, none⟩ = some (.slice Af 37 cf) := hbk.cell 0
          have hf1 : wr.cell? ⟨w1.heap.size, 1, none⟩ = some (.slice Ay my cy) := hbk.cell 1
          have HPL := Lib.hid (show Calls Tryz.prog 66 #[.agg #[.slice Af 37 cf, .slice Ay my cy], .slice At t.length ct] wr (fun e w' => e = .returned (.int .i64 (p1 : Nat)) ∧ Below wr.heap.size wr w') from (i_place wr _ _ Ay my cy T6n t (HRW.out.below HBK.out) hti (by rw [T6n_len]; omega)).mono (by rintro e w7 ⟨rfl, hw7⟩; exact ⟨by rw [hp1, hep], by rw [hw7]; exact below1 _ _⟩))
          have HCX := Lib.hid hcx
          have hkk : (k : Int) < 10 := by omega
          clear ht hp1 hp7 hpt htl hep hti hcx hcv hbk
          go_wp2_with (first
            | (go_at_call 66; go_loud (refine HPL.out.mono ?_; rintro e w6 ⟨rfl, hb6⟩; have HB6 := Lib.hid hb6; have hcx := keepCell hb6 HCX.out; have HOX := Lib.hid (HO.out.below hb6); clear hb6))
            | (at_builtin; go_loud (refine wpList_app1 T_int HOX.out (by rw [ints_len, HEL.out]; omega) (Nat.le_trans HBK.out.size HB6.out.size) (by rfl) rfl (by rfl) (by rfl) (by rfl) ?_; intro v1 w7 hown1 hgr1; have HNN := Lib.hid hown1; have HGR := Lib.hid hgr1; clear hown1 hgr1)))
          go_roundw
          case rel =>
            refine ⟨k + 1, by omega, by go_num, ?_, HG.out.trans (Grow.pre HB6.out HGR.out)⟩
            rw [HTS.out]; exact HNN.out
          case measure => simp [intOf]; omega
        · have hkl : k = 10 := by omega
          have HTK := Lib.hid (show CD.take k = CD from List.take_of_length_le (by rw [hkl]; exact Nat.le_refl _))
          clear hkl
          go_wp2_with fail
          go_ret2
          rw [HR.out, HCC.out]
          have h := HO.out
          rw [HTK.out] at h
          refine ⟨_, rfl, ⟨h.mono HB2.out.size, fun z hz => ?_⟩, HB2.out.trans (HBK.out.mono HB2.out.size)⟩
          obtain ⟨t, ht, rfl⟩ := List.mem_map.1 hz
          exact in64_num (cdV_nums HN.out HL.out ht)
  · have HR := Lib.hid (show fnoR a = [] from by rw [fnoR, if_neg hc])
    have HCC := Lib.hid (show fnoC a = infC a from by rw [fnoC, if_neg hc])
    have hd : (infC a != 0) = true := by simp [hc]
    rw [HR.out, HCC.out]
    generalize infC a = cc at *
    clear hc HR HCC
    go_enter Tryz.func14, Tryz.ntmps14
    go_wp2_with (go_at_call 63; refine HCH.out.mono ?_; rintro e w0 ⟨rfl, hb0⟩; have HB0 := Lib.hid hb0; clear hb0)
    go_ret2
    exact ⟨_, rfl, OwnInts.nil _ _ _, HB0.out⟩
end Go.Proofs.YtdjhfeaimmpmhaaGreat

set_option maxRecDepth 100000
set_option linter.unusedVariables false
set_option linter.unusedSimpArgs false
namespace Go.Proofs.YtdjhfeaimmpmhaaGreat
open Go.RowKit

/-- rows that no growth of a slice's own block touches -/
def APR (w : World) (o x : Value) : Prop := ∃ vs, ∀ W', w.grownBy W' o.ownBlock → Cells W' x vs ∧ Rows W' x (T6n.map up)
theorem APR.rows {w : World} {o x : Value} (h : APR w o x) : Rows w x (T6n.map up) := by
  obtain ⟨vs, h⟩ := h
  exact (h w (World.grownBy.refl _ _)).2
theorem APR.step {w w' : World} {o o' x : Value} (h : APR w o x) (hg : Grow w w' o o') : APR w' o' x := by
  obtain ⟨vs, h⟩ := h
  refine ⟨vs, fun W hW => ?_⟩
  have g1 := hg.1
  refine h W ⟨hW.os.trans g1.os, hW.tape.trans g1.tape, hW.output.trans g1.output, Nat.le_trans g1.size hW.size, fun k hk hne => ?_⟩
  have e1 := g1.block k hk hne
  have e2 := hW.block k (Nat.lt_of_lt_of_le hk g1.size) (fun e => by
    rcases hg.2 with h2 | ⟨g, h2, h3⟩
    · exact hne (h2 ▸ e)
    · rw [h2] at e; injection e with e; omega)
  exact e2.trans e1
theorem APR.drew {w : World} {o x : Value} (h : APR w o x) : APR w.drew o x := by
  obtain ⟨vs, h⟩ := h
  exact ⟨vs, fun W hW => h { w with heap := W.heap } ⟨rfl, rfl, rfl, hW.size, hW.block⟩⟩
theorem APR.cell {w W : World} {o : Value} {ad : Addr} {c i : Nat} (h : APR w o (.slice (some ad) 37 c)) (hg : w.grownBy W o.ownBlock) (hi : i < 37) : W.cell? (ad.add i) = w.cell? (ad.add i) := by
  obtain ⟨vs, h⟩ := h
  have h1 := (h w (World.grownBy.refl _ _)).1
  have h2 := (h W hg).1
  obtain ⟨A, c', e, -, -⟩ := h1.open_
  simp only [Value.slice.injEq] at e
  obtain ⟨u, hv⟩ : ∃ u, vs[i]? = some u := ⟨_, List.getElem?_eq_getElem (by omega)⟩
  obtain ⟨a1, n1, c1, e1, k1⟩ := h1.at_ hv
  obtain ⟨a2, n2, c2, e2, k2⟩ := h2.at_ hv
  simp only [Value.slice.injEq, Option.some.injEq] at e1 e2
  rw [← e1.1] at k1
  rw [← e2.1] at k2
  rw [k1, k2]
theorem APR.after {w3 : World} {B : Nat} {x : Value} (h : LA w3 B x (T6n.map up)) (v : Value) (t : TypeId) : APR (w3.alloc (.cells #[v] t)) (.slice (some ⟨w3.heap.size, 0, none⟩) 1 1) x := by
  have h0 := h
  obtain ⟨vs, h1, -, -⟩ := h0
  refine ⟨vs, fun W hW => ?_⟩
  have hb : Below w3.heap.size w3 W := (below1 w3 (.cells #[v] t)).grown hW (by simp) (fun b hb => by simp [Value.ownBlock] at hb; omega)
  exact ⟨(h1.below hb).cells, (h.below hb).rows⟩
theorem APR.before {w3 : World} {B g : Nat} {x : Value} (h : LA w3 B x (T6n.map up)) (hg : g < B) : APR w3 (.slice (some ⟨g, 0, none⟩) 1 1) x := by
  have h0 := h
  obtain ⟨vs, h1, -, -⟩ := h0
  refine ⟨vs, fun W hW => ⟨(h1.kept hW ?_).cells, (h.keptLt' hW hg).rows⟩⟩
  cases hb : x.ownBlock with
  | none => exact .inl rfl
  | some b => exact .inr fun e => by injection e with e; have := h1.ge b hb; have e : b = g := e; omega
set_option maxHeartbeats 8000000 in
theorem s_l07Scale (w : World) (va : Value) (a : List Int) (k : Int) (h1 : Ints w va a) (l1 : a.length = 38) (hN1 : Nums a) (hk0 : 0 ≤ k) (hk1 : k ≤ 10006) :
    Calls Tryz.prog 139 #[va, .int .i64 k] w fun e w' => ∃ x, e = .returned x ∧ OwnInts w' w.heap.size tI x (scZ a k) ∧ Below w.heap.size w w' := by
  obtain ⟨Aa, ca, rfl, -, -, -⟩ := h1.open_
  rw [l1] at h1 ⊢
  obtain ⟨ada, rfl, hc0, hy0, hy1⟩ := map_cell h1 hN1 (k := 0) (by omega)
  have HS0 := Lib.hid (show ints ((scZ a k).take 1) = [.int .i64 (a.getD 0 0)] from by
    have h := scZ_step a k (i := 0) (by omega)
    rw [h, szN_zero, show pw k 0 = 1 from by simp [pw], Int.mul_one, show a.getD 0 0 % 10007 = a.getD 0 0 from by omega]
    rfl)
  obtain ⟨y0, hy0'⟩ : ∃ y0, y0 = a.getD 0 0 := ⟨_, rfl⟩
  rw [← hy0'] at hc0 HS0
  have hc0' : w.cell? ada = some (.int .i64 y0) := by simpa [Addr.add] using hc0
  have HC0 := Lib.hid hc0'
  have HA := Lib.hid h1
  have HNA := Lib.hid hN1
  have HSZ := Lib.hid (scZ_len a k)
  clear hy0' hy0 hy1 hc0 h1 hN1 l1
  go_enter Tryz.func139, Tryz.ntmps139
  go_upto_region 1 with fail
  go_cut [5, 6] (fun x o wx => ∃ A c, x = .slice A 37 c ∧ APR wx o (.slice A 37 c) ∧ Own wx w.heap.size tI o (ints ((scZ a k).take 1)) ∧ Below w.heap.size w wx)
  case first =>
    go_region_law ((go_simp; go_at_call 70; refine (s_l03All _ 6 (by omega)).mono ?_; rintro e w3 ⟨x3, rfl, hx3, hb3⟩; rw [show allG treesN 6 = T6n from rfl] at hx3; obtain ⟨A3, c3, he3, -, -, -⟩ := hx3.rows.open_; rw [List.length_map, T6n_len] at he3; subst he3; have HX3 := Lib.hid hx3; have HB3 := Lib.hid hb3; have hk3 : w3.cell? ada = some (.int .i64 y0) := keepCell (by first | exact below_of_drew hb3 | exact (below1 w _).trans ((below_of_drew hb3).mono (by simp))) HC0.out; clear hx3 hb3))
    all_goals
      go_wp2_with fail
      go_meet
    all_goals first
      | exact ⟨_, _, rfl, APR.after HX3.out _ _, by rw [HS0.out]; exact (own_lit w3 tI [.int .i64 y0] (by simp [maxLen])).mono (below_of_drew HB3.out).size, (below_of_drew HB3.out).alloc (below_of_drew HB3.out).size _⟩
      | exact ⟨_, _, rfl, APR.before HX3.out (by simp), by rw [HS0.out]; exact (own_lit w tI [.int .i64 y0] (by simp [maxLen])).below (below_of_drew HB3.out), (below1 w _).trans ((below_of_drew HB3.out).mono (by simp))⟩
  case rest =>
    obtain ⟨A, c, rfl, hr, ho, hb⟩ := hcut
    have HR := Lib.hid hr
    have OL := Lib.hid ho
    have OB := Lib.hid hb
    clear hr ho hb hc0'
    go_wp2_with fail
    go_loopw [6, 7] (fun o x wr => ∃ i : Nat, i ≤ 37 ∧ x = .int .i64 i ∧ Own wr w.heap.size tI o (ints ((scZ a k).take (i + 1))) ∧ Below w.heap.size w wr ∧ Hid (APR wr o (.slice A 37 c))) (fun _ x _ => 37 - (intOf x).toNat)
    case atStart => exact ⟨0, Nat.zero_le _, rfl, OL.out, OB.out, HR⟩
    case round =>
      obtain ⟨i, hi, rfl, ho, hb, HRQ⟩ := hrel
      rename World => wq
      clear OL OB HR
      have hel : ((scZ a k).take (i + 1)).length = i + 1 := by rw [List.length_take, HSZ.out]; omega
      have hol := ho.cells.open_
      rw [ints_len, hel] at hol
      obtain ⟨Ao, co, rfl, -, -⟩ := hol
      have HEL := Lib.hid hel
      have HO := Lib.hid ho
      have HBQ := Lib.hid hb
      clear ho hel
      by_cases hlt : i < 37
      · obtain ⟨ad, At, ct, t, rfl, ht, hti, hcr⟩ := HRQ.out.rows.tree hlt
        obtain ⟨_, he, hcx, hx0, hx1⟩ := map_cell (HA.out.below hb) HNA.out (k := i + 1) (by omega)
        simp only [Option.some.injEq] at he
        subst he
        have hcx : wq.cell? ⟨ada.block, ada.off + (i + 1), none⟩ = some (.int .i64 (a.getD (i + 1) 0)) := by simpa [Addr.add] using hcx
        have HTS := Lib.hid (scZ_step a k (i := i + 1) (by omega))
        rw [szN_succ ht] at HTS
        have hsz : t.length ≤ 6 := (T6n_at (List.mem_of_getElem? ht)).2.2.1
        have hpb := pw_bd k t.length
        have HPW := Lib.hid (fun W => show Calls Tryz.prog 186 #[.int .i64 k, .int .i64 (t.length : Nat)] W fun e w' => e = .returned (.int .i64 (pw k t.length)) ∧ W = w' from by
          have h := s_l01Pow k (t.length : Nat) W hk0 (by omega) (by omega) (by omega)
          rwa [Int.toNat_natCast] at h)
        obtain ⟨P, hP⟩ : ∃ P, P = pw k t.length := ⟨_, rfl⟩
        rw [← hP] at hpb HPW HTS
        have HCX := Lib.hid (show ∀ W', Below w.heap.size w W' → W'.cell? ⟨ada.block, ada.off + (i + 1), none⟩ = some (.int .i64 (a.getD (i + 1) 0)) from fun W' hW => by
          obtain ⟨_, he, h1, -, -⟩ := map_cell (HA.out.below hW) HNA.out (k := i + 1) (by omega)
          simp only [Option.some.injEq] at he
          subst he
          simpa [Addr.add] using h1)
        generalize a.getD (i + 1) 0 = y at *
        have HMU := Lib.hid (fun W => s_l01Mul y P W hx0 (by omega) hpb.1 (by omega))
        generalize t.length = tn at *
        have QQ := Lib.hid (show ∀ W', Below wq.heap.size wq W' → W'.cell? ⟨ada.block, ada.off + (i + 1), none⟩ = some (.int .i64 y) ∧ W'.cell? (ad.add i) = some (.slice At tn ct) from fun W' h => ⟨keepCell h hcx, keepCell h hcr⟩)
        have HCR := Lib.hid hcr
        have hii : (i : Int) < 37 := by omega
        have hi1 : (i : Int) + 1 < 38 := by omega
        clear hb hP ht hti hcx hcr
        go_upto_region 5 with fail
        have hwr : IntKind.i64.wrap ((i : Int) + 1) = (i : Int) + 1 := IntWalk.i64_in _ (by omega)
        have htn1 : ((i : Int) + 1).toNat = i + 1 := by omega
        have hin0 : (0 : Int) ≤ (i : Int) + 1 := by omega
        refine AnyT.begin (k := 15) (S := fun b w' => (w'.cell? ⟨ada.block, ada.off + (i + 1), none⟩ = some (.int .i64 y) ∧ w'.cell? (ad.add i) = some (.slice At tn ct)) ∧ True) (by kernel_rfl) ?_
        have hS : (fun (b : Bool) (w' : World) => (w'.cell? ⟨ada.block, ada.off + (i + 1), none⟩ = some (.int .i64 y) ∧ w'.cell? (ad.add i) = some (.slice At tn ct)) ∧ True) false wq.drew := ⟨QQ.out _ (Below.refl wq.heap.size wq).drew, trivial⟩
        refine AnyT.take0 (i := 0) (v := ?_) rfl (by kernel_rfl) (by kernel_rfl) (by kernel_rfl) (by decide) (fun _ _ _ h => h) hS (Or.inl ⟨by first | kernel_rfl | rfl, ?_⟩) ?_
        rotate_left
        · intro w' hw'; clear hw'; go_simp; try with_reducible rfl
        try simp only [Act.put, List.setIfInBounds_toArray, List.set_cons_zero, List.set_cons_succ]
        refine AnyT.take0 (i := 1) (v := ?_) rfl (by kernel_rfl) (by kernel_rfl) (by kernel_rfl) (by decide) (fun _ _ _ h => h) hS (Or.inl ⟨by first | kernel_rfl | rfl, ?_⟩) ?_
        rotate_left
        · intro w' hw'; clear hw'; go_simp; try with_reducible rfl
        try simp only [Act.put, List.setIfInBounds_toArray, List.set_cons_zero, List.set_cons_succ]
        refine AnyT.take0 (i := 2) (v := ?_) rfl (by kernel_rfl) (by kernel_rfl) (by kernel_rfl) (by decide) (fun _ _ _ h => h) hS (Or.inl ⟨by first | kernel_rfl | rfl, ?_⟩) ?_
        rotate_left
        · intro w' hw'; clear hw'; go_simp; try with_reducible rfl
        try simp only [Act.put, List.setIfInBounds_toArray, List.set_cons_zero, List.set_cons_succ]
        refine AnyT.take0 (i := 3) (v := ?_) rfl (by kernel_rfl) (by kernel_rfl) (by kernel_rfl) (by decide) (fun _ _ _ h => h) hS (Or.inl ⟨by first | kernel_rfl | rfl, ?_⟩) ?_
        rotate_left
        · intro w' hw'; clear hw'; go_simp; try with_reducible rfl
        try simp only [Act.put, List.setIfInBounds_toArray, List.set_cons_zero, List.set_cons_succ]
        refine AnyT.take0 (i := 4) (v := ?_) rfl (by kernel_rfl) (by kernel_rfl) (by kernel_rfl) (by decide) (fun _ _ _ h => h) hS (Or.inl ⟨by first | kernel_rfl | rfl, ?_⟩) ?_
        rotate_left
        · intro w' hw'; clear hw'; go_simp; try with_reducible rfl
        try simp only [Act.put, List.setIfInBounds_toArray, List.set_cons_zero, List.set_cons_succ]
        refine AnyT.take0 (i := 5) (v := ?_) rfl (by kernel_rfl) (by kernel_rfl) (by kernel_rfl) (by decide) (fun _ _ _ h => h) hS (Or.inl ⟨by first | kernel_rfl | rfl, ?_⟩) ?_
        rotate_left
        · rintro w' ⟨b, hw'⟩; obtain ⟨hw1, -⟩ := hw'; (try (obtain ⟨hw1, hw2⟩ := hw1)); (try (obtain ⟨hw2, hw3⟩ := hw2)); (try (obtain ⟨hw3, hw4⟩ := hw3)); go_simp; try with_reducible rfl
        try simp only [Act.put, List.setIfInBounds_toArray, List.set_cons_zero, List.set_cons_succ]
        refine AnyT.take0 (i := 6) (v := ?_) rfl (by kernel_rfl) (by kernel_rfl) (by kernel_rfl) (by decide) (fun _ _ _ h => h) hS (Or.inl ⟨by first | kernel_rfl | rfl, ?_⟩) ?_
        rotate_left
        · intro w' hw'; clear hw'; go_simp; try with_reducible rfl
        try simp only [Act.put, List.setIfInBounds_toArray, List.set_cons_zero, List.set_cons_succ]
        refine AnyT.take0 (i := 7) (v := ?_) rfl (by kernel_rfl) (by kernel_rfl) (by kernel_rfl) (by decide) (fun _ _ _ h => h) hS (Or.inl ⟨by first | kernel_rfl | rfl, ?_⟩) ?_
        rotate_left
        · intro w' hw'; clear hw'; go_simp; try with_reducible rfl
        try simp only [Act.put, List.setIfInBounds_toArray, List.set_cons_zero, List.set_cons_succ]
        refine AnyT.take0 (i := 8) (v := ?_) rfl (by kernel_rfl) (by kernel_rfl) (by kernel_rfl) (by decide) (fun _ _ _ h => h) hS (Or.inl ⟨by first | kernel_rfl | rfl, ?_⟩) ?_
        rotate_left
        · intro w' hw'; clear hw'; go_simp; try with_reducible rfl
        try simp only [Act.put, List.setIfInBounds_toArray, List.set_cons_zero, List.set_cons_succ]
        refine AnyT.take0 (i := 9) (v := ?_) rfl (by kernel_rfl) (by kernel_rfl) (by kernel_rfl) (by decide) (fun _ _ _ h => h) hS (Or.inl ⟨by first | kernel_rfl | rfl, ?_⟩) ?_
        rotate_left
        · intro w' hw'; clear hw'; go_simp; try with_reducible rfl
        try simp only [Act.put, List.setIfInBounds_toArray, List.set_cons_zero, List.set_cons_succ]
        refine AnyT.take0 (i := 10) (v := ?_) rfl (by kernel_rfl) (by kernel_rfl) (by kernel_rfl) (by decide) (fun _ _ _ h => h) hS (Or.inl ⟨by first | kernel_rfl | rfl, ?_⟩) ?_
        rotate_left
        · rintro w' ⟨b, hw'⟩; obtain ⟨hw1, -⟩ := hw'; (try (obtain ⟨hw1, hw2⟩ := hw1)); (try (obtain ⟨hw2, hw3⟩ := hw2)); (try (obtain ⟨hw3, hw4⟩ := hw3)); go_simp; try with_reducible rfl
        try simp only [Act.put, List.setIfInBounds_toArray, List.set_cons_zero, List.set_cons_succ]
        refine AnyT.take0 (i := 11) (v := ?_) rfl (by kernel_rfl) (by kernel_rfl) (by kernel_rfl) (by decide) (fun _ _ _ h => h) hS (Or.inl ⟨by first | kernel_rfl | rfl, ?_⟩) ?_
        rotate_left
        · intro w' hw'; clear hw'; go_simp; try with_reducible rfl
        try simp only [Act.put, List.setIfInBounds_toArray, List.set_cons_zero, List.set_cons_succ]
        refine AnyT.go (rs := [12]) (by kernel_rfl) (by simp) ?_
        refine AllT.cons rfl (fun K hK => ?_) AllT.nil
        go_simp
        refine (HPW.out wq.drew).mono ?_
        rintro e w5 ⟨rfl, rfl⟩
        refine hK.out _ _ ⟨QQ.out _ (Below.refl wq.heap.size wq).drew, trivial⟩ (fun hS => ?_)
        clear hK
        try simp only [Act.put, List.setIfInBounds_toArray, List.set_cons_zero, List.set_cons_succ]
        refine AnyT.go (rs := [13]) (by kernel_rfl) (by simp) ?_
        refine AllT.cons rfl (fun K hK => ?_) AllT.nil
        go_simp
        refine (HMU.out wq.drew).mono ?_
        rintro e w5 ⟨rfl, rfl⟩
        refine hK.out _ _ ⟨QQ.out _ (Below.refl wq.heap.size wq).drew, trivial⟩ (fun hS => ?_)
        clear hK
        try simp only [Act.put, List.setIfInBounds_toArray, List.set_cons_zero, List.set_cons_succ]
        refine AnyT.go (rs := [14]) (by kernel_rfl) (by simp) ?_
        refine AllT.cons rfl (fun K hK => ?_) AllT.nil
        go_simp
        have HB6 := Lib.hid (show Below wq.heap.size wq (wq.drew.alloc (.cells #[.int .i64 (y * P % 10007)] tI)) from (Below.refl wq.heap.size wq).drew.trans (below1 wq.drew _))
        refine hK.out _ _ ⟨QQ.out _ HB6.out, trivial⟩ (fun hS => ?_)
        clear hK
        try simp only [Act.put, List.setIfInBounds_toArray, List.set_cons_zero, List.set_cons_succ]
        refine AnyT.go (rs := [15]) (by kernel_rfl) (by simp) ?_
        refine AllT.cons rfl (fun K hK => ?_) AllT.nil
        refine step_app1 T_int (W := wq.drew) (u := .int .i64 (y * P % 10007)) (HO.out.below (Below.refl wq.heap.size wq).drew) (by rw [ints_len, HEL.out]; omega) HBQ.out.size rfl (by rfl) rfl (by rfl) (by rfl) ?_
        intro v7 w7 hown7 hgr7
        have HN7 := Lib.hid hown7
        have HB7 := Lib.hid (show Below w.heap.size w w7 from hgr7.below (HBQ.out.drew) HBQ.out.size HO.out.ge)
        have HBC7 := Lib.hid hgr7
        have CL7 := Lib.hid (show w7.cell? ⟨ada.block, ada.off + (i + 1), none⟩ = some (.int .i64 y) ∧ w7.cell? (ad.add i) = some (.slice At tn ct) from ⟨HCX.out w7 HB7.out, by rw [HRQ.out.drew.cell hgr7.1 hlt]; exact HCR.out⟩)
        refine hK.out _ _ ⟨CL7.out, trivial⟩ (fun hS => ?_)
        clear hK hown7 hgr7
        try simp only [Act.put, List.setIfInBounds_toArray, List.set_cons_zero, List.set_cons_succ]
        refine AnyT.take0 (i := 16) (v := ?_) rfl (by kernel_rfl) (by kernel_rfl) (by kernel_rfl) (by decide) (fun _ _ _ h => h) hS (Or.inl ⟨by first | kernel_rfl | rfl, ?_⟩) ?_
        rotate_left
        · intro w' hw'; clear hw'; go_simp; try with_reducible rfl
        try simp only [Act.put, List.setIfInBounds_toArray, List.set_cons_zero, List.set_cons_succ]
        clear hS
        refine AnyT.done (by kernel_rfl) ?_ _
        go_wp2_with fail
        go_roundw
        case rel =>
          refine ⟨i + 1, by omega, by go_num, ?_, HB7.out, ?_⟩
          · rw [HTS.out]; exact HN7.out
          · exact Lib.hid (HRQ.out.drew.step HBC7.out)
        case measure => simp [intOf]; omega
      · have hil : i + 1 = (scZ a k).length := by rw [HSZ.out]; omega
        have HFF := Lib.hid (show (scZ a k).take (i + 1) = scZ a k from by rw [hil]; exact List.take_length)
        clear hil
        go_wp2_with fail
        go_ret
        refine ⟨_, rfl, ⟨?_, fun z hz => in64_num (scZ_nums a k z hz)⟩, HBQ.out⟩
        have h := HO.out
        rw [HFF.out] at h
        exact h
end Go.Proofs.YtdjhfeaimmpmhaaGreat

