/- DROP Walks: ReducedOrder, FreeNumbersOf of the program. | DROP Walks: ReducedOrder, FreeNumbersOf of the reference. | The law FnExactReducedOrder. | Arguments that came in, opened to the words of the Mem text. -/
import Derived.Test.YtheldcjiogpbjaaGreatG19
import Derived.Test.YtheldcjiogpbjaaGreatG8
import Derived.Test.YtheldcjiogpbjaaGreatG2
import Derived.Test.YtheldcjiogpbjaaGreatRows
import Derived.Test.YtheldcjiogpbjaaGreatG1
import Derived.WalkKit
import Derived.ProofKit
import Derived.OpenShut
set_option maxRecDepth 100000
set_option linter.unusedVariables false
set_option linter.unusedSimpArgs false
namespace Go.Proofs.YtheldcjiogpbjaaGreat
open Go.RowKit

theorem LA.keptLt' {w w' : World} {B g : Nat} {v : Value} {xss : List (List Int)} (h : LA w B v xss) (hg : w.grownBy w' (some g)) (hlt : g < B) : LA w' B v xss := by
  obtain ⟨vs, h1, h2, h3⟩ := h
  have ne : ∀ u : Value, (∀ b, u.ownBlock = some b → B ≤ b) → u.ownBlock = none ∨ u.ownBlock ≠ some g := fun u hu => by
    cases hb : u.ownBlock with
    | none => exact .inl rfl
    | some b => exact .inr fun e => by injection e with e; have := hu b hb; omega
  exact ⟨vs, h1.kept hg (ne v h1.ge), ⟨h2.1, fun k u zs hu hz => ⟨(h2.2 k u zs hu hz).1.kept hg (ne u (h2.2 k u zs hu hz).1.ge), (h2.2 k u zs hu hz).2⟩⟩, h3⟩

set_option maxHeartbeats 8000000 in
theorem i_ReducedOrder (w : World) (v : Value) (a : List Int) (ha : Ints w v a) :
    Calls Tryz.prog 26 #[v] w fun e w' => e = .returned (.tuple #[.int .i64 (rdoR a), .int .i64 (chrC a)]) ∧ Below w.heap.size w w' := by
  have HA := Lib.hid ha
  have HCH := Lib.hid (i_checkCharacter w v a ha)
  obtain ⟨A, c, rfl, -, -, -⟩ := ha.open_
  clear ha
  by_cases hc : chrC a = 0
  · rw [hc] at HCH
    obtain ⟨hm, ha0⟩ := chr_of' hc
    have hmt := mapB_true hm
    have hl := hmt.1
    have HN := Lib.hid (show Nums a from hmt.2)
    rw [hl] at HA HCH ⊢
    have HR := Lib.hid (show rdoR a = rdV a from by rw [rdoR, if_pos hc])
    have HC := Lib.hid hc
    clear hc hm ha0 hmt hl
    go_enter Tryz.func26, Tryz.ntmps26
    go_wp2_with (first
      | (go_at_call 63; refine HCH.out.mono ?_; rintro e w0 ⟨rfl, rfl⟩)
      | (go_at_call 48; go_loud (refine (i_newForms _).mono ?_; rintro e w1 ⟨f, rfl, hf, hb1⟩; obtain ⟨Af, cf, Ay, my, cy, rfl, hrf⟩ := hf.opens'; have HRF := Lib.hid hrf; have HB1 := Lib.hid hb1; clear hf hrf hb1))
      | (go_at_call 64; go_loud (refine (i_allConditions _).mono ?_; rintro e w2 ⟨x2, rfl, hl2, hb2⟩; rw [CD_eq] at hl2; obtain ⟨A2, c2, he2, -, -, -⟩ := hl2.rows.open_; rw [List.length_map, show CD.length = 10 from rfl] at he2; subst he2; have HL2 := Lib.hid hl2.rows; have HB2 := Lib.hid (((below1 w1 (.cells #[.slice Af 37 cf, .slice Ay my cy] tFo)).trans (hb2.mono (by simp)))); have HKF := Lib.hid ((Blk.new w1 #[.slice Af 37 cf, .slice Ay my cy] tFo).below hb2 (by simp)); clear hl2 hb2)))
    have HRW := Lib.hid (HRF.out.below HB2.out)
    have HAW := Lib.hid ((HA.out.below HB1.out).below HB2.out)
    go_loopw [16] (fun x wr => ∃ k : Nat, k ≤ 10 ∧ x = .int .i64 k ∧ Hid (∀ i t', i < k → CD[i]? = some t' → cdV a t' = ((exV t' : Nat) : Int)) ∧ Below w2.heap.size w2 wr) (fun x _ => 10 - (intOf x).toNat)
    case atStart => exact ⟨0, Nat.zero_le _, rfl, fun i t h => by omega, Below.refl _ _⟩
    case round =>
      obtain ⟨k, hk, rfl, hI, hb⟩ := hrel
      have HB := Lib.hid hb
      clear hb
      by_cases hlt : k < 10
      · obtain ⟨ad, At, ct, t, rfl, ht, hti, hcr⟩ := (HL2.out.below HB.out).cond hlt
        have htm := List.mem_of_getElem? ht
        obtain ⟨p, hp1, -, hp7, hpt, ht6, ht1, htl⟩ := CD_at htm
        obtain ⟨dn, hd1, hd2, hd3, hd4, hd5⟩ := T6n_den (List.mem_of_getElem? hpt)
        obtain ⟨_, he, hcx, hx0, hx1⟩ := map_cell ((HAW.out.below HB.out)) HN.out (k := p + 1) (by omega)
        subst he
        rename Addr => a1
        have hcv : cdV a t = a.getD (p + 1) 0 := by unfold cdV; rw [hp1]
        obtain ⟨p1, hep⟩ : ∃ p1 : Nat, p1 = p + 1 := ⟨_, rfl⟩
        rw [← hep] at hcx hcv hx0 hx1
        have hex := exV_le t
        have HIF := Lib.hid (red_iff (x := a.getD p1 0) (d := dn) hx0 hx1 hex hd4)
        generalize a.getD p1 0 = z at *
        have hpl : (p1 : Int) < 38 := by omega
        have hpl2 : p1 < 38 := by omega
        have hmod : (dn : Int) % 10007 = (dn : Int) := by omega
        have hmul := mul_bd 10006 720 hx0 hx1 (show (0 : Int) ≤ (dn : Int) by omega) (show (dn : Int) ≤ 720 by omega)
        obtain ⟨S, hS1, hS2⟩ : ∃ S : World → Prop, (∀ W, S W → Below wr.heap.size wr W) ∧ (∀ W, Below wr.heap.size wr W → S W) := ⟨fun W => Below wr.heap.size wr W, fun _ h => h, fun _ h => h⟩
        have HSE := Lib.hid (show ∀ x : GW S, Below wr.heap.size wr x.w from fun x => hS1 _ x.h)
        have HSI := Lib.hid (show S wr.drew from hS2 _ (Below.refl wr.heap.size wr).drew)
        have HRR := Lib.hid (HRW.out.below HB.out)
        have HTI := Lib.hid hti
        have HPL := Lib.hid (show ∀ x : GW S, Calls Tryz.prog 66 #[.agg #[.slice Af 37 cf, .slice Ay my cy], .slice At t.length ct] x.w (fun e w' => e = .returned (.int .i64 (p1 : Nat)) ∧ S w') from fun x => (i_place x.w _ _ Ay my cy T6n t (HRR.out.below (HSE.out x)) (HTI.out.below (HSE.out x)) (by rw [T6n_len]; omega)).mono (by rintro e w7 ⟨rfl, hw7⟩; refine ⟨by rw [hp1, hep], hS2 _ ?_⟩; rw [hw7]; exact (HSE.out x).trans ((below1 _ _).mono (HSE.out x).size)))
        have HDE := Lib.hid (show ∀ x : GW S, Calls Tryz.prog 67 #[.slice At t.length ct] x.w (fun e w' => e = .returned (.int .i64 (dn : Nat)) ∧ S w') from fun x => (i_density 9 x.w _ t dn (HTI.out.below (HSE.out x)) hd1 (by omega) (fun l hl => by have := htl l hl; omega)).mono (by rintro e w7 ⟨rfl, hb7⟩; exact ⟨rfl, hS2 _ ((HSE.out x).trans (hb7.mono (HSE.out x).size))⟩))
        have HNU := Lib.hid (show ∀ x : GW S, Calls Tryz.prog 65 #[.int .i64 (dn : Int)] x.w (fun e w' => e = .returned (.int .i64 (dn : Int)) ∧ S w') from fun x => (i_num (dn : Int) x.w (by omega) (by omega)).mono (by rintro e w7 ⟨rfl, rfl⟩; exact ⟨by rw [hmod], hS2 _ (HSE.out x)⟩))
        have HNV := Lib.hid (show ∀ x : GW S, Calls Tryz.prog 65 #[.int .i64 (z * (dn : Int))] x.w (fun e w' => e = .returned (.int .i64 (z * (dn : Int) % 10007)) ∧ S w') from fun x => (i_num (z * (dn : Int)) x.w (by omega) (by omega)).mono (by rintro e w7 ⟨rfl, rfl⟩; exact ⟨rfl, hS2 _ (HSE.out x)⟩))
        have hws : IntKind.i64.wrap (z * (dn : Int)) = z * (dn : Int) := IntWalk.i64_in _ (by omega)
        have hbk := HKF.out.below HB.out HKF.out.lt
        have hx0 : ∀ x : GW S, x.w.cell? ⟨w1.heap.size, 0, none⟩ = some (.slice Af 37 cf) := fun x => keepCell (HSE.out x) (hbk.cell 0)
        have hx1 : ∀ x : GW S, x.w.cell? ⟨w1.heap.size, 1, none⟩ = some (.slice Ay my cy) := fun x => keepCell (HSE.out x) (hbk.cell 1)
        have hx2 : ∀ x : GW S, x.w.cell? (a1.add p1) = some (.int .i64 z) := fun x => keepCell (HSE.out x) hcx
        have HLN := Lib.hid (fun W (h : Ints W (.slice At t.length ct) (up t)) => show Calls Tryz.prog 68 #[.slice At t.length ct] W fun e w' => e = .returned (.int .i64 t.length) ∧ W = w' from by have h2 := lib_lengthI W _ _ h; rw [up_len] at h2; exact h2)
        have hkk : (k : Int) < 10 := by omega
        have HT := Lib.hid ht
        have HCV := Lib.hid hcv
        generalize hq : z * (dn : Int) % 10007 = q at HNV HIF
        clear ht htm hp1 hp7 hpt htl hd1 hd2 hd3 hd4 hd5 hep hex hmod hmul hti hcx hcv hS1 hS2 hbk hq
        go_upto_region 8 with fail
        refine wp_region_grow S (by kernel_rfl) (by kernel_rfl) HSI.out (fun hne => ?_)
        repeat (go_big_quiet_step ((first
          | (go_at_call 66; exact grow_call (HPL.out _))
          | (go_at_call 67; exact grow_call (HDE.out _))
          | (go_at_call_of 65 z; exact grow_call (HNV.out _))
          | (go_at_call 65; exact grow_call (HNU.out _)))))
        refine wpQuiet_nil ?_
        rintro _ ⟨xq, rfl⟩
        clear hx0 hx1 hx2
        by_cases hqq : q = 1
        · have hne1 : (q != 1) = false := by simp [hqq]
          have HI2 := Lib.hid (show ∀ i t', i < k + 1 → CD[i]? = some t' → cdV a t' = ((exV t' : Nat) : Int) from fun i t' hi ht' => by
            by_cases e : i = k
            · subst e
              rw [HT.out] at ht'
              injection ht' with ht'
              subst ht'
              rw [HCV.out]
              exact HIF.out.1 hqq
            · exact hI i t' (by omega) ht')
          clear hqq hI
          go_wp2_with fail
          go_roundw
          case rel => exact ⟨k + 1, by omega, by go_num, HI2.out, HB.out.trans ((HSE.out xq).mono HB.out.size)⟩
          case measure => simp [intOf]; omega
        · have hne1 : (q != 1) = true := by simp [hqq]
          have HZ := Lib.hid (rdV_hit hI HT.out (by rw [HCV.out]; exact fun h => hqq (HIF.out.2 h)))
          clear hqq hI
          go_wp2_with (go_at_call 68; refine (HLN.out _ (HTI.out.below (HSE.out xq))).mono ?_; rintro e w8 ⟨rfl, rfl⟩)
          go_ret2
          rw [HR.out, HC.out, HZ.out]
          have hb := HB1.out.trans (HB2.out.mono HB1.out.size)
          exact ⟨rfl, (hb.trans (HB.out.mono hb.size)).trans ((HSE.out xq).mono (Nat.le_trans hb.size HB.out.size))⟩
      · have HZ := Lib.hid (rdV_miss (a := a) (fun i t' hi h => hI i t' (by omega) h))
        clear hI
        go_wp2_with fail
        go_ret2
        rw [HR.out, HC.out, HZ.out]
        have hb := HB1.out.trans (HB2.out.mono HB1.out.size)
        exact ⟨rfl, hb.trans (HB.out.mono hb.size)⟩
  · have HR := Lib.hid (show rdoR a = 0 from by rw [rdoR, if_neg hc])
    have hd : (chrC a != 0) = true := by simp [hc]
    rw [HR.out]
    generalize chrC a = cc at *
    clear hc HR
    go_enter Tryz.func26, Tryz.ntmps26
    go_wp2_with (go_at_call 63; refine HCH.out.mono ?_; rintro e w0 ⟨rfl, rfl⟩)
    go_ret2
    exact ⟨rfl, Below.refl _ _⟩

set_option maxHeartbeats 8000000 in
theorem i_FreeNumbersOf (w : World) (v : Value) (a : List Int) (ha : Ints w v a) :
    Calls Tryz.prog 40 #[v] w fun e w' => ∃ x, e = .returned (.tuple #[x, .int .i64 (fnoC a)]) ∧ OwnInts w' w.heap.size tI x (fnoR a) ∧ Below w.heap.size w w' := by
  have HA := Lib.hid ha
  have HCH := Lib.hid (i_checkInf1 w v a ha)
  obtain ⟨A, c, rfl, -, -, -⟩ := ha.open_
  clear ha
  by_cases hc : infC a = 0
  · rw [hc] at HCH
    obtain ⟨hm, ha0⟩ := inf_of hc
    have hmt := mapB_true hm
    have hl := hmt.1
    have HN := Lib.hid (show Nums a from hmt.2)
    have HL := Lib.hid hl
    rw [hl] at HA HCH ⊢
    have HC := Lib.hid hc
    clear hc hm ha0 hmt hl
    go_enter Tryz.func40, Tryz.ntmps40
    by_cases h6 : toV a 0 < 6
    · have hd6 : decide (((toV a 0 : Nat) : Int) < 6) = true := decide_eq_true (by omega)
      have hi6 : ((toV a 0 : Nat) : Int) < 6 := by omega
      have HR := Lib.hid (show fnoR a = [] from by rw [fnoR, if_pos HC.out, if_pos h6])
      have HCC := Lib.hid (show fnoC a = 5 from by rw [fnoC, if_pos HC.out, if_pos h6])
      clear h6
      go_wp2_with (first
        | (go_at_call 45; refine HCH.out.mono ?_; rintro e w0 ⟨rfl, hb0⟩; have HB0 := Lib.hid hb0; clear hb0)
        | (go_at_call 48; go_loud (refine (i_newForms _).mono ?_; rintro e w1 ⟨f, rfl, hf, hb1⟩; obtain ⟨Af, cf, Ay, my, cy, rfl, hrf⟩ := hf.opens'; have HRF := Lib.hid hrf; have HB1 := Lib.hid (HB0.out.trans (hb1.mono HB0.out.size)); clear hf hrf hb1))
        | (go_at_call 87; go_loud (refine (i_hamiltonianTo _ _ _ Ay my cy a (HRF.out.below (below1 w1 _)) ((HA.out.below HB1.out).below (below1 w1 _)) HL.out HN.out).mono ?_; rintro e w2 ⟨rfl, hb2⟩; have HB2 := Lib.hid (((HB1.out.trans ((below1 w1 _).mono HB1.out.size))).trans (hb2.mono (by have := HB1.out.size; simp; omega))); clear hb2)))
      go_ret2
      rw [HR.out, HCC.out]
      exact ⟨_, rfl, OwnInts.nil _ _ _, HB2.out⟩
    · have hd6 : decide (((toV a 0 : Nat) : Int) < 6) = false := decide_eq_false (by omega)
      have hi6 : ¬ ((toV a 0 : Nat) : Int) < 6 := by omega
      have HR := Lib.hid (show fnoR a = CD.map (cdV a) from by rw [fnoR, if_pos HC.out, if_neg h6])
      have HCC := Lib.hid (show fnoC a = 0 from by rw [fnoC, if_pos HC.out, if_neg h6])
      clear h6
      go_wp2_with (first
        | (go_at_call 45; refine HCH.out.mono ?_; rintro e w0 ⟨rfl, hb0⟩; have HB0 := Lib.hid hb0; clear hb0)
        | (go_at_call 48; go_loud (refine (i_newForms _).mono ?_; rintro e w1 ⟨f, rfl, hf, hb1⟩; obtain ⟨Af, cf, Ay, my, cy, rfl, hrf⟩ := hf.opens'; have HRF := Lib.hid hrf; have HB1 := Lib.hid (HB0.out.trans (hb1.mono HB0.out.size)); clear hf hrf hb1))
        | (go_at_call 87; go_loud (refine (i_hamiltonianTo _ _ _ Ay my cy a (HRF.out.below (below1 w1 _)) ((HA.out.below HB1.out).below (below1 w1 _)) HL.out HN.out).mono ?_; rintro e w2 ⟨rfl, hb2⟩; have HKF := Lib.hid ((Blk.new w1 #[.slice Af 37 cf, .slice Ay my cy] tFo).below hb2 (by simp)); have HB12 := Lib.hid ((below1 w1 (.cells #[.slice Af 37 cf, .slice Ay my cy] tFo)).trans (hb2.mono (by simp))); have HB2 := Lib.hid (HB1.out.trans (((below1 w1 (.cells #[.slice Af 37 cf, .slice Ay my cy] tFo)).trans (hb2.mono (by simp))).mono HB1.out.size)); clear hb2))
        | (go_at_call 64; go_loud (refine (i_allConditions _).mono ?_; rintro e w3 ⟨x3, rfl, hl3, hb3⟩; rw [CD_eq] at hl3; obtain ⟨A3, c3, he3, -, -, -⟩ := hl3.rows.open_; rw [List.length_map, show CD.length = 10 from rfl] at he3; subst he3; have HL3 := Lib.hid (show LA w3 (w2.heap.size + 1) _ (CD.map up) from by rw [size_alloc'] at hl3; exact hl3); have HB3 := Lib.hid hb3; clear hl3 hb3)))
      have OL := Lib.hid (show Own w3 w2.heap.size tI (.slice (some ⟨w2.heap.size, 0, none⟩) 0 0) (ints ((CD.take 0).map (cdV a))) from (own_lit w2 tI [] (by simp [maxLen])).below HB3.out)
      have HB23 := Lib.hid (show Below w2.heap.size w2 w3 from (below1 w2 _).trans (HB3.out.mono (by simp)))
      have HRW := Lib.hid (HRF.out.below HB12.out)
      have HAW := Lib.hid (HA.out.below HB2.out)
      clear HB3
      go_loopw [6, 22] (fun o x wr => ∃ k : Nat, k ≤ 10 ∧ x = .int .i64 k ∧ Own wr w2.heap.size tI o (ints ((CD.take k).map (cdV a))) ∧ Grow w3 wr (.slice (some ⟨w2.heap.size, 0, none⟩) 0 0) o) (fun _ x _ => 10 - (intOf x).toNat)
      case atStart => exact ⟨0, Nat.zero_le _, rfl, OL.out, Grow.refl _ _⟩
      case round =>
        obtain ⟨k, hk, rfl, ho, hg⟩ := hrel
        have hel : ((CD.take k).map (cdV a)).length = k := by rw [List.length_map, List.length_take]; show min k 10 = k; omega
        have hol := ho.cells.open_
        rw [ints_len, hel] at hol
        obtain ⟨Ao, co, rfl, -, -⟩ := hol
        have HEL := Lib.hid hel
        have HO := Lib.hid ho
        have HG := Lib.hid hg
        have HBK := Lib.hid (show Below w2.heap.size w2 wr from hg.below HB23.out HB23.out.size OL.out.ge)
        have HLK := Lib.hid ((HL3.out.keptLt' hg.1 (Nat.lt_succ_self _)).rows)
        clear ho hg hel
        by_cases hlt : k < 10
        · obtain ⟨ad, At, ct, t, rfl, ht, hti, hcr⟩ := HLK.out.cond hlt
          obtain ⟨p, hp1, -, hp7, hpt, ht6, ht1, htl⟩ := CD_at (List.mem_of_getElem? ht)
          obtain ⟨a1, he, hcx, hx0, hx1⟩ := map_cell (HAW.out.below HBK.out) HN.out (k := p + 1) (by omega)
          subst he
          have hcv : cdV a t = a.getD (p + 1) 0 := by unfold cdV; rw [hp1]
          obtain ⟨p1, hep⟩ : ∃ p1 : Nat, p1 = p + 1 := ⟨_, rfl⟩
          rw [← hcv, ← hep] at hcx
          have HTS := Lib.hid (show ints ((CD.take (k + 1)).map (cdV a)) = ints ((CD.take k).map (cdV a)) ++ [.int .i64 (cdV a t)] from by rw [List.take_add_one, ht, List.map_append, ints, ints, List.map_append]; rfl)
          generalize cdV a t = z at hcx HTS
          have hpl : (p1 : Int) < 38 := by omega
          have hpl2 : p1 < 38 := by omega
          have hbk := HKF.out.below HBK.out HKF.out.lt
          have hf0 : wr.cell? ⟨w1.heap.size, 0, none⟩ = some (.slice Af 37 cf) := hbk.cell 0
          have hf1 : wr.cell? ⟨w1.heap.size, 1, none⟩ = some (.slice Ay my cy) := hbk.cell 1
          have HPL := Lib.hid (show Calls Tryz.prog 66 #[.agg #[.slice Af 37 cf, .slice Ay my cy], .slice At t.length ct] wr (fun e w' => e = .returned (.int .i64 (p1 : Nat)) ∧ Below wr.heap.size wr w') from (i_place wr _ _ Ay my cy T6n t (HRW.out.below HBK.out) hti (by rw [T6n_len]; omega)).mono (by rintro e w7 ⟨rfl, hw7⟩; exact ⟨by rw [hp1, hep], by rw [hw7]; exact below1 _ _⟩))
          have HCX := Lib.hid hcx
          have hkk : (k : Int) < 10 := by omega
          clear ht hp1 hp7 hpt htl hep hti hcx hcv hbk
          go_wp2_with (first
            | (go_at_call 66; go_loud (refine HPL.out.mono ?_; rintro e w6 ⟨rfl, hb6⟩; have HB6 := Lib.hid hb6; have hcx := keepCell hb6 HCX.out; have HOX := Lib.hid (HO.out.below hb6); clear hb6))
            | (at_builtin; go_loud (refine wpList_app1 T_int HOX.out (by rw [ints_len, HEL.out]; omega) (Nat.le_trans HBK.out.size HB6.out.size) (by rfl) rfl (by rfl) (by rfl) (by rfl) ?_; intro v1 w7 hown1 hgr1; have HNN := Lib.hid hown1; have HGR := Lib.hid hgr1; clear hown1 hgr1)))
          go_roundw
          case rel =>
            refine ⟨k + 1, by omega, by go_num, ?_, HG.out.trans (Grow.pre HB6.out HGR.out)⟩
            rw [HTS.out]; exact HNN.out
          case measure => simp [intOf]; omega
        · have hkl : k = 10 := by omega
          have HTK := Lib.hid (show CD.take k = CD from List.take_of_length_le (by rw [hkl]; exact Nat.le_refl _))
          clear hkl
          go_wp2_with fail
          go_ret2
          rw [HR.out, HCC.out]
          have h := HO.out
          rw [HTK.out] at h
          refine ⟨_, rfl, ⟨h.mono HB2.out.size, fun z hz => ?_⟩, HB2.out.trans (HBK.out.mono HB2.out.size)⟩
          obtain ⟨t, ht, rfl⟩ := List.mem_map.1 hz
          exact in64_num (cdV_nums HN.out HL.out ht)
  · have HR := Lib.hid (show fnoR a = [] from by rw [fnoR, if_neg hc])
    have HCC := Lib.hid (show fnoC a = infC a from by rw [fnoC, if_neg hc])
    have hd : (infC a != 0) = true := by simp [hc]
    rw [HR.out, HCC.out]
    generalize infC a = cc at *
    clear hc HR HCC
    go_enter Tryz.func40, Tryz.ntmps40
    go_wp2_with (go_at_call 45; refine HCH.out.mono ?_; rintro e w0 ⟨rfl, hb0⟩; have HB0 := Lib.hid hb0; clear hb0)
    go_ret2
    exact ⟨_, rfl, OwnInts.nil _ _ _, HB0.out⟩
end Go.Proofs.YtheldcjiogpbjaaGreat
set_option maxRecDepth 100000
set_option linter.unusedVariables false
set_option linter.unusedSimpArgs false
namespace Go.Proofs.YtheldcjiogpbjaaGreat
open Go.RowKit

set_option maxHeartbeats 8000000 in
theorem s_ReducedOrder (w : World) (v : Value) (a : List Int) (ha : Ints w v a) :
    Calls Tryz.prog 25 #[v] w fun e w' => e = .returned (.tuple #[.int .i64 (rdoR a), .int .i64 (chrC a)]) ∧ Below w.heap.size w w' := by
  have HA := Lib.hid ha
  have HCH := Lib.hid (s_l07Code1 w v a ha)
  obtain ⟨A, c, rfl, -, -, -⟩ := ha.open_
  clear ha
  by_cases hc : chrC a = 0
  · rw [hc] at HCH
    obtain ⟨hm, ha0⟩ := chr_of' hc
    have hmt := mapB_true hm
    have hl := hmt.1
    have HN := Lib.hid (show Nums a from hmt.2)
    rw [hl] at HA HCH ⊢
    have HR := Lib.hid (show rdoR a = rdV a from by rw [rdoR, if_pos hc])
    have HC := Lib.hid hc
    clear hc hm ha0 hmt hl
    go_enter Tryz.func25, Tryz.ntmps25
    go_wp2_with (first
      | (go_at_call 58; refine HCH.out.mono ?_; rintro e w0 ⟨rfl, rfl⟩)
      | (go_at_call 59; go_loud (refine (s_l03All _ 6 (by omega)).mono ?_; rintro e w1 ⟨x1, rfl, hx1, hb1⟩; rw [show allG treesN 6 = T6n from rfl] at hx1; obtain ⟨A1, c1, he1, -, -, -⟩ := hx1.rows.open_; rw [List.length_map, T6n_len] at he1; subst he1; have HX1 := Lib.hid hx1.rows; have HB1 := Lib.hid hb1; clear hx1 hb1))
      | (go_at_call 60; go_loud (refine (s_l07Exact _).mono ?_; rintro e w2 ⟨x2, rfl, ho2, hb2⟩; obtain ⟨A2, c2, he2, -, -, -⟩ := ho2.ints.open_; rw [EX_len] at he2; subst he2; have HO2 := Lib.hid ho2.ints; have HB12 := Lib.hid hb2; have HB2 := Lib.hid (HB1.out.trans (hb2.mono HB1.out.size)); clear ho2 hb2))
      | (go_at_call 61; go_loud (refine (s_l12All _).mono ?_; rintro e w3 ⟨x3, rfl, hl3, hb3⟩; rw [CD_eq] at hl3; obtain ⟨A3, c3, he3, -, -, -⟩ := hl3.rows.open_; rw [List.length_map, show CD.length = 10 from rfl] at he3; subst he3; have HL3 := Lib.hid hl3.rows; have HB23 := Lib.hid hb3; have HB3 := Lib.hid (HB2.out.trans (hb3.mono HB2.out.size)); clear hl3 hb3)))
    have HX3 := Lib.hid ((HX1.out.below HB12.out).below HB23.out)
    have HO3 := Lib.hid (HO2.out.below HB23.out)
    have HA3 := Lib.hid (HA.out.below HB3.out)
    go_loopw [8] (fun x wr => ∃ k : Nat, k ≤ 10 ∧ x = .int .i64 k ∧ Hid (∀ i t', i < k → CD[i]? = some t' → cdV a t' = ((exV t' : Nat) : Int)) ∧ Below w3.heap.size w3 wr) (fun x _ => 10 - (intOf x).toNat)
    case atStart => exact ⟨0, Nat.zero_le _, rfl, fun i t h => by omega, Below.refl _ _⟩
    case round =>
      obtain ⟨k, hk, rfl, hI, hb⟩ := hrel
      have HB := Lib.hid hb
      clear hb
      by_cases hlt : k < 10
      · obtain ⟨ad, At, ct, t, rfl, ht, hti, hcr⟩ := (HL3.out.below HB.out).cond hlt
        obtain ⟨p, hp1, hpf, hp7, hpt, ht6, ht1, htl⟩ := CD_at (List.mem_of_getElem? ht)
        obtain ⟨a1, he, hcx, hx0, hx1⟩ := map_cell ((HA3.out.below HB.out)) HN.out (k := p + 1) (by omega)
        subst he
        obtain ⟨A', c', he, -, -, g2⟩ := (HO3.out.below HB.out).open_
        rw [EX_len] at he g2
        simp only [Value.slice.injEq, true_and] at he
        obtain ⟨rfl, rfl⟩ := he
        obtain ⟨a2, y, rfl, hy, -, hcy⟩ := g2 (p + 1) (by omega)
        rw [EX_succ hpt] at hy
        injection hy with hy
        subst hy
        have hcv : cdV a t = a.getD (p + 1) 0 := by unfold cdV; rw [hp1]
        obtain ⟨p1, hep⟩ : ∃ p1 : Nat, p1 = p + 1 := ⟨_, rfl⟩
        rw [← hep] at hcx hcv hcy
        generalize a.getD p1 0 = z at *
        have hpl : (p1 : Int) < 38 := by omega
        have hpl2 : p1 < 38 := by omega
        have HF := Lib.hid (fun W x y (h1 : Rows W x (T6n.map up)) (h2 : Ints W y (up t)) => show Calls Tryz.prog 62 #[x, y] W fun e w' => e = .returned (.int .i64 (p : Nat)) ∧ ∃ n, w' = W.drewN n from by
          have h := s_l03Find W x y T6n t h1 h2 (by rw [T6n_len]; omega)
          rw [hpf, show (((p + 1 : Nat) : Int) - 1) = (p : Int) from by omega] at h
          exact h)
        have hwp : wrap64 ((p : Int) + 1) = (p1 : Int) := by rw [hep]; unfold wrap64; omega
        have HXR := Lib.hid (HX3.out.below HB.out)
        have HTI := Lib.hid hti
        have HT := Lib.hid ht
        have HCV := Lib.hid hcv
        have HCX := Lib.hid hcx
        have HCY := Lib.hid hcy
        have HCR := Lib.hid hcr
        have hkk : (k : Int) < 10 := by omega
        clear ht hp1 hpf hp7 hpt htl hep hti hcx hcy hcv g2
        go_upto_region 9 with (go_at_call 62; refine (HF.out _ _ _ HXR.out HTI.out).mono ?_; rintro e w5 ⟨rfl, n5, rfl⟩)
        obtain ⟨wz, hwz⟩ : ∃ wz, wz = wr.drewN n5 := ⟨_, rfl⟩
        have HBZ := Lib.hid (show Below wr.heap.size wr wz from by rw [hwz]; exact below_drewN (Below.refl _ _) _)
        rw [← hwz]
        clear hwz hcr
        have hcx := keepCell HBZ.out HCX.out
        have hcy := keepCell HBZ.out HCY.out
        have hcr := keepCell HBZ.out HCR.out
        by_cases hzz : z = ((exV t : Nat) : Int)
        · have hne1 : (z != ((exV t : Nat) : Int)) = false := by simp [hzz]
          have HI2 := Lib.hid (show ∀ i t', i < k + 1 → CD[i]? = some t' → cdV a t' = ((exV t' : Nat) : Int) from fun i t' hi ht' => by
            by_cases e : i = k
            · subst e
              rw [HT.out] at ht'
              injection ht' with ht'
              subst ht'
              rw [HCV.out]
              exact hzz
            · exact hI i t' (by omega) ht')
          clear hzz hI
          go_quiet (fail)
          go_wp2_with fail
          go_roundw
          case rel => exact ⟨k + 1, by omega, by go_num, HI2.out, HB.out.trans ((below_drewN HBZ.out _).mono HB.out.size)⟩
          case measure => simp [intOf]; omega
        · have hne1 : (z != ((exV t : Nat) : Int)) = true := by simp [hzz]
          have HZ := Lib.hid (rdV_hit hI HT.out (by rw [HCV.out]; exact hzz))
          clear hzz hI
          go_quiet (fail)
          go_wp2_with fail
          go_ret2
          rw [HR.out, HC.out, HZ.out]
          exact ⟨rfl, (HB3.out.trans (HB.out.mono HB3.out.size)).trans ((below_drewN HBZ.out _).mono (Nat.le_trans HB3.out.size HB.out.size))⟩
      · have HZ := Lib.hid (rdV_miss (a := a) (fun i t' hi h => hI i t' (by omega) h))
        clear hI
        go_wp2_with fail
        go_ret2
        rw [HR.out, HC.out, HZ.out]
        exact ⟨rfl, HB3.out.trans (HB.out.mono HB3.out.size)⟩
  · have HR := Lib.hid (show rdoR a = 0 from by rw [rdoR, if_neg hc])
    have hd : (chrC a != 0) = true := by simp [hc]
    rw [HR.out]
    generalize chrC a = cc at *
    clear hc HR
    go_enter Tryz.func25, Tryz.ntmps25
    go_wp2_with (go_at_call 58; refine HCH.out.mono ?_; rintro e w0 ⟨rfl, rfl⟩)
    go_ret2
    exact ⟨rfl, Below.refl _ _⟩

set_option maxHeartbeats 8000000 in
theorem s_FreeNumbersOf (w : World) (v : Value) (a : List Int) (ha : Ints w v a) :
    Calls Tryz.prog 39 #[v] w fun e w' => ∃ x, e = .returned (.tuple #[x, .int .i64 (fnoC a)]) ∧ OwnInts w' w.heap.size tI x (fnoR a) ∧ Below w.heap.size w w' := by
  have HA := Lib.hid ha
  have HCH := Lib.hid (s_l08Code1 w v a ha)
  obtain ⟨A, c, rfl, -, -, -⟩ := ha.open_
  clear ha
  by_cases hc : infC a = 0
  · rw [hc] at HCH
    obtain ⟨hm, ha0⟩ := inf_of hc
    have hmt := mapB_true hm
    have hl := hmt.1
    have HN := Lib.hid (show Nums a from hmt.2)
    have HTO := Lib.hid (fun W (h : Ints W (.slice A a.length c) a) => s_l12To W _ a h hmt.1 hmt.2)
    rw [ha0] at HTO
    rw [hl] at HA HCH HTO ⊢
    have HL := Lib.hid hl
    have HC := Lib.hid hc
    clear hc hm ha0 hmt hl
    go_enter Tryz.func39, Tryz.ntmps39
    by_cases h6 : toV a 0 < 6
    · have hd6 : decide (((toV a 0 : Nat) : Int) < 6) = true := decide_eq_true (by omega)
      have hi6 : ((toV a 0 : Nat) : Int) < 6 := by omega
      have HR := Lib.hid (show fnoR a = [] from by rw [fnoR, if_pos HC.out, if_pos h6])
      have HCC := Lib.hid (show fnoC a = 5 from by rw [fnoC, if_pos HC.out, if_pos h6])
      clear h6
      go_wp2_with (first
        | (go_at_call 85; refine HCH.out.mono ?_; rintro e w0 ⟨rfl, rfl⟩)
        | (go_at_call 86; go_loud (refine (HTO.out _ HA.out).mono ?_; rintro e w2 ⟨r, rfl, hr, hb2⟩; rw [← toV_is hr]; have HB2 := Lib.hid hb2; clear hr hb2)))
      go_ret2
      rw [HR.out, HCC.out]
      exact ⟨_, rfl, OwnInts.nil _ _ _, HB2.out⟩
    · have hd6 : decide (((toV a 0 : Nat) : Int) < 6) = false := decide_eq_false (by omega)
      have hi6 : ¬ ((toV a 0 : Nat) : Int) < 6 := by omega
      have HR := Lib.hid (show fnoR a = CD.map (cdV a) from by rw [fnoR, if_pos HC.out, if_neg h6])
      have HCC := Lib.hid (show fnoC a = 0 from by rw [fnoC, if_pos HC.out, if_neg h6])
      clear h6
      go_wp2_with (first
        | (go_at_call 85; refine HCH.out.mono ?_; rintro e w0 ⟨rfl, rfl⟩)
        | (go_at_call 86; go_loud (refine (HTO.out _ HA.out).mono ?_; rintro e w2 ⟨r, rfl, hr, hb2⟩; rw [← toV_is hr]; have HB2 := Lib.hid hb2; clear hr hb2))
        | (go_at_call 59; go_loud (refine (s_l03All _ 6 (by omega)).mono ?_; rintro e w3 ⟨x3, rfl, hx3, hb3⟩; rw [show allG treesN 6 = T6n from rfl] at hx3; obtain ⟨A3, c3, he3, -, -, -⟩ := hx3.rows.open_; rw [List.length_map, T6n_len] at he3; subst he3; have HX3 := Lib.hid hx3.rows; have HB3 := Lib.hid (HB2.out.trans (hb3.mono HB2.out.size)); clear hx3 hb3))
        | (go_at_call 61; go_loud (refine (s_l12All _).mono ?_; rintro e w4 ⟨x4, rfl, hl4, hb4⟩; rw [CD_eq] at hl4; obtain ⟨A4, c4, he4, -, -, -⟩ := hl4.rows.open_; rw [List.length_map, show CD.length = 10 from rfl] at he4; subst he4; have HL4 := Lib.hid hl4.rows; have HB34 := Lib.hid hb4; have HB4 := Lib.hid (HB3.out.trans (hb4.mono HB3.out.size)); clear hl4 hb4)))
      have hbn : Below w4.heap.size w4 (w4.alloc (.cells #[] tI)) := below1 _ _
      have HX4 := Lib.hid ((HX3.out.below HB34.out).below hbn)
      have HL5 := Lib.hid (HL4.out.below hbn)
      have HB5 := Lib.hid (HB4.out.trans (hbn.mono HB4.out.size))
      have HA5 := Lib.hid ((HA.out.below HB4.out).below hbn)
      have OL := Lib.hid (show Own (w4.alloc (.cells #[] tI)) w4.heap.size tI (.slice (some ⟨w4.heap.size, 0, none⟩) 0 0) (ints ((CD.take 0).map (cdV a))) from own_lit w4 tI [] (by simp [maxLen]))
      have HBZ := Lib.hid hbn
      have HSZ := Lib.hid HB4.out.size
      clear hbn
      go_loopw [7, 8] (fun o x wr => ∃ k : Nat, k ≤ 10 ∧ x = .int .i64 k ∧ Own wr w4.heap.size tI o (ints ((CD.take k).map (cdV a))) ∧ Below w4.heap.size w4 wr ∧ Below w.heap.size w wr) (fun _ x _ => 10 - (intOf x).toNat)
      case atStart => exact ⟨0, Nat.zero_le _, rfl, OL.out, HBZ.out, HB5.out⟩
      case round =>
        obtain ⟨k, hk, rfl, ho, hb4, hb⟩ := hrel
        clear OL
        have hel : ((CD.take k).map (cdV a)).length = k := by rw [List.length_map, List.length_take]; show min k 10 = k; omega
        have hol := ho.cells.open_
        rw [ints_len, hel] at hol
        obtain ⟨Ao, co, rfl, -, -⟩ := hol
        have HEL := Lib.hid hel
        have HO := Lib.hid ho
        have HB4' := Lib.hid hb4
        have HB := Lib.hid hb
        clear ho hb4 hb hel
        by_cases hlt : k < 10
        · obtain ⟨ad, At, ct, t, rfl, ht, hti, hcr⟩ := (HL4.out.below HB4'.out).cond hlt
          have htm := List.mem_of_getElem? ht
          obtain ⟨p, hp1, hpf, hp7, hpt, ht6, ht1, htl⟩ := CD_at htm
          obtain ⟨a1, he, hcx, hx0, hx1⟩ := map_cell ((HA.out.below HB4.out).below HB4'.out) HN.out (k := p + 1) (by omega)
          subst he
          have hcv : cdV a t = a.getD (p + 1) 0 := by unfold cdV; rw [hp1]
          obtain ⟨p1, hep⟩ : ∃ p1 : Nat, p1 = p + 1 := ⟨_, rfl⟩
          rw [← hcv, ← hep] at hcx
          have HTS := Lib.hid (show ints ((CD.take (k + 1)).map (cdV a)) = ints ((CD.take k).map (cdV a)) ++ [.int .i64 (cdV a t)] from by rw [List.take_add_one, ht, List.map_append, ints, ints, List.map_append]; rfl)
          generalize cdV a t = z at hcx HTS
          have hpl : (p1 : Int) < 38 := by omega
          have hpl2 : p1 < 38 := by omega
          have HF := Lib.hid (fun W x y (h1 : Rows W x (T6n.map up)) (h2 : Ints W y (up t)) => show Calls Tryz.prog 62 #[x, y] W fun e w' => e = .returned (.int .i64 (p : Nat)) ∧ ∃ n, w' = W.drewN n from by
            have h := s_l03Find W x y T6n t h1 h2 (by rw [T6n_len]; omega)
            rw [hpf, show (((p + 1 : Nat) : Int) - 1) = (p : Int) from by omega] at h
            exact h)
          have hwp : wrap64 ((p : Int) + 1) = (p1 : Int) := by rw [hep]; unfold wrap64; omega
          have HXR := Lib.hid ((HX3.out.below HB34.out).below HB4'.out)
          have HTI := Lib.hid hti
          have HCX := Lib.hid hcx
          have hkk : (k : Int) < 10 := by omega
          clear ht htm hp1 hpf hp7 hpt htl hep hti hcx hcv
          go_wp2_with (first
            | (go_at_call 62; go_loud (refine (HF.out _ _ _ HXR.out HTI.out).mono ?_; rintro e w6 ⟨rfl, n6, rfl⟩; have hcx := keepCell (below_drewN (Below.refl wr.heap.size wr) n6) HCX.out; have HOX := Lib.hid (HO.out.below (below_drewN (Below.refl wr.heap.size wr) n6))))
            | (at_builtin; go_loud (refine wpList_app1 T_int HOX.out (by rw [ints_len, HEL.out]; omega) (by exact HB4'.out.size) (by rfl) rfl (by rfl) (by rfl) (by rfl) ?_; intro v1 w7 hown1 hgr1; have HNN := Lib.hid hown1; have HGR := Lib.hid hgr1; clear hown1 hgr1)))
          go_roundw
          case rel =>
            have hbd := below_drewN (Below.refl wr.heap.size wr) n6
            have hge := HO.out.ge
            refine ⟨k + 1, by omega, by go_num, ?_, HGR.out.below (HB4'.out.trans (hbd.mono HB4'.out.size)) HB4'.out.size hge, HGR.out.below (HB.out.trans (hbd.mono HB.out.size)) HB.out.size (fun b hb => Nat.le_trans HSZ.out (hge b hb))⟩
            rw [HTS.out]; exact HNN.out
          case measure => simp [intOf]; omega
        · have hkl : k = 10 := by omega
          have HTK := Lib.hid (show CD.take k = CD from List.take_of_length_le (by rw [hkl]; exact Nat.le_refl _))
          clear hkl
          go_wp2_with fail
          go_ret2
          rw [HR.out, HCC.out]
          have h := HO.out
          rw [HTK.out] at h
          refine ⟨_, rfl, ⟨h.mono HSZ.out, fun z hz => ?_⟩, HB.out⟩
          obtain ⟨t, ht, rfl⟩ := List.mem_map.1 hz
          exact in64_num (cdV_nums HN.out HL.out ht)
  · have HR := Lib.hid (show fnoR a = [] from by rw [fnoR, if_neg hc])
    have HCC := Lib.hid (show fnoC a = infC a from by rw [fnoC, if_neg hc])
    have hd : (infC a != 0) = true := by simp [hc]
    rw [HR.out, HCC.out]
    generalize infC a = cc at *
    clear hc HR HCC
    go_enter Tryz.func39, Tryz.ntmps39
    go_wp2_with (go_at_call 85; refine HCH.out.mono ?_; rintro e w0 ⟨rfl, rfl⟩)
    go_ret2
    exact ⟨_, rfl, OwnInts.nil _ _ _, Below.refl _ _⟩
end Go.Proofs.YtheldcjiogpbjaaGreat
set_option maxRecDepth 100000
set_option linter.unusedVariables false
set_option linter.unusedSimpArgs false
namespace Go.Proofs.YtheldcjiogpbjaaGreat
open Go.RowKit

theorem law_ReducedOrder (w : World) (v : Value) (zs : List Int) (ha : Ints w v zs) :
    Calls Tryz.prog 6 #[v] w fun e w' => e = .returned (.bool true) ∧ Below w.heap.size w w' :=
  law_FnExactReducedOrder_gen w v zs ha (rdoR zs) (chrC zs) (fun _ W v0 h0 => s_ReducedOrder W v0 zs h0) (fun _ W v0 h0 => i_ReducedOrder W v0 zs h0)
end Go.Proofs.YtheldcjiogpbjaaGreat
set_option maxRecDepth 100000
set_option linter.unusedVariables false
set_option linter.unusedSimpArgs false
namespace Go.Proofs.YtheldcjiogpbjaaGreat
open Go.ChangeShapes Go.WideShapes Go.ChangeAt Go.RowKit

theorem in64_of_wf {z : Int} (h : (Lit.int .i64 z).wf = true) : In64 z := by
  simp [Lit.wf, IntKind.min, IntKind.max, IntKind.signed, IntKind.bits] at h
  unfold In64
  omega

theorem open_Ints {H : Type} {enc : TypeId × Value → H} {W : World} {base : Nat} {v : Value} {d : DataW H} {p : List MemPlace}
    (hv : Value.okWide Tryz.prog W .any base 22 v) (h : DataW.Trod enc Tryz.prog W 0 (fun _ => true) true 22 v d p) : ∃ zs, Ints W v zs := by
  obtain ⟨a, len, cap, rfl⟩ := okWide_slice Tryz.underlying22 hv
  obtain ⟨fuel, hf⟩ := h
  rcases open_ints Tryz.underlying22 Tryz.underlying2 (by kernel_rfl) hf with ⟨hcs, _⟩ | ⟨x, l, c, zs, hcs, _, hl, hm, hz, _, hcell, hwz⟩
  · simp [Value.cells] at hcs
    obtain ⟨rfl, rfl, rfl⟩ := hcs
    exact ⟨[], ⟨none, 0, rfl, by simp [ints], by simp [maxLen], fun k u hk => by simp [ints] at hk⟩, fun z hz => by simp at hz⟩
  · simp [Value.cells] at hcs
    obtain ⟨rfl, rfl, rfl⟩ := hcs
    have hz' : zs.length = cap := by simpa using hz
    have hlen : (ints (zs.take len)).length = len := by simp [ints]; omega
    refine ⟨zs.take len, ⟨some x, cap, by rw [hlen], by rw [hlen]; exact hl, hm, fun k u hk => ⟨x, rfl, ?_⟩⟩, fun z hz => in64_of_wf (hwz z (List.mem_of_mem_take hz))⟩
    have hk2 : k < (ints (zs.take len)).length := (List.getElem?_eq_some_iff.1 hk).1
    rw [hlen] at hk2
    rw [hcell k (by omega)]
    have e : (ints (zs.take len))[k]? = some (.int .i64 (zs.getD k 0)) := by
      simp [ints, List.getElem?_take, hk2, List.getD, show k < zs.length by omega]
    rw [e] at hk
    exact hk
end Go.Proofs.YtheldcjiogpbjaaGreat
