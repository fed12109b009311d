/- Walk: l03Sort of the reference. | Plain: all trees with n nodes, from a canonical list to the next smaller one. | Walks: l03Grow, l03Trees of the reference. | Walks: l04End, l04Graft of the reference. | Walk: l04Graft of the reference. | Walk: l04Turn of the reference. | Plain: l04Put, l04Roots, l04Cut, l04Double of the reference, with every premise of the walks; what the kernel finds at the trees with at most 8 nodes. | Words of memory for sums of trees: lists of one's own of structs of a tree and a count. | Walk: partitionsOf of the program. -/
import Derived.Test.YtofabikjjkapmaaPo13
import Derived.Test.YtofabikjjkapmaaPo3
import Derived.Deep.QuietTactic
import Derived.BigQuiet
import Derived.Deep.RegionLaw
import Derived.Test.YtofabikjjkapmaaPo9
import Derived.Test.YtofabikjjkapmaaPo11
import Derived.Test.YtofabikjjkapmaaPo12
import Derived.Deep.CutRange
import Derived.Deep.CutBlock
import Derived.Deep.DeepCutAuto
set_option maxRecDepth 100000
set_option linter.unusedVariables false
set_option linter.unusedSimpArgs false
namespace Go.Proofs.Ytofabikjjkapmaa
open Go.RowKit

theorem ints_oneT (zs : List Int) : ∀ u ∈ ints zs, u.oneCell' = true := by
  intro u hu
  obtain ⟨z, _, rfl⟩ := List.mem_map.1 hu
  rfl
theorem s_l01OwnT (w : World) (v : Value) (zs : List Int) (ha : Ints w v zs) (hn : zs.length ≤ 4294967296) :
    Calls Try.prog 69 #[v] w fun e w' => ∃ r, e = .returned r ∧ OwnInts w' w.heap.size tI r zs ∧ Below w.heap.size w w' := by
  obtain ⟨A, c, rfl, l1, l2, h3⟩ := ha.open_
  have HA := Lib.hid ha
  clear h3 ha
  have OL := Lib.hid (own_lit w tI [] (by simp [maxLen]))
  have B1 := Lib.hid (below1 w (.cells #[] tI))
  go_enter Try.func69, Try.ntmps69
  go_wp2_with (at_builtin; refine wpList_appN T_int OL.out (HA.out.below B1.out).1 (by rw [ints_len]; simp; omega) B1.out.size (ints_oneT _) rfl (by rfl) (by rfl) (by rfl) ?_; intro v1 w2 hown1 hgr1)
  go_ret
  exact ⟨_, rfl, ⟨by simpa using hown1, HA.out.2⟩, hgr1.below B1.out (by simp) OL.out.ge⟩

theorem quiet_more0 {P : Program} {f : FuncId} {args : Array Value} {w : World} {n : Nat} {v : Value}
    (h : Calls P f args (w.drewN n) fun e w' => e = .returned v ∧ ∃ m, w' = (w.drewN n).drewN m) :
    Calls P f args (w.drewN n) fun e w'' => e = .returned v ∧ ∃ m, w'' = w.drewN m :=
  h.mono fun _ _ ⟨he, m, hm⟩ => ⟨he, n + m, by rw [hm, World.drewN_drewN]⟩

set_option maxHeartbeats 8000000 in
theorem s_l03Sort (w : World) (v : Value) (bs : List (List Nat)) (ha : Rows w v (bs.map up)) (hn : bs.length ≤ 1000) (hl : ∀ b ∈ bs, b.length ≤ 1000) :
    Calls Try.prog 80 #[v] w fun e w' => ∃ x, e = .returned x ∧ LA w' w.heap.size x ((srtB bs).map up) ∧ Below w.heap.size w w' := by
  have HL := Lib.hid hl
  obtain ⟨A, c, rfl, l1, l2, h3⟩ := ha.open_
  rw [List.length_map] at l1 h3 ⊢
  have H3 := Lib.hid h3
  have OL := Lib.hid (show Own (w.alloc (.cells #[] tL)) w.heap.size tL (.slice (some ⟨w.heap.size, 0, none⟩) 0 0) [] from own_lit w tL [] (by simp [maxLen]))
  clear ha hl h3
  go_enter Try.func80, Try.ntmps80
  go_wp2_with fail
  go_loopw [3, 4] (fun sv i wr => ∃ (j : Nat) (vs : List Value), j ≤ bs.length ∧ i = .int .i64 j ∧ Own wr w.heap.size tL sv vs ∧ RR wr w.heap.size vs ((srtBF [] (bs.take j)).map up) ∧ vs.Pairwise Apart ∧ Below w.heap.size w wr) (fun _ i _ => bs.length - (intOf i).toNat)
  case atStart => exact ⟨0, [], Nat.zero_le _, rfl, OL.out, RR.nil _ _, List.Pairwise.nil, below1 _ _⟩
  case round =>
    obtain ⟨j, vs, hj, rfl, hown, hrr, hap, hbw⟩ := hrel
    clear OL
    have HAP := Lib.hid hap
    clear hap
    have hsl : (srtBF [] (bs.take j)).length = j := by have := (srtBF_perm [] (bs.take j)).length_eq; rw [this]; simp; omega
    have hvl : vs.length = j := by rw [hrr.1, List.length_map, hsl]
    obtain ⟨A2, c2, rfl, k1, k2⟩ := hown.cells.open_
    have HO := Lib.hid hown
    have HRR := Lib.hid hrr
    have HBW := Lib.hid hbw
    have HVL := Lib.hid hvl
    rw [hvl] at HO k1 ⊢
    by_cases hlt : j < bs.length
    · obtain ⟨ad, u, zs, rfl, hz, hu, hc0⟩ := H3.out j hlt
      have hc : wr.cell? (ad.add j) = some u := by
        rw [HBW.out.cell (by rw [block_add]; have := World.block_lt_of_cell? w _ hc0; rwa [block_add] at this)]; exact hc0
      have hbj : bs[j]? = some (bs[j]'hlt) := List.getElem?_eq_getElem _
      have hzb : zs = up (bs[j]'hlt) := by rw [List.getElem?_map, hbj] at hz; injection hz with hz; exact hz.symm
      subst hzb
      have HPL := Lib.hid (HL.out _ (List.mem_of_getElem? hbj))
      have HSN := Lib.hid (show srtBF [] (bs.take (j + 1)) = insB (bs[j]'hlt) (srtBF [] (bs.take j)) by rw [List.take_add_one, hbj]; exact srtBF_snoc _ _ _)
      have hu2 := hu.below hbw
      obtain ⟨Au, cu, hue, -, -, -⟩ := hu2.open_
      rw [up_len] at hue
      subst hue
      have HU := Lib.hid hu2
      have hji : (j : Int) < (bs.length : Int) := by omega
      have hj1 : j ≤ 1000 := by omega
      generalize hss : srtBF [] (bs.take j) = ss at HRR HSN hsl
      have HSL := Lib.hid hsl
      generalize bs[j]'hlt = p at HU HPL HSN hc hc0
      have HIN := Lib.hid (insB_at p ss)
      have HST := Lib.hid (insBAt_step p ss)
      have HAL := Lib.hid (show insBAt p ss ≤ j from by have := insBAt_le p ss; omega)
      have HONE := Lib.hid HRR.out.oneCell
      generalize insBAt p ss = a at HIN HST HAL
      clear hown hrr hbw hz hu hu2 hbj hss hc0 hvl hsl
      go_wp2_with fail
      obtain ⟨wo, rfl⟩ : ∃ wo : World, wo = wr := ⟨_, rfl⟩
      go_loopw [5] (fun i wi => ∃ (k n : Nat), k ≤ a ∧ i = .int .i64 k ∧ wi = wo.drewN n) (fun i _ => a - (intOf i).toNat)
      case atStart => exact ⟨0, 0, Nat.zero_le _, rfl, rfl⟩
      case round =>
        obtain ⟨k, n, hk, rfl, rfl⟩ := hrel
        have hrow : k < j → ∃ ad' u' q, A2 = some ad' ∧ wo.cell? (ad'.add k) = some u' ∧ Ints wo u' (up q) ∧ ss[k]? = some q := by
          intro hkj
          have hu' : vs[k]? = some (vs[k]'(by rw [HVL.out]; exact hkj)) := List.getElem?_eq_getElem _
          have hq : ss[k]? = some (ss[k]'(by rw [HSL.out]; exact hkj)) := List.getElem?_eq_getElem _
          have hi := HRR.out.2 k _ _ hu' (by rw [List.getElem?_map, hq]; rfl)
          obtain ⟨ad', n', c', he, hc'⟩ := HO.out.cells.at_ hu'
          simp only [Value.slice.injEq] at he
          exact ⟨ad', _, _, he.1, hc', hi.ints, hq⟩
        by_cases hlt2 : k < a
        · obtain ⟨ad', u', q, rfl, hc', hq1, hq2⟩ := hrow (by have := HAL.out; omega)
          have hless : befN p q = false := by
            rcases HST.out k q (by omega) hq2 with ⟨_, h⟩ | ⟨h, _⟩
            · omega
            · exact h
          have hbf := fun n => s_l03Before (wo.drewN n) _ _ p q (HU.out.drewN n) (hq1.drewN n)
          rw [hless] at hbf
          have HBF := Lib.hid hbf
          have hkj : (k : Int) < (j : Int) := by have := HAL.out; omega
          have hd : decide ((k : Int) < (j : Int)) = true := by simp; omega
          clear hq1 hq2 hrow hless hbf
          go_wp2_with fail
          go_quiet ((go_at_call 82; first | exact quiet_more (HBF.out _) | exact quiet_more0 (HBF.out _)))
          go_wp2_with fail
          go_roundw
          case rel => exact ⟨k + 1, _, by omega, by go_num, rfl⟩
          case measure => simp [intOf]; omega
        · have hka : a = k := by omega
          subst hka
          have haj := HAL.out
          obtain ⟨y1, hy1, hcy1⟩ := cells_from HO.out.cells HVL.out.symm a (by rw [HVL.out]; exact haj)
          obtain ⟨y2, hy2, hcy2⟩ := cells_to HO.out.cells k1 HVL.out.symm a (by rw [HVL.out]; exact haj)
          have HCY1 := Lib.hid (fun W (h : Below wo.heap.size wo W) => hcy1.below h)
          have HCY2 := Lib.hid (fun W (h : Below wo.heap.size wo W) => hcy2.below h)
          have hex : ∃ n', True := ⟨0, trivial⟩
          have hcase : (∃ ad' u' q, A2 = some ad' ∧ wo.cell? (ad'.add a) = some u' ∧ Ints wo u' (up q) ∧ befN p q = true ∧ (a : Int) < (j : Int)) ∨ j = a := by
            by_cases h : a < j
            · obtain ⟨ad', u', q, h1, h2, h3, h4⟩ := hrow h
              refine .inl ⟨ad', u', q, h1, h2, h3, ?_, by omega⟩
              rcases HST.out a q (Nat.le_refl _) h4 with ⟨h, _⟩ | ⟨_, h⟩
              · exact h
              · omega
            · exact .inr (by omega)
          clear hcy1 hcy2 hrow hlt2 hk hex
          rcases hcase with ⟨ad', u', q, rfl, hc', hq1, hless, hkj⟩ | hja
          · have hbf := fun n => s_l03Before (wo.drewN n) _ _ p q (HU.out.drewN n) (hq1.drewN n)
            rw [hless] at hbf
            have HBF := Lib.hid hbf
            have hd : decide ((a : Int) < (j : Int)) = true := by simp; omega
            clear hq1 hless hbf
            go_wp2_with fail
            go_quiet ((go_at_call 82; first | exact quiet_more (HBF.out _) | exact quiet_more0 (HBF.out _)))
            go_wp2_with fail
            rw [World.drewN_drewN]
            have HB1 := Lib.hid (below_drewN (Below.refl wo.heap.size wo) (n + nq))
            have hc1 : (wo.drewN (n + nq)).cell? (ad.add j) = some (.slice Au p.length cu) := hc
            have HU1 := Lib.hid (HU.out.drewN (n + nq))
            have hsz1 : wo.heap.size = (wo.drewN (n + nq)).heap.size := rfl
            generalize (wo.drewN (n + nq)) = w1 at HB1 hc1 HU1 hsz1 ⊢
            clear hc
            go_region_law (first
              | (go_simp; go_at_call 69; refine (s_l01OwnT _ _ (up p) (by exact HU1.out.drewN _) (by rw [up_len]; have := HPL.out; omega)).mono ?_; rintro e w2 ⟨r2, rfl, ho2, hb2⟩; obtain ⟨A5, c5, he5, -, -, -⟩ := ho2.ints.open_; rw [up_len] at he5; subst he5)
              | (refine stp_appN T_row (W := w2.alloc (.cells #[.slice A5 p.length c5] tL)) (B := w2.heap.size) (v := .slice (some ⟨w2.heap.size, 0, none⟩) 1 1) (vs := [.slice A5 p.length c5]) (y := y1) (us := vs.drop a) (own_lit w2 tL [.slice A5 p.length c5] (by simp [maxLen])) (HCY1.out _ (HB1.out.trans (((below_of_drew hb2).trans ((below1 w2 _).mono (by exact (below_of_drew hb2).size))).mono HB1.out.size))) (by have h := HVL.out; simp only [List.length_drop, List.length_cons, List.length_nil, h]; omega) (by simp) (fun u hu => HONE.out u (List.mem_of_mem_drop hu)) (by rfl) rfl (by rfl) (by rfl) ?_; intro v1 w3 hown1 hgr1))
            all_goals
              have HB2 := Lib.hid (below_of_drew hb2)
              have HAF := Lib.hid (HRR.out.fresh (M := w1.heap.size) HB1.out.size (fun b hb => ho2.1.ge b hb))
              have HO2 := Lib.hid ho2
              have HB3 := Lib.hid (hgr1.below (below1 w2 _) (below1 w2 _).size (fun b hb => by simp [Value.ownBlock] at hb; omega))
              clear hgr1 hb2 ho2 hc1
              go_wp2_with (first
                | (at_builtin; refine wpList_appN T_row (B := w3.heap.size) (v := .slice (some ⟨w3.heap.size, 0, none⟩) 0 0) (vs := []) (own_lit w3 tL [] (by simp [maxLen])) ((HCY2.out _ (HB1.out.trans ((HB2.out.trans (HB3.out.mono HB2.out.size)).mono HB1.out.size))).below (below1 w3 _)) (by have h := HVL.out; simp only [List.length_take, List.length_nil, h]; omega) (by simp) (fun u hu => HONE.out u (List.mem_of_mem_take hu)) (by rfl) rfl (by rfl) (by rfl) ?_; intro v2 w4 hown2 hgr2; have HB4 := Lib.hid (hgr2.below (below1 w3 _) (below1 w3 _).size (fun b hb => by simp [Value.ownBlock] at hb; omega)); clear hgr2)
                | (at_builtin; refine wpList_appN T_row (B := w3.heap.size) (v := v2) hown2 (hown1.below HB4.out).cells (by have h := HVL.out; simp only [List.length_append, List.length_take, List.length_drop, List.length_cons, List.length_nil, h]; omega) HB4.out.size (fun u hu => by rcases List.mem_append.1 hu with hu | hu; (simp at hu; subst hu; exact (RR.one HO2.out).oneCell _ (by simp)); exact HONE.out u (List.mem_of_mem_drop hu)) (by rfl) rfl (by rfl) (by rfl) ?_; intro v3 w5 hown3 hgr3; have HB5 := Lib.hid (hgr3.below HB4.out HB4.out.size hown2.ge); clear hgr3))
              go_roundw
              case rel =>
                have b25 := HB3.out.trans (HB5.out.mono HB3.out.size)
                have b15 := HB2.out.trans (b25.mono HB2.out.size)
                have bw5 := HB1.out.trans (b15.mono HB1.out.size)
                have hs1 := HB1.out.size
                have hs2 := HB2.out.size
                have hs3 := HB3.out.size
                refine ⟨j + 1, _, by omega, by go_num, hown3.mono (Nat.le_trans HBW.out.size (by omega)), ?_, pairApart_ins HAP.out HAF.out _, HBW.out.trans (bw5.mono HBW.out.size)⟩
                rw [HSN.out, HIN.out, List.map_append, List.map_cons, List.map_take, List.map_drop]
                exact (HRR.out.below bw5).insert ((HO2.out.below b25).mono (Nat.le_trans HBW.out.size hs1)) _
              case measure => simp [intOf]; omega
          · have hd : decide ((a : Int) < (j : Int)) = false := by simp; omega
            have hd' : ¬ ((a : Int) < (j : Int)) := by omega
            have hd2 : ¬ (a < j) := by omega
            have hd3 : decide (a < j) = false := by simp; omega
            clear hja
            go_wp2_with fail
            go_quiet (fail)
            go_wp2_with fail
            rw [World.drewN_drewN]
            have HB1 := Lib.hid (below_drewN (Below.refl wo.heap.size wo) (n + nq))
            have hc1 : (wo.drewN (n + nq)).cell? (ad.add j) = some (.slice Au p.length cu) := hc
            have HU1 := Lib.hid (HU.out.drewN (n + nq))
            have hsz1 : wo.heap.size = (wo.drewN (n + nq)).heap.size := rfl
            generalize (wo.drewN (n + nq)) = w1 at HB1 hc1 HU1 hsz1 ⊢
            clear hc
            go_region_law (first
              | (go_simp; go_at_call 69; refine (s_l01OwnT _ _ (up p) (by exact HU1.out.drewN _) (by rw [up_len]; have := HPL.out; omega)).mono ?_; rintro e w2 ⟨r2, rfl, ho2, hb2⟩; obtain ⟨A5, c5, he5, -, -, -⟩ := ho2.ints.open_; rw [up_len] at he5; subst he5)
              | (refine stp_appN T_row (W := w2.alloc (.cells #[.slice A5 p.length c5] tL)) (B := w2.heap.size) (v := .slice (some ⟨w2.heap.size, 0, none⟩) 1 1) (vs := [.slice A5 p.length c5]) (y := y1) (us := vs.drop a) (own_lit w2 tL [.slice A5 p.length c5] (by simp [maxLen])) (HCY1.out _ (HB1.out.trans (((below_of_drew hb2).trans ((below1 w2 _).mono (by exact (below_of_drew hb2).size))).mono HB1.out.size))) (by have h := HVL.out; simp only [List.length_drop, List.length_cons, List.length_nil, h]; omega) (by simp) (fun u hu => HONE.out u (List.mem_of_mem_drop hu)) (by rfl) rfl (by rfl) (by rfl) ?_; intro v1 w3 hown1 hgr1))
            all_goals
              have HB2 := Lib.hid (below_of_drew hb2)
              have HAF := Lib.hid (HRR.out.fresh (M := w1.heap.size) HB1.out.size (fun b hb => ho2.1.ge b hb))
              have HO2 := Lib.hid ho2
              have HB3 := Lib.hid (hgr1.below (below1 w2 _) (below1 w2 _).size (fun b hb => by simp [Value.ownBlock] at hb; omega))
              clear hgr1 hb2 ho2 hc1
              go_wp2_with (first
                | (at_builtin; refine wpList_appN T_row (B := w3.heap.size) (v := .slice (some ⟨w3.heap.size, 0, none⟩) 0 0) (vs := []) (own_lit w3 tL [] (by simp [maxLen])) ((HCY2.out _ (HB1.out.trans ((HB2.out.trans (HB3.out.mono HB2.out.size)).mono HB1.out.size))).below (below1 w3 _)) (by have h := HVL.out; simp only [List.length_take, List.length_nil, h]; omega) (by simp) (fun u hu => HONE.out u (List.mem_of_mem_take hu)) (by rfl) rfl (by rfl) (by rfl) ?_; intro v2 w4 hown2 hgr2; have HB4 := Lib.hid (hgr2.below (below1 w3 _) (below1 w3 _).size (fun b hb => by simp [Value.ownBlock] at hb; omega)); clear hgr2)
                | (at_builtin; refine wpList_appN T_row (B := w3.heap.size) (v := v2) hown2 (hown1.below HB4.out).cells (by have h := HVL.out; simp only [List.length_append, List.length_take, List.length_drop, List.length_cons, List.length_nil, h]; omega) HB4.out.size (fun u hu => by rcases List.mem_append.1 hu with hu | hu; (simp at hu; subst hu; exact (RR.one HO2.out).oneCell _ (by simp)); exact HONE.out u (List.mem_of_mem_drop hu)) (by rfl) rfl (by rfl) (by rfl) ?_; intro v3 w5 hown3 hgr3; have HB5 := Lib.hid (hgr3.below HB4.out HB4.out.size hown2.ge); clear hgr3))
              go_roundw
              case rel =>
                have b25 := HB3.out.trans (HB5.out.mono HB3.out.size)
                have b15 := HB2.out.trans (b25.mono HB2.out.size)
                have bw5 := HB1.out.trans (b15.mono HB1.out.size)
                have hs1 := HB1.out.size
                have hs2 := HB2.out.size
                have hs3 := HB3.out.size
                refine ⟨j + 1, _, by omega, by go_num, hown3.mono (Nat.le_trans HBW.out.size (by omega)), ?_, pairApart_ins HAP.out HAF.out _, HBW.out.trans (bw5.mono HBW.out.size)⟩
                rw [HSN.out, HIN.out, List.map_append, List.map_cons, List.map_take, List.map_drop]
                exact (HRR.out.below bw5).insert ((HO2.out.below b25).mono (Nat.le_trans HBW.out.size hs1)) _
              case measure => simp [intOf]; omega
    · have : j = bs.length := by omega
      subst this
      rw [List.take_length] at HRR
      go_wp2_with fail
      go_ret
      exact ⟨_, rfl, ⟨vs, HO.out, HRR.out, HAP.out⟩, HBW.out⟩
end Go.Proofs.Ytofabikjjkapmaa

set_option linter.unusedVariables false
set_option linter.unusedSimpArgs false
set_option maxRecDepth 100000
namespace Go.Proofs.Ytofabikjjkapmaa

end Go.Proofs.Ytofabikjjkapmaa

set_option maxRecDepth 100000
set_option linter.unusedVariables false
set_option linter.unusedSimpArgs false
namespace Go.Proofs.Ytofabikjjkapmaa
open Go.RowKit

theorem Grow.refl (w : World) (v : Value) : Grow w w v v := ⟨World.grownBy.refl _ _, .inl rfl⟩
theorem Grow.trans {w w1 w2 : World} {v v1 v2 : Value} (h : Grow w w1 v v1) (h' : Grow w1 w2 v1 v2) : Grow w w2 v v2 := by
  refine ⟨⟨h'.1.os.trans h.1.os, h'.1.tape.trans h.1.tape, h'.1.output.trans h.1.output, Nat.le_trans h.1.size h'.1.size, fun k hk hne => ?_⟩, ?_⟩
  · refine (h'.1.block k (Nat.lt_of_lt_of_le hk h.1.size) ?_).trans (h.1.block k hk hne)
    rcases h.2 with h2 | ⟨g, h2, h3⟩
    · rw [h2]; exact hne
    · rw [h2]; intro e; injection e with e; omega
  · rcases h'.2 with h3 | ⟨g, h3, h4⟩
    · rw [h3]; exact h.2
    · exact .inr ⟨g, h3, Nat.le_trans h.1.size h4⟩
end Go.Proofs.Ytofabikjjkapmaa

set_option maxRecDepth 100000
set_option linter.unusedVariables false
set_option linter.unusedSimpArgs false
namespace Go.Proofs.Ytofabikjjkapmaa
open Go.RowKit

end Go.Proofs.Ytofabikjjkapmaa

set_option maxRecDepth 100000
set_option linter.unusedVariables false
set_option linter.unusedSimpArgs false
namespace Go.Proofs.Ytofabikjjkapmaa
open Go.RowKit

theorem w64_in' (n : Int) (h : -9223372036854775808 ≤ n ∧ n ≤ 9223372036854775807) : wrap64 n = n := by unfold wrap64; omega

end Go.Proofs.Ytofabikjjkapmaa

set_option maxRecDepth 100000
set_option linter.unusedVariables false
set_option linter.unusedSimpArgs false
namespace Go.Proofs.Ytofabikjjkapmaa
open Go.RowKit

end Go.Proofs.Ytofabikjjkapmaa

set_option linter.unusedVariables false
set_option linter.unusedSimpArgs false
set_option maxRecDepth 100000
namespace Go.Proofs.Ytofabikjjkapmaa

abbrev CT := List Nat × Nat
end Go.Proofs.Ytofabikjjkapmaa

set_option maxRecDepth 100000
set_option linter.unusedVariables false
set_option linter.unusedSimpArgs false
namespace Go.Proofs.Ytofabikjjkapmaa
open Go.RowKit

theorem keepCell {w w' : World} {ad : Addr} {v : Value} (hb : Below w.heap.size w w') (h : w.cell? ad = some v) : w'.cell? ad = some v := by rw [hb.cell (World.block_lt_of_cell? w _ h)]; exact h
/-- the cells of a sum: trees in blocks from B on, and counts -/
def CtE (w : World) (B : Nat) (css : List (List Value)) (xs : List CT) : Prop := css.length = xs.length ∧ ∀ (k : Nat) (c : List Value) (x : CT), css[k]? = some c → xs[k]? = some x → ∃ u, c = [u, .int .i64 (x.2 : Nat)] ∧ OwnInts w B tI u (up x.1)
section
variable {w w' : World} {B : Nat} {css : List (List Value)} {xs : List CT}
theorem CtE.nil (w : World) (B : Nat) : CtE w B [] [] := ⟨rfl, fun k c x h => by simp at h⟩
theorem CtE.below (h : CtE w B css xs) (hb : Below w.heap.size w w') : CtE w' B css xs := ⟨h.1, fun k c x hc hx => by obtain ⟨u, e, ho⟩ := h.2 k c x hc hx; exact ⟨u, e, ho.below hb⟩⟩
theorem CtE.mono {B' : Nat} (h : CtE w B css xs) (hB : B' ≤ B) : CtE w B' css xs := ⟨h.1, fun k c x hc hx => by obtain ⟨u, e, ho⟩ := h.2 k c x hc hx; exact ⟨u, e, ho.mono hB⟩⟩
theorem CtE.kept {v : Value} {e : TypeId} (h : CtE w B css xs) (hg : w.grownBy w' v.ownBlock) (hb : BT w e v) (hne : tI ≠ e) : CtE w' B css xs := ⟨h.1, fun k c x hc hx => by obtain ⟨u, e, ho⟩ := h.2 k c x hc hx; exact ⟨u, e, ho.kept hg (ho.1.bt.ne hb hne)⟩⟩
theorem CtE.snoc {u : Value} {t : List Nat} {n : Nat} (h : CtE w B css xs) (hu : OwnInts w B tI u (up t)) : CtE w B (css ++ [[u, .int .i64 (n : Nat)]]) (xs ++ [(t, n)]) := by
  refine ⟨by simp [h.1], fun k c x hk hx => ?_⟩
  by_cases hlt : k < css.length
  · rw [List.getElem?_append_left hlt] at hk
    rw [List.getElem?_append_left (by rw [← h.1]; exact hlt)] at hx
    exact h.2 k c x hk hx
  · have hkl := (List.getElem?_eq_some_iff.1 hk).1
    simp at hkl
    have : k = css.length := by omega
    subst this
    rw [List.getElem?_append_right (Nat.le_refl _)] at hk
    rw [List.getElem?_append_right (by rw [h.1]; exact Nat.le_refl _), h.1] at hx
    simp at hk hx
    subst hk; subst hx
    exact ⟨u, rfl, hu⟩
end
section
variable {w w' : World} {B : Nat} {v : Value} {xs : List CT}
end
end Go.Proofs.Ytofabikjjkapmaa

set_option maxRecDepth 100000
set_option linter.unusedVariables false
set_option linter.unusedSimpArgs false
namespace Go.Proofs.Ytofabikjjkapmaa
open Go.RowKit

theorem T_part : ElemK Try.prog 35 57 (.agg #[.slice none 0 0, .slice none 0 0, .int .i64 0]) 3 56 := ⟨Try.underlying35, by kernel_rfl, rfl, by omega, by omega⟩
/-- the pieces and the skeleton of a mask -/
def prtN (t : List Nat) (m : Nat) : PK := (srtB ((mapO (fun i => canO 9 (pieN t m i)) (0 :: cutsN m (t.length - 1) 1)).getD []), (canO 9 (sklN t m)).getD [])
def prtL (t : List Nat) (k : Nat) : List PK := (List.range k).map fun i => prtN t (2 * i)
theorem prtL_succ (t : List Nat) (k : Nat) : prtL t (k + 1) = prtL t k ++ [prtN t (2 * k)] := by simp [prtL, List.range_succ]
end Go.Proofs.Ytofabikjjkapmaa

