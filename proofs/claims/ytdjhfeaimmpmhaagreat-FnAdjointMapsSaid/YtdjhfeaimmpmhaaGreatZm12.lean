/- Walk: l03Sort of the reference. | Plain: all trees with n nodes, from a canonical list to the next smaller one. | Walks: l03Grow, l03Trees of the reference. | Walks: l04End, l04Graft of the reference. | Walk: l04Graft of the reference. -/
import Derived.Test.YtdjhfeaimmpmhaaGreatZm11
import Derived.Test.YtdjhfeaimmpmhaaGreatZm7
import Derived.Deep.QuietTactic
import Derived.BigQuiet
import Derived.Deep.RegionLaw
import Derived.Test.YtdjhfeaimmpmhaaGreatZm8
import Derived.Test.YtdjhfeaimmpmhaaGreatZm9
set_option maxRecDepth 100000
set_option linter.unusedVariables false
set_option linter.unusedSimpArgs false
namespace Go.Proofs.YtdjhfeaimmpmhaaGreat
open Go.RowKit

theorem ints_oneT (zs : List Int) : ∀ u ∈ ints zs, u.oneCell' = true := by
  intro u hu
  obtain ⟨z, _, rfl⟩ := List.mem_map.1 hu
  rfl
theorem s_l01OwnT (w : World) (v : Value) (zs : List Int) (ha : Ints w v zs) (hn : zs.length ≤ 4294967296) :
    Calls Tryz.prog 158 #[v] w fun e w' => ∃ r, e = .returned r ∧ OwnInts w' w.heap.size tI r zs ∧ Below w.heap.size w w' := by
  obtain ⟨A, c, rfl, l1, l2, h3⟩ := ha.open_
  have HA := Lib.hid ha
  clear h3 ha
  have OL := Lib.hid (own_lit w tI [] (by simp [maxLen]))
  have B1 := Lib.hid (below1 w (.cells #[] tI))
  go_enter Tryz.func158, Tryz.ntmps158
  go_wp2_with (at_builtin; refine wpList_appN T_int OL.out (HA.out.below B1.out).1 (by rw [ints_len]; simp; omega) B1.out.size (ints_oneT _) rfl (by rfl) (by rfl) (by rfl) ?_; intro v1 w2 hown1 hgr1)
  go_ret
  exact ⟨_, rfl, ⟨by simpa using hown1, HA.out.2⟩, hgr1.below B1.out (by simp) OL.out.ge⟩

theorem quiet_more0 {P : Program} {f : FuncId} {args : Array Value} {w : World} {n : Nat} {v : Value}
    (h : Calls P f args (w.drewN n) fun e w' => e = .returned v ∧ ∃ m, w' = (w.drewN n).drewN m) :
    Calls P f args (w.drewN n) fun e w'' => e = .returned v ∧ ∃ m, w'' = w.drewN m :=
  h.mono fun _ _ ⟨he, m, hm⟩ => ⟨he, n + m, by rw [hm, World.drewN_drewN]⟩

set_option maxHeartbeats 8000000 in
theorem s_l03Sort (w : World) (v : Value) (bs : List (List Nat)) (ha : Rows w v (bs.map up)) (hn : bs.length ≤ 1000) (hl : ∀ b ∈ bs, b.length ≤ 1000) :
    Calls Tryz.prog 238 #[v] w fun e w' => ∃ x, e = .returned x ∧ LA w' w.heap.size x ((srtB bs).map up) ∧ Below w.heap.size w w' := by
  have HL := Lib.hid hl
  obtain ⟨A, c, rfl, l1, l2, h3⟩ := ha.open_
  rw [List.length_map] at l1 h3 ⊢
  have H3 := Lib.hid h3
  have OL := Lib.hid (show Own (w.alloc (.cells #[] tL)) w.heap.size tL (.slice (some ⟨w.heap.size, 0, none⟩) 0 0) [] from own_lit w tL [] (by simp [maxLen]))
  clear ha hl h3
  go_enter Tryz.func238, Tryz.ntmps238
  go_wp2_with fail
  go_loopw [3, 4] (fun sv i wr => ∃ (j : Nat) (vs : List Value), j ≤ bs.length ∧ i = .int .i64 j ∧ Own wr w.heap.size tL sv vs ∧ RR wr w.heap.size vs ((srtBF [] (bs.take j)).map up) ∧ vs.Pairwise Apart ∧ Below w.heap.size w wr) (fun _ i _ => bs.length - (intOf i).toNat)
  case atStart => exact ⟨0, [], Nat.zero_le _, rfl, OL.out, RR.nil _ _, List.Pairwise.nil, below1 _ _⟩
  case round =>
    obtain ⟨j, vs, hj, rfl, hown, hrr, hap, hbw⟩ := hrel
    clear OL
    have HAP := Lib.hid hap
    clear hap
    have hsl : (srtBF [] (bs.take j)).length = j := by have := (srtBF_perm [] (bs.take j)).length_eq; rw [this]; simp; omega
    have hvl : vs.length = j := by rw [hrr.1, List.length_map, hsl]
    obtain ⟨A2, c2, rfl, k1, k2⟩ := hown.cells.open_
    have HO := Lib.hid hown
    have HRR := Lib.hid hrr
    have HBW := Lib.hid hbw
    have HVL := Lib.hid hvl
    rw [hvl] at HO k1 ⊢
    by_cases hlt : j < bs.length
    · obtain ⟨ad, u, zs, rfl, hz, hu, hc0⟩ := H3.out j hlt
      have hc : wr.cell? (ad.add j) = some u := by
        rw [HBW.out.cell (by rw [block_add]; have := World.block_lt_of_cell? w _ hc0; rwa [block_add] at this)]; exact hc0
      have hbj : bs[j]? = some (bs[j]'hlt) := List.getElem?_eq_getElem _
      have hzb : zs = up (bs[j]'hlt) := by rw [List.getElem?_map, hbj] at hz; injection hz with hz; exact hz.symm
      subst hzb
      have HPL := Lib.hid (HL.out _ (List.mem_of_getElem? hbj))
      have HSN := Lib.hid (show srtBF [] (bs.take (j + 1)) = insB (bs[j]'hlt) (srtBF [] (bs.take j)) by rw [List.take_add_one, hbj]; exact srtBF_snoc _ _ _)
      have hu2 := hu.below hbw
      obtain ⟨Au, cu, hue, -, -, -⟩ := hu2.open_
      rw [up_len] at hue
      subst hue
      have HU := Lib.hid hu2
      have hji : (j : Int) < (bs.length : Int) := by omega
      have hj1 : j ≤ 1000 := by omega
      generalize hss : srtBF [] (bs.take j) = ss at HRR HSN hsl
      have HSL := Lib.hid hsl
      generalize bs[j]'hlt = p at HU HPL HSN hc hc0
      have HIN := Lib.hid (insB_at p ss)
      have HST := Lib.hid (insBAt_step p ss)
      have HAL := Lib.hid (show insBAt p ss ≤ j from by have := insBAt_le p ss; omega)
      have HONE := Lib.hid HRR.out.oneCell
      generalize insBAt p ss = a at HIN HST HAL
      clear hown hrr hbw hz hu hu2 hbj hss hc0 hvl hsl
      go_wp2_with fail
      obtain ⟨wo, rfl⟩ : ∃ wo : World, wo = wr := ⟨_, rfl⟩
      go_loopw [5] (fun i wi => ∃ (k n : Nat), k ≤ a ∧ i = .int .i64 k ∧ wi = wo.drewN n) (fun i _ => a - (intOf i).toNat)
      case atStart => exact ⟨0, 0, Nat.zero_le _, rfl, rfl⟩
      case round =>
        obtain ⟨k, n, hk, rfl, rfl⟩ := hrel
        have hrow : k < j → ∃ ad' u' q, A2 = some ad' ∧ wo.cell? (ad'.add k) = some u' ∧ Ints wo u' (up q) ∧ ss[k]? = some q := by
          intro hkj
          have hu' : vs[k]? = some (vs[k]'(by rw [HVL.out]; exact hkj)) := List.getElem?_eq_getElem _
          have hq : ss[k]? = some (ss[k]'(by rw [HSL.out]; exact hkj)) := List.getElem?_eq_getElem _
          have hi := HRR.out.2 k _ _ hu' (by rw [List.getElem?_map, hq]; rfl)
          obtain ⟨ad', n', c', he, hc'⟩ := HO.out.cells.at_ hu'
          simp only [Value.slice.injEq] at he
          exact ⟨ad', _, _, he.1, hc', hi.ints, hq⟩
        by_cases hlt2 : k < a
        · obtain ⟨ad', u', q, rfl, hc', hq1, hq2⟩ := hrow (by have := HAL.out; omega)
          have hless : befN p q = false := by
            rcases HST.out k q (by omega) hq2 with ⟨_, h⟩ | ⟨h, _⟩
            · omega
            · exact h
          have hbf := fun n => s_l03Before (wo.drewN n) _ _ p q (HU.out.drewN n) (hq1.drewN n)
          rw [hless] at hbf
          have HBF := Lib.hid hbf
          have hkj : (k : Int) < (j : Int) := by have := HAL.out; omega
          have hd : decide ((k : Int) < (j : Int)) = true := by simp; omega
          clear hq1 hq2 hrow hless hbf
          go_wp2_with fail
          go_quiet ((go_at_call 206; first | exact quiet_more (HBF.out _) | exact quiet_more0 (HBF.out _)))
          go_wp2_with fail
          go_roundw
          case rel => exact ⟨k + 1, _, by omega, by go_num, rfl⟩
          case measure => simp [intOf]; omega
        · have hka : a = k := by omega
          subst hka
          have haj := HAL.out
          obtain ⟨y1, hy1, hcy1⟩ := cells_from HO.out.cells HVL.out.symm a (by rw [HVL.out]; exact haj)
          obtain ⟨y2, hy2, hcy2⟩ := cells_to HO.out.cells k1 HVL.out.symm a (by rw [HVL.out]; exact haj)
          have HCY1 := Lib.hid (fun W (h : Below wo.heap.size wo W) => hcy1.below h)
          have HCY2 := Lib.hid (fun W (h : Below wo.heap.size wo W) => hcy2.below h)
          have hex : ∃ n', True := ⟨0, trivial⟩
          have hcase : (∃ ad' u' q, A2 = some ad' ∧ wo.cell? (ad'.add a) = some u' ∧ Ints wo u' (up q) ∧ befN p q = true ∧ (a : Int) < (j : Int)) ∨ j = a := by
            by_cases h : a < j
            · obtain ⟨ad', u', q, h1, h2, h3, h4⟩ := hrow h
              refine .inl ⟨ad', u', q, h1, h2, h3, ?_, by omega⟩
              rcases HST.out a q (Nat.le_refl _) h4 with ⟨h, _⟩ | ⟨_, h⟩
              · exact h
              · omega
            · exact .inr (by omega)
          clear hcy1 hcy2 hrow hlt2 hk hex
          rcases hcase with ⟨ad', u', q, rfl, hc', hq1, hless, hkj⟩ | hja
          · have hbf := fun n => s_l03Before (wo.drewN n) _ _ p q (HU.out.drewN n) (hq1.drewN n)
            rw [hless] at hbf
            have HBF := Lib.hid hbf
            have hd : decide ((a : Int) < (j : Int)) = true := by simp; omega
            clear hq1 hless hbf
            go_wp2_with fail
            go_quiet ((go_at_call 206; first | exact quiet_more (HBF.out _) | exact quiet_more0 (HBF.out _)))
            go_wp2_with fail
            rw [World.drewN_drewN]
            have HB1 := Lib.hid (below_drewN (Below.refl wo.heap.size wo) (n + nq))
            have hc1 : (wo.drewN (n + nq)).cell? (ad.add j) = some (.slice Au p.length cu) := hc
            have HU1 := Lib.hid (HU.out.drewN (n + nq))
            have hsz1 : wo.heap.size = (wo.drewN (n + nq)).heap.size := rfl
            generalize (wo.drewN (n + nq)) = w1 at HB1 hc1 HU1 hsz1 ⊢
            clear hc
            go_region_law (first
              | (go_simp; go_at_call 158; refine (s_l01OwnT _ _ (up p) (by exact HU1.out.drewN _) (by rw [up_len]; have := HPL.out; omega)).mono ?_; rintro e w2 ⟨r2, rfl, ho2, hb2⟩; obtain ⟨A5, c5, he5, -, -, -⟩ := ho2.ints.open_; rw [up_len] at he5; subst he5)
              | (refine stp_appN T_row (W := w2.alloc (.cells #[.slice A5 p.length c5] tL)) (B := w2.heap.size) (v := .slice (some ⟨w2.heap.size, 0, none⟩) 1 1) (vs := [.slice A5 p.length c5]) (y := y1) (us := vs.drop a) (own_lit w2 tL [.slice A5 p.length c5] (by simp [maxLen])) (HCY1.out _ (HB1.out.trans (((below_of_drew hb2).trans ((below1 w2 _).mono (by exact (below_of_drew hb2).size))).mono HB1.out.size))) (by have h := HVL.out; simp only [List.length_drop, List.length_cons, List.length_nil, h]; omega) (by simp) (fun u hu => HONE.out u (List.mem_of_mem_drop hu)) (by rfl) rfl (by rfl) (by rfl) ?_; intro v1 w3 hown1 hgr1))
            all_goals
              have HB2 := Lib.hid (below_of_drew hb2)
              have HAF := Lib.hid (HRR.out.fresh (M := w1.heap.size) HB1.out.size (fun b hb => ho2.1.ge b hb))
              have HO2 := Lib.hid ho2
              have HB3 := Lib.hid (hgr1.below (below1 w2 _) (below1 w2 _).size (fun b hb => by simp [Value.ownBlock] at hb; omega))
              clear hgr1 hb2 ho2 hc1
              go_wp2_with (first
                | (at_builtin; refine wpList_appN T_row (B := w3.heap.size) (v := .slice (some ⟨w3.heap.size, 0, none⟩) 0 0) (vs := []) (own_lit w3 tL [] (by simp [maxLen])) ((HCY2.out _ (HB1.out.trans ((HB2.out.trans (HB3.out.mono HB2.out.size)).mono HB1.out.size))).below (below1 w3 _)) (by have h := HVL.out; simp only [List.length_take, List.length_nil, h]; omega) (by simp) (fun u hu => HONE.out u (List.mem_of_mem_take hu)) (by rfl) rfl (by rfl) (by rfl) ?_; intro v2 w4 hown2 hgr2; have HB4 := Lib.hid (hgr2.below (below1 w3 _) (below1 w3 _).size (fun b hb => by simp [Value.ownBlock] at hb; omega)); clear hgr2)
                | (at_builtin; refine wpList_appN T_row (B := w3.heap.size) (v := v2) hown2 (hown1.below HB4.out).cells (by have h := HVL.out; simp only [List.length_append, List.length_take, List.length_drop, List.length_cons, List.length_nil, h]; omega) HB4.out.size (fun u hu => by rcases List.mem_append.1 hu with hu | hu; (simp at hu; subst hu; exact (RR.one HO2.out).oneCell _ (by simp)); exact HONE.out u (List.mem_of_mem_drop hu)) (by rfl) rfl (by rfl) (by rfl) ?_; intro v3 w5 hown3 hgr3; have HB5 := Lib.hid (hgr3.below HB4.out HB4.out.size hown2.ge); clear hgr3))
              go_roundw
              case rel =>
                have b25 := HB3.out.trans (HB5.out.mono HB3.out.size)
                have b15 := HB2.out.trans (b25.mono HB2.out.size)
                have bw5 := HB1.out.trans (b15.mono HB1.out.size)
                have hs1 := HB1.out.size
                have hs2 := HB2.out.size
                have hs3 := HB3.out.size
                refine ⟨j + 1, _, by omega, by go_num, hown3.mono (Nat.le_trans HBW.out.size (by omega)), ?_, pairApart_ins HAP.out HAF.out _, HBW.out.trans (bw5.mono HBW.out.size)⟩
                rw [HSN.out, HIN.out, List.map_append, List.map_cons, List.map_take, List.map_drop]
                exact (HRR.out.below bw5).insert ((HO2.out.below b25).mono (Nat.le_trans HBW.out.size hs1)) _
              case measure => simp [intOf]; omega
          · have hd : decide ((a : Int) < (j : Int)) = false := by simp; omega
            have hd' : ¬ ((a : Int) < (j : Int)) := by omega
            have hd2 : ¬ (a < j) := by omega
            have hd3 : decide (a < j) = false := by simp; omega
            clear hja
            go_wp2_with fail
            go_quiet (fail)
            go_wp2_with fail
            rw [World.drewN_drewN]
            have HB1 := Lib.hid (below_drewN (Below.refl wo.heap.size wo) (n + nq))
            have hc1 : (wo.drewN (n + nq)).cell? (ad.add j) = some (.slice Au p.length cu) := hc
            have HU1 := Lib.hid (HU.out.drewN (n + nq))
            have hsz1 : wo.heap.size = (wo.drewN (n + nq)).heap.size := rfl
            generalize (wo.drewN (n + nq)) = w1 at HB1 hc1 HU1 hsz1 ⊢
            clear hc
            go_region_law (first
              | (go_simp; go_at_call 158; refine (s_l01OwnT _ _ (up p) (by exact HU1.out.drewN _) (by rw [up_len]; have := HPL.out; omega)).mono ?_; rintro e w2 ⟨r2, rfl, ho2, hb2⟩; obtain ⟨A5, c5, he5, -, -, -⟩ := ho2.ints.open_; rw [up_len] at he5; subst he5)
              | (refine stp_appN T_row (W := w2.alloc (.cells #[.slice A5 p.length c5] tL)) (B := w2.heap.size) (v := .slice (some ⟨w2.heap.size, 0, none⟩) 1 1) (vs := [.slice A5 p.length c5]) (y := y1) (us := vs.drop a) (own_lit w2 tL [.slice A5 p.length c5] (by simp [maxLen])) (HCY1.out _ (HB1.out.trans (((below_of_drew hb2).trans ((below1 w2 _).mono (by exact (below_of_drew hb2).size))).mono HB1.out.size))) (by have h := HVL.out; simp only [List.length_drop, List.length_cons, List.length_nil, h]; omega) (by simp) (fun u hu => HONE.out u (List.mem_of_mem_drop hu)) (by rfl) rfl (by rfl) (by rfl) ?_; intro v1 w3 hown1 hgr1))
            all_goals
              have HB2 := Lib.hid (below_of_drew hb2)
              have HAF := Lib.hid (HRR.out.fresh (M := w1.heap.size) HB1.out.size (fun b hb => ho2.1.ge b hb))
              have HO2 := Lib.hid ho2
              have HB3 := Lib.hid (hgr1.below (below1 w2 _) (below1 w2 _).size (fun b hb => by simp [Value.ownBlock] at hb; omega))
              clear hgr1 hb2 ho2 hc1
              go_wp2_with (first
                | (at_builtin; refine wpList_appN T_row (B := w3.heap.size) (v := .slice (some ⟨w3.heap.size, 0, none⟩) 0 0) (vs := []) (own_lit w3 tL [] (by simp [maxLen])) ((HCY2.out _ (HB1.out.trans ((HB2.out.trans (HB3.out.mono HB2.out.size)).mono HB1.out.size))).below (below1 w3 _)) (by have h := HVL.out; simp only [List.length_take, List.length_nil, h]; omega) (by simp) (fun u hu => HONE.out u (List.mem_of_mem_take hu)) (by rfl) rfl (by rfl) (by rfl) ?_; intro v2 w4 hown2 hgr2; have HB4 := Lib.hid (hgr2.below (below1 w3 _) (below1 w3 _).size (fun b hb => by simp [Value.ownBlock] at hb; omega)); clear hgr2)
                | (at_builtin; refine wpList_appN T_row (B := w3.heap.size) (v := v2) hown2 (hown1.below HB4.out).cells (by have h := HVL.out; simp only [List.length_append, List.length_take, List.length_drop, List.length_cons, List.length_nil, h]; omega) HB4.out.size (fun u hu => by rcases List.mem_append.1 hu with hu | hu; (simp at hu; subst hu; exact (RR.one HO2.out).oneCell _ (by simp)); exact HONE.out u (List.mem_of_mem_drop hu)) (by rfl) rfl (by rfl) (by rfl) ?_; intro v3 w5 hown3 hgr3; have HB5 := Lib.hid (hgr3.below HB4.out HB4.out.size hown2.ge); clear hgr3))
              go_roundw
              case rel =>
                have b25 := HB3.out.trans (HB5.out.mono HB3.out.size)
                have b15 := HB2.out.trans (b25.mono HB2.out.size)
                have bw5 := HB1.out.trans (b15.mono HB1.out.size)
                have hs1 := HB1.out.size
                have hs2 := HB2.out.size
                have hs3 := HB3.out.size
                refine ⟨j + 1, _, by omega, by go_num, hown3.mono (Nat.le_trans HBW.out.size (by omega)), ?_, pairApart_ins HAP.out HAF.out _, HBW.out.trans (bw5.mono HBW.out.size)⟩
                rw [HSN.out, HIN.out, List.map_append, List.map_cons, List.map_take, List.map_drop]
                exact (HRR.out.below bw5).insert ((HO2.out.below b25).mono (Nat.le_trans HBW.out.size hs1)) _
              case measure => simp [intOf]; omega
    · have : j = bs.length := by omega
      subst this
      rw [List.take_length] at HRR
      go_wp2_with fail
      go_ret
      exact ⟨_, rfl, ⟨vs, HO.out, HRR.out, HAP.out⟩, HBW.out⟩
end Go.Proofs.YtdjhfeaimmpmhaaGreat

set_option linter.unusedVariables false
set_option linter.unusedSimpArgs false
set_option maxRecDepth 100000
namespace Go.Proofs.YtdjhfeaimmpmhaaGreat

/-- one more than the last place below k with a level of more than 1; 0 if there is none -/
def pN (t : List Nat) : Nat → Nat
  | 0 => 0
  | k + 1 => bif Nat.ble (t.getD k 0) 1 then pN t k else k + 1
def fillF (t : List Nat) (d : Nat) : Nat → Nat → List Nat
  | 0, _ => t
  | m + 1, i => fillF (t.set i (t.getD (i - d) 0)) d m (i + 1)
/-- the next smaller list -/
def succT (t : List Nat) : Option (List Nat) := match pN t t.length with
  | 0 => none
  | p + 1 => some (fillF t (p - (parN t (t.getD p 0) p - 1)) (t.length - p) p)
def treesF : Nat → List Nat → List (List Nat)
  | 0, _ => []
  | f + 1, t => t :: match succT t with
    | none => []
    | some t' => treesF f t'
/-- all trees with n nodes, in order -/
def treesN (n : Nat) : List (List Nat) := treesF 200 (List.range n)

def okT (n : Nat) : Bool := Nat.ble (treesN n).length 115 && (treesN n).all fun t => Nat.beq t.length n && (lvl t && (match canO 9 t with | none => false | some r => eqN r t) &&
  match pN t t.length with
    | 0 => true
    | p + 1 => Nat.blt 0 (parN t (t.getD p 0) p))
theorem okT_8 : (List.range 8).all (fun n => okT (n + 1)) = true := by decide +kernel
theorem treesN_at {n : Nat} (h1 : 1 ≤ n) (h8 : n ≤ 8) : (treesN n).length ≤ 115 ∧ ∀ t ∈ treesN n, t.length = n ∧ lvl t = true ∧ canO 9 t = some t ∧ ∀ p, pN t t.length = p + 1 → 0 < parN t (t.getD p 0) p := by
  have h := okT_8
  rw [List.all_eq_true] at h
  have h2 := h (n - 1) (List.mem_range.2 (by omega))
  rw [show n - 1 + 1 = n by omega, okT] at h2
  simp only [Bool.and_eq_true, List.all_eq_true] at h2
  refine ⟨Nat.le_of_ble_eq_true h2.1, fun t ht => ?_⟩
  obtain ⟨a, ⟨b, c⟩, d⟩ := h2.2 t ht
  refine ⟨Nat.eq_of_beq_eq_true a, b, ?_, fun p hp => ?_⟩
  · cases hc : canO 9 t with
    | none => rw [hc] at c; cases c
    | some r => rw [hc] at c; rw [eqN_iff.1 c]
  · rw [hp] at d
    simpa using d
end Go.Proofs.YtdjhfeaimmpmhaaGreat

set_option maxRecDepth 100000
set_option linter.unusedVariables false
set_option linter.unusedSimpArgs false
namespace Go.Proofs.YtdjhfeaimmpmhaaGreat
open Go.RowKit

def downF : Nat → List Nat
  | 0 => []
  | l + 1 => (l + 1) :: downF l
def isCanG (t : List Nat) : Bool := match canO 9 t with | none => false | some r => eqN r t
/-- the canonical lists with n levels that begin with a list -/
def growF : Nat → List Nat → Nat → List (List Nat)
  | 0, t, n => bif Nat.beq t.length n then (bif isCanG t then [t] else []) else []
  | f + 1, t, n => bif Nat.beq t.length n then (bif isCanG t then [t] else []) else (downF (t.getD (t.length - 1) 0 + 1)).flatMap fun l => growF f (t ++ [l]) n
def eqLL : List (List Nat) → List (List Nat) → Bool
  | [], [] => true
  | a :: xs, b :: ys => eqN a b && eqLL xs ys
  | _, _ => false
theorem eqLL_eq : ∀ {a b : List (List Nat)}, eqLL a b = true → a = b
  | [], [], _ => rfl
  | [], _ :: _, h => by cases h
  | _ :: _, [], h => by cases h
  | a :: xs, b :: ys, h => by
    rw [eqLL, Bool.and_eq_true] at h
    rw [eqN_iff.1 h.1, eqLL_eq h.2]
theorem grow_trees8 : (List.range 8).all (fun n => eqLL (growF 8 [0] (n + 1)) (treesN (n + 1))) = true := by decide +kernel
theorem grow_trees {n : Nat} (h1 : 1 ≤ n) (h8 : n ≤ 8) : growF 8 [0] n = treesN n := by
  have h := grow_trees8
  rw [List.all_eq_true] at h
  have h2 := h (n - 1) (List.mem_range.2 (by omega))
  rw [show n - 1 + 1 = n by omega] at h2
  exact eqLL_eq h2

theorem Grow.refl (w : World) (v : Value) : Grow w w v v := ⟨World.grownBy.refl _ _, .inl rfl⟩
theorem Grow.of_below {w w' : World} {v : Value} (h : Below w.heap.size w w') : w.grownBy w' v.ownBlock := ⟨h.os, h.tape, h.output, h.size, fun k hk _ => h.block k hk⟩
theorem Grow.trans {w w1 w2 : World} {v v1 v2 : Value} (h : Grow w w1 v v1) (h' : Grow w1 w2 v1 v2) : Grow w w2 v v2 := by
  refine ⟨⟨h'.1.os.trans h.1.os, h'.1.tape.trans h.1.tape, h'.1.output.trans h.1.output, Nat.le_trans h.1.size h'.1.size, fun k hk hne => ?_⟩, ?_⟩
  · refine (h'.1.block k (Nat.lt_of_lt_of_le hk h.1.size) ?_).trans (h.1.block k hk hne)
    rcases h.2 with h2 | ⟨g, h2, h3⟩
    · rw [h2]; exact hne
    · rw [h2]; intro e; injection e with e; omega
  · rcases h'.2 with h3 | ⟨g, h3, h4⟩
    · rw [h3]; exact h.2
    · exact .inr ⟨g, h3, Nat.le_trans h.1.size h4⟩
theorem Grow.pre {w w1 w2 : World} {v v2 : Value} (hb : Below w.heap.size w w1) (h : Grow w1 w2 v v2) : Grow w w2 v v2 := Grow.trans ⟨Grow.of_below hb, .inl rfl⟩ h

set_option maxHeartbeats 4000000 in
theorem s_growLeaf (w : World) (v vo : Value) (t : List Nat) (n B Bt : Nat) (dn : List (List Nat)) (ht : OwnInts w Bt tI v (up t)) (ho : LA w B vo (dn.map up)) (hlv : lvl t = true) (htn : t.length = n) (hn8 : n ≤ 8) (hB : B ≤ w.heap.size) (hsz : dn.length ≤ 1000) :
    Calls Tryz.prog 180 #[v, .int .i64 n, vo] w fun e w' => ∃ x, e = .returned x ∧ LA w' B x ((dn ++ (bif isCanG t then [t] else [])).map up) ∧ Grow w w' vo x := by
  obtain ⟨r, hr, -, -⟩ := canO_8 hlv (by omega)
  have HR := Lib.hid hr
  have hcg : isCanG t = decide (up r = up t) := by
    unfold isCanG
    rw [hr]
    simp only
    by_cases e : r = t
    · rw [eqN_iff.2 e, e]; exact (decide_eq_true rfl).symm
    · have h1 : eqN r t = false := by
        cases hh : eqN r t with
        | true => exact absurd (eqN_iff.1 hh) e
        | false => rfl
      rw [h1]; exact (decide_eq_false fun h => e (up_inj h)).symm
  have HLL := Lib.hid (show ∀ l ∈ t, l ≤ 1000000 from fun l hl => by
    have hh := lev8 (p := fun t => t.all fun l => Nat.ble l 8) (by decide +kernel) hlv (by omega)
    rw [List.all_eq_true] at hh
    have := Nat.le_of_ble_eq_true (hh l hl)
    omega)
  obtain ⟨A, c, rfl, l1, l2, -⟩ := ht.ints.open_
  rw [up_len] at l1 ht ⊢
  have HT := Lib.hid ht
  obtain ⟨vs, hown, hrr, hap⟩ := ho
  have hvl : vs.length = dn.length := by rw [hrr.1, List.length_map]
  obtain ⟨Ao, co, rfl, -, -⟩ := hown.cells.open_
  rw [hvl] at hown ⊢
  have HO := Lib.hid hown
  have HRR := Lib.hid hrr
  have HAP := Lib.hid hap
  have hd : ((t.length : Int) == (n : Int)) = true := by simp [htn]
  have hvs : vs.length ≤ 1000 := by omega
  have ht8 : t.length ≤ 8 := by omega
  clear ht hown hrr hap hvl htn hr
  cases hb : decide (up r = up t) with
  | true =>
    have HCG := Lib.hid (show dn ++ (bif isCanG t then [t] else []) = dn ++ [t] from by rw [hcg, hb]; rfl)
    rw [HCG.out]
    have HBB := Lib.hid hb
    clear hcg hb
    go_enter Tryz.func180, Tryz.ntmps180
    go_wp2_with (first
      | (go_at_call 179; refine (s_l03Canon 9 _ _ t r HT.out.ints HR.out (by omega) HLL.out).mono ?_; rintro e w1 ⟨x1, rfl, ho1, hb1⟩; have HO1 := Lib.hid ho1; have HB1 := Lib.hid hb1; clear ho1 hb1)
      | (go_at_call 135; refine (s_l01Same _ _ _ (up r) (up t) HO1.out.ints (HT.out.ints.below HB1.out)).mono ?_; rintro e w2 ⟨rfl, n2, rfl⟩; rw [HBB.out])
      | (go_at_call 158; refine (s_l01OwnT _ _ (up t) ((HT.out.ints.below HB1.out).drewN n2) (by rw [up_len]; omega)).mono ?_; rintro e w3 ⟨x3, rfl, ho3, hb3⟩; obtain ⟨A5, c5, he5, -, -, -⟩ := ho3.ints.open_; rw [up_len] at he5; subst he5; have HO3 := Lib.hid ho3; have HB3 := Lib.hid (show Below w.heap.size w w3 from (below_drewN HB1.out n2).trans (hb3.mono HB1.out.size)); clear hb3 ho3)
      | (at_builtin; refine wpList_app1 T_row (HO.out.below HB3.out) (by omega) (Nat.le_trans hB HB3.out.size) (by rfl) rfl (by rfl) (by rfl) (by rfl) ?_; intro v1 w5 hown1 hgr1; have HN1 := Lib.hid hown1; have HGR := Lib.hid hgr1; clear hown1 hgr1))
    go_ret
    refine ⟨_, rfl, ⟨_, HN1.out, ?_, pairApart_snoc HAP.out (HRR.out.fresh (Nat.le_refl _) (fun b hb => Nat.le_trans HB1.out.size (HO3.out.1.ge b hb)))⟩, Grow.pre HB3.out HGR.out⟩
    rw [List.map_append]
    exact LL.snoc (HO.out.below HB3.out) (HRR.out.below HB3.out) (HO3.out.mono (Nat.le_trans hB HB1.out.size)) HN1.out HGR.out.1
  | false =>
    have HCG := Lib.hid (show dn ++ (bif isCanG t then [t] else []) = dn from by rw [hcg, hb]; simp)
    rw [HCG.out]
    have HBB := Lib.hid hb
    clear hcg hb
    go_enter Tryz.func180, Tryz.ntmps180
    go_wp2_with (first
      | (go_at_call 179; refine (s_l03Canon 9 _ _ t r HT.out.ints HR.out (by omega) HLL.out).mono ?_; rintro e w1 ⟨x1, rfl, ho1, hb1⟩; have HO1 := Lib.hid ho1; have HB1 := Lib.hid hb1; clear ho1 hb1)
      | (go_at_call 135; refine (s_l01Same _ _ _ (up r) (up t) HO1.out.ints (HT.out.ints.below HB1.out)).mono ?_; rintro e w2 ⟨rfl, n2, rfl⟩; rw [HBB.out]))
    go_ret
    have hb2 := below_drewN HB1.out n2
    exact ⟨_, rfl, ⟨vs, HO.out.below hb2, HRR.out.below hb2, HAP.out⟩, ⟨Grow.of_below hb2, .inl rfl⟩⟩

theorem lvlF_add : ∀ {p : Nat} {t : List Nat} {l : Nat}, lvlF p t = true → 1 ≤ l → l ≤ (p :: t).getD t.length 0 + 1 → lvlF p (t ++ [l]) = true
  | p, [], l, _, h1, h2 => by
    simp at h2
    rw [List.nil_append, lvlF, Nat.ble_eq_true_of_le h1, Nat.ble_eq_true_of_le h2]; rfl
  | p, x :: t, l, h, h1, h2 => by
    rw [lvlF] at h
    rw [List.cons_append, lvlF]
    cases h3 : Nat.ble 1 x with
    | false => rw [h3] at h; cases h
    | true =>
      cases h4 : Nat.ble x (p + 1) with
      | false => rw [h3, h4] at h; cases h
      | true =>
        rw [h3, h4] at h
        exact lvlF_add h h1 (by simpa using h2)
theorem lvl_add {t : List Nat} {l : Nat} (h : lvl t = true) (h1 : 1 ≤ l) (h2 : l ≤ t.getD (t.length - 1) 0 + 1) : lvl (t ++ [l]) = true := by
  obtain ⟨c, rfl, hc⟩ := lvl_cons h
  rw [List.cons_append, lvl]
  exact lvlF_add hc h1 (by simpa using h2)

theorem own_pushed {w : World} {B : Nat} {v : Value} {t : List Nat} {l : Nat} {z : Int} (h : ∀ y ∈ up t, In64 y) (hz : In64 z) (ho : Own w B tI v (ints (up t) ++ [.int .i64 z])) (e : up [l] = [z]) : OwnInts w B tI v (up (t ++ [l])) := by
  rw [up_append, e]
  refine ⟨by simpa [ints] using ho, fun y hy => ?_⟩
  rcases List.mem_append.1 hy with hy | hy
  · exact h y hy
  · simp at hy; subst hy; exact hz

set_option maxHeartbeats 8000000 in
theorem s_l03Grow : ∀ (f : Nat) (w : World) (v vo : Value) (t : List Nat) (n B Bt : Nat) (dn : List (List Nat)), OwnInts w Bt tI v (up t) → LA w B vo (dn.map up) → lvl t = true → t.length ≤ n → n ≤ 8 → n - t.length ≤ f → B ≤ w.heap.size → dn.length + (growF f t n).length ≤ 1000 →
    Calls Tryz.prog 180 #[v, .int .i64 n, vo] w fun e w' => ∃ x, e = .returned x ∧ LA w' B x ((dn ++ growF f t n).map up) ∧ Grow w w' vo x := by
  intro f
  induction f with
  | zero =>
    intro w v vo t n B Bt dn ht ho hlv htn hn8 hf hB hsz
    have hl : t.length = n := by omega
    have h := s_growLeaf w v vo t n B Bt dn ht ho hlv hl hn8 hB (by omega)
    have e : growF 0 t n = bif isCanG t then [t] else [] := by rw [growF, hl, Nat.beq_refl]; rfl
    rw [e]; exact h
  | succ f ih =>
    intro w v vo t n B Bt dn ht ho hlv htn hn8 hf hB hsz
    by_cases hl : t.length = n
    · have h := s_growLeaf w v vo t n B Bt dn ht ho hlv hl hn8 hB (by omega)
      have e : growF (f + 1) t n = bif isCanG t then [t] else [] := by rw [growF, hl, Nat.beq_refl]; rfl
      rw [e]; exact h
    · have IH := Lib.hid ih
      have hbeq : Nat.beq t.length n = false := by
        cases h : Nat.beq t.length n with
        | true => exact absurd (Nat.eq_of_beq_eq_true h) hl
        | false => rfl
      have hg : growF (f + 1) t n = (downF (t.getD (t.length - 1) 0 + 1)).flatMap fun l => growF f (t ++ [l]) n := by rw [growF, hbeq]; rfl
      rw [hg] at hsz ⊢
      have HSZ := Lib.hid (show (dn ++ (downF (t.getD (t.length - 1) 0 + 1)).flatMap fun l => growF f (t ++ [l]) n).length ≤ 1000 from by rw [List.length_append]; exact hsz)
      have hpos : 0 < t.length := by obtain ⟨c, rfl, -⟩ := lvl_cons hlv; simp
      have HLV := Lib.hid hlv
      have HT := Lib.hid ht
      have HO := Lib.hid ho
      obtain ⟨A, c, rfl, l1, l2, h3⟩ := ht.ints.open_
      rw [up_len] at l1 h3 HT ⊢
      obtain ⟨vs0, hown0, -, -⟩ := ho
      have HB0 := Lib.hid hown0.bt
      obtain ⟨ad, z, rfl, hz, -, hcz⟩ := h3 (t.length - 1) (by omega)
      obtain ⟨L, hL, rfl⟩ := up_getD hz
      have hgL : t.getD (t.length - 1) 0 = L := by simp [List.getD, hL]
      have hL8 : L ≤ 1000000 := by
        have hh := lev8 (p := fun t => t.all fun l => Nat.ble l 8) (by decide +kernel) hlv (by omega)
        rw [List.all_eq_true] at hh
        have := Nat.le_of_ble_eq_true (hh L (List.mem_of_getElem? hL))
        omega
      rw [hgL] at HSZ ⊢
      have HGL := Lib.hid hgL
      have hd : ((t.length : Int) == (n : Int)) = false := by simp; omega
      have hw1 : IntKind.i64.wrap ((t.length : Int) - 1) = ((t.length - 1 : Nat) : Int) := by rw [IntWalk.i64_in _ (by omega)]; omega
      have hwL : IntKind.i64.wrap ((L : Int) + 1) = (L : Int) + 1 := IntWalk.i64_in _ (by omega)
      have hti : ((t.length - 1 : Nat) : Int) < (t.length : Int) := by omega
      have ht0 : (0 : Int) ≤ ((t.length - 1 : Nat) : Int) := by omega
      have htn2 : t.length + 1 ≤ n := by omega
      have hf2 : n - (t.length + 1) ≤ f := by omega
      clear ht h3 hz hL hgL hlv ih hl hbeq hg hsz hf htn hown0
      go_enter Tryz.func180, Tryz.ntmps180
      go_wp2_with fail
      go_loopw [2, 7] (fun ov x wr => ∃ (l : Nat) (dd : List (List Nat)), l ≤ L + 1 ∧ x = .int .i64 l ∧ LA wr B ov (dd.map up) ∧ Hid (dd ++ (downF l).flatMap (fun l => growF f (t ++ [l]) n) = dn ++ (downF (L + 1)).flatMap (fun l => growF f (t ++ [l]) n)) ∧ Grow w wr vo ov) (fun _ x _ => (intOf x).toNat)
      case atStart => exact ⟨L + 1, dn, Nat.le_refl _, by go_num, HO.out, rfl, Grow.refl _ _⟩
      case round =>
        obtain ⟨l, dd, hl, rfl, hla, HEQ, hgr⟩ := hrel
        clear HO
        have HO := Lib.hid hla
        have HG := Lib.hid hgr
        have HTR := Lib.hid (HT.out.kept hgr.1 (HT.out.1.bt.ne HB0.out (by decide)))
        have hws := hgr.1.size
        obtain ⟨vs1, hown1, -, -⟩ := hla
        have HBT := Lib.hid hown1.bt
        clear hgr hown1
        cases l with
        | zero =>
          have HE := Lib.hid (show dd = dn ++ (downF (L + 1)).flatMap (fun l => growF f (t ++ [l]) n) from by have h := HEQ.out; rw [downF] at h; simpa using h)
          go_wp2_with fail
          go_ret
          refine ⟨_, rfl, ?_, HG.out⟩
          rw [← HE.out]; exact HO.out
        | succ l =>
          have hq := HEQ.out
          rw [downF, List.flatMap_cons, ← List.append_assoc] at hq
          have HQ := Lib.hid hq
          have HSZ2 := Lib.hid (show dd.length + (growF f (t ++ [l + 1]) n).length ≤ 1000 from by
            have h1 := HSZ.out
            rw [← hq] at h1
            simp only [List.length_append] at h1
            omega)
          have HLV2 := Lib.hid (lvl_add HLV.out (show 1 ≤ l + 1 by omega) (by rw [HGL.out]; omega))
          have hl1 : (1 : Int) ≤ ((l + 1 : Nat) : Int) := by omega
          have hl64 : In64 ((l + 1 : Nat) : Int) := by unfold In64; omega
          have hwl : IntKind.i64.wrap (((l + 1 : Nat) : Int) - 1) = (l : Int) := by rw [IntWalk.i64_in _ (by omega)]; omega
          have hcl : ∃ z : Int, z = ((l + 1 : Nat) : Int) := ⟨_, rfl⟩
          obtain ⟨z, hz⟩ := hcl
          rw [← hz] at hl1 hl64 hwl ⊢
          have HZ := Lib.hid hz
          have HUZ := Lib.hid (show up [l + 1] = [z] from by rw [hz]; rfl)
          clear hq hz HEQ
          go_wp2_with (first
            | (go_at_call 158; refine (s_l01OwnT _ _ (up t) HTR.out.ints (by rw [up_len]; omega)).mono ?_; rintro e w3 ⟨x3, rfl, ho3, hb3⟩; have HO3 := Lib.hid ho3; have HB3 := Lib.hid hb3; clear hb3 ho3)
            | (at_builtin; refine wpList_app1 T_int HO3.out.1 (by rw [ints_len, up_len]; omega) HB3.out.size (by rfl) rfl (by rfl) (by rfl) (by rfl) ?_; intro v5 w5 hown5 hgr5; have HN5 := Lib.hid (own_pushed HO3.out.2 hl64 hown5 HUZ.out); have HB5 := Lib.hid (hgr5.below HB3.out HB3.out.size HO3.out.1.ge); clear hown5 hgr5)
            | (go_at_call 180; refine (IH.out _ _ _ (t ++ [l + 1]) n B wr.heap.size dd HN5.out (HO.out.below HB5.out) HLV2.out (by simp; omega) hn8 (by simp; omega) (Nat.le_trans hB (Nat.le_trans hws HB5.out.size)) HSZ2.out).mono ?_; rintro e w6 ⟨x6, rfl, hl6, hg6⟩; have HL6 := Lib.hid hl6; have HG6 := Lib.hid (HG.out.trans (Grow.pre HB5.out hg6)); clear hl6 hg6))
          go_roundw
          case rel => exact ⟨l, dd ++ growF f (t ++ [l + 1]) n, by omega, rfl, HL6.out, HQ.out, HG6.out⟩
          case measure => have h := HZ.out; simp [intOf]; omega

theorem s_l03Trees (w : World) (n : Nat) (h1 : 1 ≤ n) (h8 : n ≤ 8) :
    Calls Tryz.prog 133 #[.int .i64 n] w fun e w' => ∃ x, e = .returned x ∧ LA w' w.heap.size x ((treesN n).map up) ∧ Below w.heap.size w w' := by
  have HT := Lib.hid (grow_trees h1 h8)
  have HLE := Lib.hid (treesN_at h1 h8).1
  have OL := Lib.hid (show OwnInts (w.alloc (.cells #[.int .i64 0] tI)) w.heap.size tI (.slice (some ⟨w.heap.size, 0, none⟩) 1 1) (up [0]) from ⟨own_lit w tI [.int .i64 0] (by simp [maxLen]), fun z hz => by simp [up] at hz; subst hz; unfold In64; omega⟩)
  have HSZ := Lib.hid (show ([] : List (List Nat)).length + (growF 8 [0] n).length ≤ 1000 from by rw [HT.out]; have := HLE.out; simp; omega)
  go_enter Tryz.func133, Tryz.ntmps133
  go_wp2_with (go_at_call 180; refine (s_l03Grow 8 _ _ _ [0] n w.heap.size w.heap.size [] OL.out (LA.nil _ _) rfl (by simpa using h1) h8 (by simp; omega) (by simp) HSZ.out).mono ?_; rintro e w6 ⟨x6, rfl, hl6, hg6⟩; have HL6 := Lib.hid hl6; have HG6 := Lib.hid hg6; clear hl6 hg6)
  go_ret
  refine ⟨_, rfl, ?_, HG6.out.below (below1 w _) (below1 w _).size (fun b hb => by simp [Value.ownBlock] at hb)⟩
  have h := HL6.out
  rw [List.nil_append, HT.out] at h
  exact h
end Go.Proofs.YtdjhfeaimmpmhaaGreat

set_option maxRecDepth 100000
set_option linter.unusedVariables false
set_option linter.unusedSimpArgs false
namespace Go.Proofs.YtdjhfeaimmpmhaaGreat
open Go.RowKit

end Go.Proofs.YtdjhfeaimmpmhaaGreat

set_option maxRecDepth 100000
set_option linter.unusedVariables false
set_option linter.unusedSimpArgs false
namespace Go.Proofs.YtdjhfeaimmpmhaaGreat
open Go.RowKit

/-- the list that is grafted -/
def graL (u : List Nat) (node : Nat) (v : List Nat) : List Nat := u.take (endN u node) ++ (v.map fun x => u.getD node 0 + 1 + x) ++ u.drop (endN u node)
theorem w64_in' (n : Int) (h : -9223372036854775808 ≤ n ∧ n ≤ 9223372036854775807) : wrap64 n = n := by unfold wrap64; omega

end Go.Proofs.YtdjhfeaimmpmhaaGreat

