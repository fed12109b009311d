/- Walk: l03Sort of the reference. | Plain: all trees with n nodes, from a canonical list to the next smaller one. -/
import Derived.Test.YtngdpoeondnchaaGreatQ14
import Derived.Test.YtngdpoeondnchaaGreatQ9
import Derived.Deep.QuietTactic
import Derived.BigQuiet
import Derived.Deep.RegionLaw
import Derived.Test.YtngdpoeondnchaaGreatQ11
set_option maxRecDepth 100000
set_option linter.unusedVariables false
set_option linter.unusedSimpArgs false
namespace Go.Proofs.YtngdpoeondnchaaGreat
open Go.RowKit

theorem ints_oneT (zs : List Int) : ∀ u ∈ ints zs, u.oneCell' = true := by
  intro u hu
  obtain ⟨z, _, rfl⟩ := List.mem_map.1 hu
  rfl
theorem s_l01OwnT (w : World) (v : Value) (zs : List Int) (ha : Ints w v zs) (hn : zs.length ≤ 4294967296) :
    Calls Tryz.prog 150 #[v] w fun e w' => ∃ r, e = .returned r ∧ OwnInts w' w.heap.size tI r zs ∧ Below w.heap.size w w' := by
  obtain ⟨A, c, rfl, l1, l2, h3⟩ := ha.open_
  have HA := Lib.hid ha
  clear h3 ha
  have OL := Lib.hid (own_lit w tI [] (by simp [maxLen]))
  have B1 := Lib.hid (below1 w (.cells #[] tI))
  go_enter Tryz.func150, Tryz.ntmps150
  go_wp2_with (at_builtin; refine wpList_appN T_int OL.out (HA.out.below B1.out).1 (by rw [ints_len]; simp; omega) B1.out.size (ints_oneT _) rfl (by rfl) (by rfl) (by rfl) ?_; intro v1 w2 hown1 hgr1)
  go_ret
  exact ⟨_, rfl, ⟨by simpa using hown1, HA.out.2⟩, hgr1.below B1.out (by simp) OL.out.ge⟩

theorem quiet_more0 {P : Program} {f : FuncId} {args : Array Value} {w : World} {n : Nat} {v : Value}
    (h : Calls P f args (w.drewN n) fun e w' => e = .returned v ∧ ∃ m, w' = (w.drewN n).drewN m) :
    Calls P f args (w.drewN n) fun e w'' => e = .returned v ∧ ∃ m, w'' = w.drewN m :=
  h.mono fun _ _ ⟨he, m, hm⟩ => ⟨he, n + m, by rw [hm, World.drewN_drewN]⟩

set_option maxHeartbeats 8000000 in
theorem s_l03Sort (w : World) (v : Value) (bs : List (List Nat)) (ha : Rows w v (bs.map up)) (hn : bs.length ≤ 1000) (hl : ∀ b ∈ bs, b.length ≤ 1000) :
    Calls Tryz.prog 160 #[v] w fun e w' => ∃ x, e = .returned x ∧ LA w' w.heap.size x ((srtB bs).map up) ∧ Below w.heap.size w w' := by
  have HL := Lib.hid hl
  obtain ⟨A, c, rfl, l1, l2, h3⟩ := ha.open_
  rw [List.length_map] at l1 h3 ⊢
  have H3 := Lib.hid h3
  have OL := Lib.hid (show Own (w.alloc (.cells #[] tL)) w.heap.size tL (.slice (some ⟨w.heap.size, 0, none⟩) 0 0) [] from own_lit w tL [] (by simp [maxLen]))
  clear ha hl h3
  go_enter Tryz.func160, Tryz.ntmps160
  go_wp2_with fail
  go_loopw [3, 4] (fun sv i wr => ∃ (j : Nat) (vs : List Value), j ≤ bs.length ∧ i = .int .i64 j ∧ Own wr w.heap.size tL sv vs ∧ RR wr w.heap.size vs ((srtBF [] (bs.take j)).map up) ∧ vs.Pairwise Apart ∧ Below w.heap.size w wr) (fun _ i _ => bs.length - (intOf i).toNat)
  case atStart => exact ⟨0, [], Nat.zero_le _, rfl, OL.out, RR.nil _ _, List.Pairwise.nil, below1 _ _⟩
  case round =>
    obtain ⟨j, vs, hj, rfl, hown, hrr, hap, hbw⟩ := hrel
    clear OL
    have HAP := Lib.hid hap
    clear hap
    have hsl : (srtBF [] (bs.take j)).length = j := by have := (srtBF_perm [] (bs.take j)).length_eq; rw [this]; simp; omega
    have hvl : vs.length = j := by rw [hrr.1, List.length_map, hsl]
    obtain ⟨A2, c2, rfl, k1, k2⟩ := hown.cells.open_
    have HO := Lib.hid hown
    have HRR := Lib.hid hrr
    have HBW := Lib.hid hbw
    have HVL := Lib.hid hvl
    rw [hvl] at HO k1 ⊢
    by_cases hlt : j < bs.length
    · obtain ⟨ad, u, zs, rfl, hz, hu, hc0⟩ := H3.out j hlt
      have hc : wr.cell? (ad.add j) = some u := by
        rw [HBW.out.cell (by rw [block_add]; have := World.block_lt_of_cell? w _ hc0; rwa [block_add] at this)]; exact hc0
      have hbj : bs[j]? = some (bs[j]'hlt) := List.getElem?_eq_getElem _
      have hzb : zs = up (bs[j]'hlt) := by rw [List.getElem?_map, hbj] at hz; injection hz with hz; exact hz.symm
      subst hzb
      have HPL := Lib.hid (HL.out _ (List.mem_of_getElem? hbj))
      have HSN := Lib.hid (show srtBF [] (bs.take (j + 1)) = insB (bs[j]'hlt) (srtBF [] (bs.take j)) by rw [List.take_add_one, hbj]; exact srtBF_snoc _ _ _)
      have hu2 := hu.below hbw
      obtain ⟨Au, cu, hue, -, -, -⟩ := hu2.open_
      rw [up_len] at hue
      subst hue
      have HU := Lib.hid hu2
      have hji : (j : Int) < (bs.length : Int) := by omega
      have hj1 : j ≤ 1000 := by omega
      generalize hss : srtBF [] (bs.take j) = ss at HRR HSN hsl
      have HSL := Lib.hid hsl
      generalize bs[j]'hlt = p at HU HPL HSN hc hc0
      have HIN := Lib.hid (insB_at p ss)
      have HST := Lib.hid (insBAt_step p ss)
      have HAL := Lib.hid (show insBAt p ss ≤ j from by have := insBAt_le p ss; omega)
      have HONE := Lib.hid HRR.out.oneCell
      generalize insBAt p ss = a at HIN HST HAL
      clear hown hrr hbw hz hu hu2 hbj hss hc0 hvl hsl
      go_wp2_with fail
      obtain ⟨wo, rfl⟩ : ∃ wo : World, wo = wr := ⟨_, rfl⟩
      go_loopw [5] (fun i wi => ∃ (k n : Nat), k ≤ a ∧ i = .int .i64 k ∧ wi = wo.drewN n) (fun i _ => a - (intOf i).toNat)
      case atStart => exact ⟨0, 0, Nat.zero_le _, rfl, rfl⟩
      case round =>
        obtain ⟨k, n, hk, rfl, rfl⟩ := hrel
        have hrow : k < j → ∃ ad' u' q, A2 = some ad' ∧ wo.cell? (ad'.add k) = some u' ∧ Ints wo u' (up q) ∧ ss[k]? = some q := by
          intro hkj
          have hu' : vs[k]? = some (vs[k]'(by rw [HVL.out]; exact hkj)) := List.getElem?_eq_getElem _
          have hq : ss[k]? = some (ss[k]'(by rw [HSL.out]; exact hkj)) := List.getElem?_eq_getElem _
          have hi := HRR.out.2 k _ _ hu' (by rw [List.getElem?_map, hq]; rfl)
          obtain ⟨ad', n', c', he, hc'⟩ := HO.out.cells.at_ hu'
          simp only [Value.slice.injEq] at he
          exact ⟨ad', _, _, he.1, hc', hi.ints, hq⟩
        by_cases hlt2 : k < a
        · obtain ⟨ad', u', q, rfl, hc', hq1, hq2⟩ := hrow (by have := HAL.out; omega)
          have hless : befN p q = false := by
            rcases HST.out k q (by omega) hq2 with ⟨_, h⟩ | ⟨h, _⟩
            · omega
            · exact h
          have hbf := fun n => s_l03Before (wo.drewN n) _ _ p q (HU.out.drewN n) (hq1.drewN n)
          rw [hless] at hbf
          have HBF := Lib.hid hbf
          have hkj : (k : Int) < (j : Int) := by have := HAL.out; omega
          have hd : decide ((k : Int) < (j : Int)) = true := by simp; omega
          clear hq1 hq2 hrow hless hbf
          go_wp2_with fail
          go_quiet ((go_at_call 187; first | exact quiet_more (HBF.out _) | exact quiet_more0 (HBF.out _)))
          go_wp2_with fail
          go_roundw
          case rel => exact ⟨k + 1, _, by omega, by go_num, rfl⟩
          case measure => simp [intOf]; omega
        · have hka : a = k := by omega
          subst hka
          have haj := HAL.out
          obtain ⟨y1, hy1, hcy1⟩ := cells_from HO.out.cells HVL.out.symm a (by rw [HVL.out]; exact haj)
          obtain ⟨y2, hy2, hcy2⟩ := cells_to HO.out.cells k1 HVL.out.symm a (by rw [HVL.out]; exact haj)
          have HCY1 := Lib.hid (fun W (h : Below wo.heap.size wo W) => hcy1.below h)
          have HCY2 := Lib.hid (fun W (h : Below wo.heap.size wo W) => hcy2.below h)
          have hex : ∃ n', True := ⟨0, trivial⟩
          have hcase : (∃ ad' u' q, A2 = some ad' ∧ wo.cell? (ad'.add a) = some u' ∧ Ints wo u' (up q) ∧ befN p q = true ∧ (a : Int) < (j : Int)) ∨ j = a := by
            by_cases h : a < j
            · obtain ⟨ad', u', q, h1, h2, h3, h4⟩ := hrow h
              refine .inl ⟨ad', u', q, h1, h2, h3, ?_, by omega⟩
              rcases HST.out a q (Nat.le_refl _) h4 with ⟨h, _⟩ | ⟨_, h⟩
              · exact h
              · omega
            · exact .inr (by omega)
          clear hcy1 hcy2 hrow hlt2 hk hex
          rcases hcase with ⟨ad', u', q, rfl, hc', hq1, hless, hkj⟩ | hja
          · have hbf := fun n => s_l03Before (wo.drewN n) _ _ p q (HU.out.drewN n) (hq1.drewN n)
            rw [hless] at hbf
            have HBF := Lib.hid hbf
            have hd : decide ((a : Int) < (j : Int)) = true := by simp; omega
            clear hq1 hless hbf
            go_wp2_with fail
            go_quiet ((go_at_call 187; first | exact quiet_more (HBF.out _) | exact quiet_more0 (HBF.out _)))
            go_wp2_with fail
            rw [World.drewN_drewN]
            have HB1 := Lib.hid (below_drewN (Below.refl wo.heap.size wo) (n + nq))
            have hc1 : (wo.drewN (n + nq)).cell? (ad.add j) = some (.slice Au p.length cu) := hc
            have HU1 := Lib.hid (HU.out.drewN (n + nq))
            have hsz1 : wo.heap.size = (wo.drewN (n + nq)).heap.size := rfl
            generalize (wo.drewN (n + nq)) = w1 at HB1 hc1 HU1 hsz1 ⊢
            clear hc
            go_region_law (first
              | (go_simp; go_at_call 150; refine (s_l01OwnT _ _ (up p) (by exact HU1.out.drewN _) (by rw [up_len]; have := HPL.out; omega)).mono ?_; rintro e w2 ⟨r2, rfl, ho2, hb2⟩; obtain ⟨A5, c5, he5, -, -, -⟩ := ho2.ints.open_; rw [up_len] at he5; subst he5)
              | (refine stp_appN T_row (W := w2.alloc (.cells #[.slice A5 p.length c5] tL)) (B := w2.heap.size) (v := .slice (some ⟨w2.heap.size, 0, none⟩) 1 1) (vs := [.slice A5 p.length c5]) (y := y1) (us := vs.drop a) (own_lit w2 tL [.slice A5 p.length c5] (by simp [maxLen])) (HCY1.out _ (HB1.out.trans (((below_of_drew hb2).trans ((below1 w2 _).mono (by exact (below_of_drew hb2).size))).mono HB1.out.size))) (by have h := HVL.out; simp only [List.length_drop, List.length_cons, List.length_nil, h]; omega) (by simp) (fun u hu => HONE.out u (List.mem_of_mem_drop hu)) (by rfl) rfl (by rfl) (by rfl) ?_; intro v1 w3 hown1 hgr1))
            all_goals
              have HB2 := Lib.hid (below_of_drew hb2)
              have HAF := Lib.hid (HRR.out.fresh (M := w1.heap.size) HB1.out.size (fun b hb => ho2.1.ge b hb))
              have HO2 := Lib.hid ho2
              have HB3 := Lib.hid (hgr1.below (below1 w2 _) (below1 w2 _).size (fun b hb => by simp [Value.ownBlock] at hb; omega))
              clear hgr1 hb2 ho2 hc1
              go_wp2_with (first
                | (at_builtin; refine wpList_appN T_row (B := w3.heap.size) (v := .slice (some ⟨w3.heap.size, 0, none⟩) 0 0) (vs := []) (own_lit w3 tL [] (by simp [maxLen])) ((HCY2.out _ (HB1.out.trans ((HB2.out.trans (HB3.out.mono HB2.out.size)).mono HB1.out.size))).below (below1 w3 _)) (by have h := HVL.out; simp only [List.length_take, List.length_nil, h]; omega) (by simp) (fun u hu => HONE.out u (List.mem_of_mem_take hu)) (by rfl) rfl (by rfl) (by rfl) ?_; intro v2 w4 hown2 hgr2; have HB4 := Lib.hid (hgr2.below (below1 w3 _) (below1 w3 _).size (fun b hb => by simp [Value.ownBlock] at hb; omega)); clear hgr2)
                | (at_builtin; refine wpList_appN T_row (B := w3.heap.size) (v := v2) hown2 (hown1.below HB4.out).cells (by have h := HVL.out; simp only [List.length_append, List.length_take, List.length_drop, List.length_cons, List.length_nil, h]; omega) HB4.out.size (fun u hu => by rcases List.mem_append.1 hu with hu | hu; (simp at hu; subst hu; exact (RR.one HO2.out).oneCell _ (by simp)); exact HONE.out u (List.mem_of_mem_drop hu)) (by rfl) rfl (by rfl) (by rfl) ?_; intro v3 w5 hown3 hgr3; have HB5 := Lib.hid (hgr3.below HB4.out HB4.out.size hown2.ge); clear hgr3))
              go_roundw
              case rel =>
                have b25 := HB3.out.trans (HB5.out.mono HB3.out.size)
                have b15 := HB2.out.trans (b25.mono HB2.out.size)
                have bw5 := HB1.out.trans (b15.mono HB1.out.size)
                have hs1 := HB1.out.size
                have hs2 := HB2.out.size
                have hs3 := HB3.out.size
                refine ⟨j + 1, _, by omega, by go_num, hown3.mono (Nat.le_trans HBW.out.size (by omega)), ?_, pairApart_ins HAP.out HAF.out _, HBW.out.trans (bw5.mono HBW.out.size)⟩
                rw [HSN.out, HIN.out, List.map_append, List.map_cons, List.map_take, List.map_drop]
                exact (HRR.out.below bw5).insert ((HO2.out.below b25).mono (Nat.le_trans HBW.out.size hs1)) _
              case measure => simp [intOf]; omega
          · have hd : decide ((a : Int) < (j : Int)) = false := by simp; omega
            have hd' : ¬ ((a : Int) < (j : Int)) := by omega
            have hd2 : ¬ (a < j) := by omega
            have hd3 : decide (a < j) = false := by simp; omega
            clear hja
            go_wp2_with fail
            go_quiet (fail)
            go_wp2_with fail
            rw [World.drewN_drewN]
            have HB1 := Lib.hid (below_drewN (Below.refl wo.heap.size wo) (n + nq))
            have hc1 : (wo.drewN (n + nq)).cell? (ad.add j) = some (.slice Au p.length cu) := hc
            have HU1 := Lib.hid (HU.out.drewN (n + nq))
            have hsz1 : wo.heap.size = (wo.drewN (n + nq)).heap.size := rfl
            generalize (wo.drewN (n + nq)) = w1 at HB1 hc1 HU1 hsz1 ⊢
            clear hc
            go_region_law (first
              | (go_simp; go_at_call 150; refine (s_l01OwnT _ _ (up p) (by exact HU1.out.drewN _) (by rw [up_len]; have := HPL.out; omega)).mono ?_; rintro e w2 ⟨r2, rfl, ho2, hb2⟩; obtain ⟨A5, c5, he5, -, -, -⟩ := ho2.ints.open_; rw [up_len] at he5; subst he5)
              | (refine stp_appN T_row (W := w2.alloc (.cells #[.slice A5 p.length c5] tL)) (B := w2.heap.size) (v := .slice (some ⟨w2.heap.size, 0, none⟩) 1 1) (vs := [.slice A5 p.length c5]) (y := y1) (us := vs.drop a) (own_lit w2 tL [.slice A5 p.length c5] (by simp [maxLen])) (HCY1.out _ (HB1.out.trans (((below_of_drew hb2).trans ((below1 w2 _).mono (by exact (below_of_drew hb2).size))).mono HB1.out.size))) (by have h := HVL.out; simp only [List.length_drop, List.length_cons, List.length_nil, h]; omega) (by simp) (fun u hu => HONE.out u (List.mem_of_mem_drop hu)) (by rfl) rfl (by rfl) (by rfl) ?_; intro v1 w3 hown1 hgr1))
            all_goals
              have HB2 := Lib.hid (below_of_drew hb2)
              have HAF := Lib.hid (HRR.out.fresh (M := w1.heap.size) HB1.out.size (fun b hb => ho2.1.ge b hb))
              have HO2 := Lib.hid ho2
              have HB3 := Lib.hid (hgr1.below (below1 w2 _) (below1 w2 _).size (fun b hb => by simp [Value.ownBlock] at hb; omega))
              clear hgr1 hb2 ho2 hc1
              go_wp2_with (first
                | (at_builtin; refine wpList_appN T_row (B := w3.heap.size) (v := .slice (some ⟨w3.heap.size, 0, none⟩) 0 0) (vs := []) (own_lit w3 tL [] (by simp [maxLen])) ((HCY2.out _ (HB1.out.trans ((HB2.out.trans (HB3.out.mono HB2.out.size)).mono HB1.out.size))).below (below1 w3 _)) (by have h := HVL.out; simp only [List.length_take, List.length_nil, h]; omega) (by simp) (fun u hu => HONE.out u (List.mem_of_mem_take hu)) (by rfl) rfl (by rfl) (by rfl) ?_; intro v2 w4 hown2 hgr2; have HB4 := Lib.hid (hgr2.below (below1 w3 _) (below1 w3 _).size (fun b hb => by simp [Value.ownBlock] at hb; omega)); clear hgr2)
                | (at_builtin; refine wpList_appN T_row (B := w3.heap.size) (v := v2) hown2 (hown1.below HB4.out).cells (by have h := HVL.out; simp only [List.length_append, List.length_take, List.length_drop, List.length_cons, List.length_nil, h]; omega) HB4.out.size (fun u hu => by rcases List.mem_append.1 hu with hu | hu; (simp at hu; subst hu; exact (RR.one HO2.out).oneCell _ (by simp)); exact HONE.out u (List.mem_of_mem_drop hu)) (by rfl) rfl (by rfl) (by rfl) ?_; intro v3 w5 hown3 hgr3; have HB5 := Lib.hid (hgr3.below HB4.out HB4.out.size hown2.ge); clear hgr3))
              go_roundw
              case rel =>
                have b25 := HB3.out.trans (HB5.out.mono HB3.out.size)
                have b15 := HB2.out.trans (b25.mono HB2.out.size)
                have bw5 := HB1.out.trans (b15.mono HB1.out.size)
                have hs1 := HB1.out.size
                have hs2 := HB2.out.size
                have hs3 := HB3.out.size
                refine ⟨j + 1, _, by omega, by go_num, hown3.mono (Nat.le_trans HBW.out.size (by omega)), ?_, pairApart_ins HAP.out HAF.out _, HBW.out.trans (bw5.mono HBW.out.size)⟩
                rw [HSN.out, HIN.out, List.map_append, List.map_cons, List.map_take, List.map_drop]
                exact (HRR.out.below bw5).insert ((HO2.out.below b25).mono (Nat.le_trans HBW.out.size hs1)) _
              case measure => simp [intOf]; omega
    · have : j = bs.length := by omega
      subst this
      rw [List.take_length] at HRR
      go_wp2_with fail
      go_ret
      exact ⟨_, rfl, ⟨vs, HO.out, HRR.out, HAP.out⟩, HBW.out⟩
end Go.Proofs.YtngdpoeondnchaaGreat

set_option linter.unusedVariables false
set_option linter.unusedSimpArgs false
set_option maxRecDepth 100000
namespace Go.Proofs.YtngdpoeondnchaaGreat

/-- one more than the last place below k with a level of more than 1; 0 if there is none -/
def pN (t : List Nat) : Nat → Nat
  | 0 => 0
  | k + 1 => bif Nat.ble (t.getD k 0) 1 then pN t k else k + 1
def fillF (t : List Nat) (d : Nat) : Nat → Nat → List Nat
  | 0, _ => t
  | m + 1, i => fillF (t.set i (t.getD (i - d) 0)) d m (i + 1)
/-- the next smaller list -/
def succT (t : List Nat) : Option (List Nat) := match pN t t.length with
  | 0 => none
  | p + 1 => some (fillF t (p - (parN t (t.getD p 0) p - 1)) (t.length - p) p)
def treesF : Nat → List Nat → List (List Nat)
  | 0, _ => []
  | f + 1, t => t :: match succT t with
    | none => []
    | some t' => treesF f t'
/-- all trees with n nodes, in order -/
def treesN (n : Nat) : List (List Nat) := treesF 200 (List.range n)

def okT (n : Nat) : Bool := Nat.ble (treesN n).length 115 && (treesN n).all fun t => Nat.beq t.length n && (lvl t && (match canO 9 t with | none => false | some r => eqN r t) &&
  match pN t t.length with
    | 0 => true
    | p + 1 => Nat.blt 0 (parN t (t.getD p 0) p))
theorem okT_8 : (List.range 8).all (fun n => okT (n + 1)) = true := by decide +kernel
theorem treesN_at {n : Nat} (h1 : 1 ≤ n) (h8 : n ≤ 8) : (treesN n).length ≤ 115 ∧ ∀ t ∈ treesN n, t.length = n ∧ lvl t = true ∧ canO 9 t = some t ∧ ∀ p, pN t t.length = p + 1 → 0 < parN t (t.getD p 0) p := by
  have h := okT_8
  rw [List.all_eq_true] at h
  have h2 := h (n - 1) (List.mem_range.2 (by omega))
  rw [show n - 1 + 1 = n by omega, okT] at h2
  simp only [Bool.and_eq_true, List.all_eq_true] at h2
  refine ⟨Nat.le_of_ble_eq_true h2.1, fun t ht => ?_⟩
  obtain ⟨a, ⟨b, c⟩, d⟩ := h2.2 t ht
  refine ⟨Nat.eq_of_beq_eq_true a, b, ?_, fun p hp => ?_⟩
  · cases hc : canO 9 t with
    | none => rw [hc] at c; cases c
    | some r => rw [hc] at c; rw [eqN_iff.1 c]
  · rw [hp] at d
    simpa using d
end Go.Proofs.YtngdpoeondnchaaGreat

