/- Walk: l03Canon of the reference. | Walk: rootOn of the program. | slices.SortFunc at lists of numbers: laid. | A list of one's own that the library has sorted. | slices.SortFunc with 'slices.Compare(b, a)', at lists of one's own: the lists in descending order. | Walks: slices.Clone at numbers; the columns of both. -/
import Derived.Test.YtdjhfeaimmpmhaaGreatZf5
import Derived.Shelf.SlSortCmp.Whole1
import Derived.Shelf.SlSortCmp.NoneTotal
import Derived.Shelf.SlGeneric
import Derived.Ground.SlsfProg
import Derived.Shelf.GgSortFunc.Insertion
import Derived.Test.YtdjhfeaimmpmhaaGreatZf2
import Derived.WalkSpells
import Derived.Deep.RegionLaw
set_option maxRecDepth 100000
set_option linter.unusedVariables false
set_option linter.unusedSimpArgs false
namespace Go.Proofs.YtdjhfeaimmpmhaaGreat
open Go.RowKit

section
variable {w : World} {B : Nat} {vs us : List Value} {xss yss : List (List Int)}
theorem RR.append (h : RR w B vs xss) (h' : RR w B us yss) : RR w B (vs ++ us) (xss ++ yss) := by
  refine ⟨by simp [h.1, h'.1], fun k u zs hu hz => ?_⟩
  by_cases hlt : k < vs.length
  · rw [List.getElem?_append_left hlt] at hu
    rw [List.getElem?_append_left (by rw [← h.1]; exact hlt)] at hz
    exact h.2 k u zs hu hz
  · rw [List.getElem?_append_right (by omega)] at hu
    rw [List.getElem?_append_right (by rw [← h.1]; omega), ← h.1] at hz
    exact h'.2 _ u zs hu hz
theorem RR.take (h : RR w B vs xss) (k : Nat) : RR w B (vs.take k) (xss.take k) := by
  refine ⟨by simp [h.1], fun j u zs hu hz => ?_⟩
  rw [List.getElem?_take] at hu hz
  split at hu
  · rw [if_pos (by assumption)] at hz
    exact h.2 j u zs hu hz
  · cases hu
theorem RR.drop (h : RR w B vs xss) (k : Nat) : RR w B (vs.drop k) (xss.drop k) := by
  refine ⟨by simp [h.1], fun j u zs hu hz => ?_⟩
  rw [List.getElem?_drop] at hu hz
  exact h.2 _ u zs hu hz
theorem RR.one {u : Value} {zs : List Int} (h : OwnInts w B tI u zs) : RR w B [u] [zs] := (RR.nil w B).snoc h
theorem RR.insert {u : Value} {zs : List Int} (h : RR w B vs xss) (hu : OwnInts w B tI u zs) (k : Nat) : RR w B ([] ++ vs.take k ++ ([u] ++ vs.drop k)) (xss.take k ++ zs :: xss.drop k) :=
  (h.take k).append ((RR.one hu).append (h.drop k))
end

/-- 's[k:]' and 's[:k]' of a list of lists -/
theorem cells_from {w : World} {A : Option Addr} {n c : Nat} {vs : List Value} (h : Cells w (.slice A n c) vs) (hn : n = vs.length) (k : Nat) (hk : k ≤ vs.length) :
    ∃ y, (∀ W, (Instr.slice 43 (.slice A n c) (some (.int .i64 k)) none none).run Tryz.prog W = .ok y W) ∧ Cells w y (vs.drop k) := by
  obtain ⟨X, h1, h2⟩ := sliced_cells h (k := k) (m := vs.length) hk (Nat.le_refl _)
  rw [List.take_length] at h2
  exact ⟨_, fun W => by rw [sl_from Tryz.underlying43 sizeL W A n c k k rfl (by omega), hn, h1], h2⟩
theorem cells_to {w : World} {A : Option Addr} {n c : Nat} {vs : List Value} (h : Cells w (.slice A n c) vs) (hc : n ≤ c) (hn : n = vs.length) (k : Nat) (hk : k ≤ vs.length) :
    ∃ y, (∀ W, (Instr.slice 43 (.slice A n c) none (some (.int .i64 k)) none).run Tryz.prog W = .ok y W) ∧ Cells w y (vs.take k) := by
  obtain ⟨X, h1, h2⟩ := sliced_cells h (k := 0) (m := k) (Nat.zero_le _) hk
  simp only [List.drop_zero] at h2
  exact ⟨_, fun W => by rw [sl_to Tryz.underlying43 sizeL W A n c k k rfl (by omega), h1], h2⟩
theorem bdA (w : World) (n : Nat) (o : Obj) : Below w.heap.size w ((w.drewN n).alloc o) := (below_drewN (Below.refl _ _) n).alloc (Nat.le_refl _) _

set_option maxHeartbeats 8000000 in
theorem s_l03Canon : ∀ (f : Nat) (w : World) (v : Value) (t r : List Nat), Ints w v (up t) → canO f t = some r → t.length ≤ 1000 → (∀ l ∈ t, l ≤ 1000000) →
    Calls Tryz.prog 179 #[v] w fun e w' => ∃ x, e = .returned x ∧ OwnInts w' w.heap.size tI x (up r) ∧ Below w.heap.size w w' := by
  intro f
  induction f with
  | zero => intro w v t r _ h; cases h
  | succ f ih =>
    intro w v t r ha hcan hn hl
    obtain ⟨bs, cs, hb, hm, hr⟩ := canO_parts hcan
    have IH := Lib.hid ih
    have HA := Lib.hid ha
    have HB := Lib.hid hb
    have HM := Lib.hid hm
    have HR := Lib.hid hr
    have HL := Lib.hid hl
    have HLE := Lib.hid (brO_lens hb hn)
    have HLM := Lib.hid (brO_mem hb hl)
    have HRL := Lib.hid (show r.length ≤ 1000 by rw [canO_len hcan]; exact hn)
    have HCL := Lib.hid (mapO_len hm)
    have hbl : bs.length ≤ 1000 := HLE.out.1
    obtain ⟨A, c, rfl, -, -, -⟩ := ha.open_
    rw [up_len] at HA ⊢
    clear ih ha hb hm hr hl hcan
    go_enter Tryz.func179, Tryz.ntmps179
    go_wp2_with (go_at_call 192; refine (s_l03Parts _ _ t bs HA.out HB.out hn HL.out).mono ?_; rintro e w1 ⟨r1, rfl, ho1, hb1⟩; have HP := Lib.hid ho1.rows; have HB1 := Lib.hid hb1; obtain ⟨A1, c1, hr1, -, -, hrow1⟩ := ho1.rows.open_; rw [List.length_map] at hr1 hrow1; subst hr1; have HROW := Lib.hid hrow1; have OL := Lib.hid (show Own (w1.alloc (.cells #[] tL)) w1.heap.size tL (.slice (some ⟨w1.heap.size, 0, none⟩) 0 0) [] from own_lit w1 tL [] (by simp [maxLen])); clear ho1 hb1 hrow1)
    go_loopw [4, 5, 6, 7, 8] (fun sv i s6 s7 s8 wr => ∃ (j : Nat) (vs : List Value), j ≤ bs.length ∧ i = .int .i64 j ∧ Own wr w1.heap.size tL sv vs ∧ RR wr w1.heap.size vs ((srtF [] (cs.take j)).map up) ∧ Below w1.heap.size w1 wr) (fun _ i _ _ _ _ => bs.length - (intOf i).toNat)
    case atStart => exact ⟨0, [], Nat.zero_le _, rfl, OL.out, RR.nil _ _, below1 _ _⟩
    case round =>
      obtain ⟨j, vs, hj, rfl, hown, hrr, hbw⟩ := hrel
      clear OL
      have HO := Lib.hid hown
      have HRR := Lib.hid hrr
      have HBW := Lib.hid hbw
      obtain ⟨A2, c2, rfl, k1, k2⟩ := hown.cells.open_
      have hvl : vs.length = j := by rw [hrr.1, List.length_map, len_srtF, List.length_take, HCL.out]; simp; omega
      have HVL := Lib.hid hvl
      have HSL := Lib.hid (show (srtF [] (cs.take j)).length = j by rw [len_srtF, List.length_take, HCL.out]; simp; omega)
      rw [hvl] at HO k1 ⊢
      clear hown hrr hbw hvl
      by_cases hlt : j < bs.length
      · obtain ⟨ad, u, zs, rfl, hz, hu, hc0⟩ := HROW.out j hlt
        have hc : wr.cell? (ad.add j) = some u := by
          rw [HBW.out.cell (by rw [block_add]; have := World.block_lt_of_cell? w1 _ hc0; rwa [block_add] at this)]; exact hc0
        have hbj : bs[j]? = some (bs[j]'hlt) := List.getElem?_eq_getElem _
        obtain ⟨cj, hcj, hcan⟩ := mapO_get HM.out j _ hbj
        have hzb : zs = up (bs[j]'hlt) := by rw [List.getElem?_map, hbj] at hz; injection hz with hz; exact hz.symm
        subst hzb
        have HU := Lib.hid (hu.below HBW.out)
        have HCAN := Lib.hid hcan
        have HSN := Lib.hid (show srtF [] (cs.take (j + 1)) = insD cj (srtF [] (cs.take j)) by rw [List.take_add_one, hcj]; exact srtF_snoc _ _ _)
        have HBJ1 := Lib.hid (HLE.out.2 _ (List.mem_of_getElem? hbj))
        have HBJ2 := Lib.hid (HLM.out _ (List.mem_of_getElem? hbj))
        have hji : (j : Int) < (bs.length : Int) := by omega
        generalize hss : srtF [] (cs.take j) = ss at HRR HSN HSL
        generalize bs[j]'hlt = bj at HU HCAN HBJ1 HBJ2
        clear hz hu hc0 hbj hcj hcan hss
        go_wp2_with (go_at_call 179; refine (IH.out _ _ _ _ HU.out HCAN.out HBJ1.out HBJ2.out).mono ?_; rintro e w2 ⟨r2, rfl, ho2, hb2⟩; obtain ⟨A5, c5, he5, -, -, -⟩ := ho2.ints.open_; rw [up_len] at he5; subst he5; have HO2 := Lib.hid ho2; have HB2 := Lib.hid hb2; clear ho2 hb2)
        have HIN := Lib.hid (insD_at cj ss)
        have HST := Lib.hid (insAt_step cj ss)
        have HAL := Lib.hid (show insAt cj ss ≤ j from by have := insAt_le cj ss; rw [HSL.out] at this; exact this)
        have hj1 : j ≤ 1000 := by omega
        have HOW2 := Lib.hid (HO.out.below HB2.out)
        have HONE := Lib.hid HRR.out.oneCell
        generalize insAt cj ss = a at HIN HST HAL
        go_loopw [7] (fun i wi => ∃ (k n : Nat), k ≤ a ∧ i = .int .i64 k ∧ wi = w2.drewN n) (fun i _ => a - (intOf i).toNat)
        case atStart => exact ⟨0, 0, Nat.zero_le _, rfl, rfl⟩
        case round =>
          obtain ⟨k, n, hk, rfl, rfl⟩ := hrel
          have hrow : k < j → ∃ ad' u' q, A2 = some ad' ∧ w2.cell? (ad'.add k) = some u' ∧ Ints w2 u' (up q) ∧ ss[k]? = some q := by
            intro hkj
            have hu' : vs[k]? = some (vs[k]'(by rw [HVL.out]; exact hkj)) := List.getElem?_eq_getElem _
            have hq : ss[k]? = some (ss[k]'(by rw [HSL.out]; exact hkj)) := List.getElem?_eq_getElem _
            have hi := HRR.out.2 k _ _ hu' (by rw [List.getElem?_map, hq]; rfl)
            obtain ⟨ad', n', c', he, hc'⟩ := HOW2.out.cells.at_ hu'
            simp only [Value.slice.injEq] at he
            exact ⟨ad', _, _, he.1, hc', (hi.below HB2.out).ints, hq⟩
          by_cases hlt2 : k < a
          · obtain ⟨ad', u', q, rfl, hc', hq1, hq2⟩ := hrow (by have := HAL.out; omega)
            have hless : ltN q cj = false := by
              rcases HST.out k q (by omega) hq2 with ⟨_, h⟩ | ⟨h, _⟩
              · omega
              · exact h
            have HQ := Lib.hid hq1
            have hkj : (k : Int) < (j : Int) := by have := HAL.out; omega
            clear hq1 hq2 hrow
            go_wp2_with (go_at_call 214; refine (quiet_lessF HQ.out HO2.out.ints).mono ?_; rintro e w3 ⟨rfl, n3, rfl⟩; rw [lessL_up, hless])
            go_roundw
            case rel => exact ⟨k + 1, n3, by omega, by go_num, rfl⟩
            case measure => simp [intOf]; omega
          · have hka : a = k := by omega
            subst hka
            have haj := HAL.out
            obtain ⟨y1, hy1, hcy1⟩ := cells_from HOW2.out.cells HVL.out.symm a (by rw [HVL.out]; exact haj)
            obtain ⟨y2, hy2, hcy2⟩ := cells_to HOW2.out.cells k1 HVL.out.symm a (by rw [HVL.out]; exact haj)
            have HCY1 := Lib.hid hcy1
            have HCY2 := Lib.hid hcy2
            have hcase : (∃ ad' u' q, A2 = some ad' ∧ w2.cell? (ad'.add a) = some u' ∧ Ints w2 u' (up q) ∧ ltN q cj = true ∧ (a : Int) < (j : Int)) ∨ j = a := by
              by_cases h : a < j
              · obtain ⟨ad', u', q, h1, h2, h3, h4⟩ := hrow h
                refine .inl ⟨ad', u', q, h1, h2, h3, ?_, by omega⟩
                rcases HST.out a q (Nat.le_refl _) h4 with ⟨h, _⟩ | ⟨_, h⟩
                · exact h
                · omega
              · exact .inr (by omega)
            clear hcy1 hcy2 hrow hlt2 hk
            rcases hcase with ⟨ad', u', q, rfl, hc', hq1, hless, hkj⟩ | rfl
            · have HQ := Lib.hid hq1
              clear hq1
              go_wp2_with (first
                | (go_at_call 214; refine (quiet_lessF HQ.out HO2.out.ints).mono ?_; rintro e w3 ⟨rfl, n3, rfl⟩; rw [lessL_up, hless])
                | (at_builtin; refine wpList_appN T_row (B := w2.heap.size) (v := .slice (some ⟨w2.heap.size, 0, none⟩) 1 1) (vs := [.slice A5 cj.length c5]) (own_lit _ tL [.slice A5 cj.length c5] (by simp [maxLen])) (HCY1.out.below (bdA _ _ _)) (by have h := HVL.out; simp only [List.length_drop, List.length_cons, List.length_nil, h]; omega) (by simp) (fun u hu => HONE.out u (List.mem_of_mem_drop hu)) (by rfl) rfl (by rfl) (by rfl) ?_; intro v1 w3 hown1 hgr1; have HB3 := Lib.hid (hgr1.below (bdA _ _ _) (bdA _ _ _).size (fun b hb => by simp [Value.ownBlock] at hb; omega)); clear hgr1)
                | (at_builtin; refine wpList_appN T_row (B := w3.heap.size) (v := .slice (some ⟨w3.heap.size, 0, none⟩) 0 0) (vs := []) (own_lit w3 tL [] (by simp [maxLen])) ((HCY2.out.below HB3.out).below (below1 w3 _)) (by have h := HVL.out; simp only [List.length_take, List.length_nil, h]; omega) (by simp) (fun u hu => HONE.out u (List.mem_of_mem_take hu)) (by rfl) rfl (by rfl) (by rfl) ?_; intro v2 w4 hown2 hgr2; have HB4 := Lib.hid (hgr2.below (below1 w3 _) (below1 w3 _).size (fun b hb => by simp [Value.ownBlock] at hb; omega)); clear hgr2)
                | (at_builtin; refine wpList_appN T_row (B := w3.heap.size) (v := v2) hown2 (hown1.below HB4.out).cells (by have h := HVL.out; simp only [List.length_append, List.length_take, List.length_drop, List.length_cons, List.length_nil, h]; omega) HB4.out.size (fun u hu => by rcases List.mem_append.1 hu with hu | hu; (simp at hu; subst hu; exact (RR.one HO2.out).oneCell _ (by simp)); exact HONE.out u (List.mem_of_mem_drop hu)) (by rfl) rfl (by rfl) (by rfl) ?_; intro v3 w5 hown3 hgr3; have HB5 := Lib.hid (hgr3.below HB4.out HB4.out.size hown2.ge); clear hgr3))
              go_roundw
              case rel =>
                have b25 := HB3.out.trans (HB5.out.mono HB3.out.size)
                have bw5 := HB2.out.trans (b25.mono HB2.out.size)
                refine ⟨j + 1, _, by omega, by go_num, hown3.mono (Nat.le_trans HBW.out.size (Nat.le_trans HB2.out.size HB3.out.size)), ?_, HBW.out.trans (bw5.mono HBW.out.size)⟩
                rw [HSN.out, HIN.out, List.map_append, List.map_cons, List.map_take, List.map_drop]
                exact (HRR.out.below bw5).insert ((HO2.out.below b25).mono HBW.out.size) _
              case measure => simp [intOf]; omega
            · clear hc
              go_wp2_with (first
                | (at_builtin; refine wpList_appN T_row (B := w2.heap.size) (v := .slice (some ⟨w2.heap.size, 0, none⟩) 1 1) (vs := [.slice A5 cj.length c5]) (own_lit _ tL [.slice A5 cj.length c5] (by simp [maxLen])) (HCY1.out.below (bdA _ _ _)) (by have h := HVL.out; simp only [List.length_drop, List.length_cons, List.length_nil, h]; omega) (by simp) (fun u hu => HONE.out u (List.mem_of_mem_drop hu)) (by rfl) rfl (by rfl) (by rfl) ?_; intro v1 w3 hown1 hgr1; have HB3 := Lib.hid (hgr1.below (bdA _ _ _) (bdA _ _ _).size (fun b hb => by simp [Value.ownBlock] at hb; omega)); clear hgr1)
                | (at_builtin; refine wpList_appN T_row (B := w3.heap.size) (v := .slice (some ⟨w3.heap.size, 0, none⟩) 0 0) (vs := []) (own_lit w3 tL [] (by simp [maxLen])) ((HCY2.out.below HB3.out).below (below1 w3 _)) (by have h := HVL.out; simp only [List.length_take, List.length_nil, h]; omega) (by simp) (fun u hu => HONE.out u (List.mem_of_mem_take hu)) (by rfl) rfl (by rfl) (by rfl) ?_; intro v2 w4 hown2 hgr2; have HB4 := Lib.hid (hgr2.below (below1 w3 _) (below1 w3 _).size (fun b hb => by simp [Value.ownBlock] at hb; omega)); clear hgr2)
                | (at_builtin; refine wpList_appN T_row (B := w3.heap.size) (v := v2) hown2 (hown1.below HB4.out).cells (by have h := HVL.out; simp only [List.length_append, List.length_take, List.length_drop, List.length_cons, List.length_nil, h]; omega) HB4.out.size (fun u hu => by rcases List.mem_append.1 hu with hu | hu; (simp at hu; subst hu; exact (RR.one HO2.out).oneCell _ (by simp)); exact HONE.out u (List.mem_of_mem_drop hu)) (by rfl) rfl (by rfl) (by rfl) ?_; intro v3 w5 hown3 hgr3; have HB5 := Lib.hid (hgr3.below HB4.out HB4.out.size hown2.ge); clear hgr3))
              go_roundw
              case rel =>
                have b25 := HB3.out.trans (HB5.out.mono HB3.out.size)
                have bw5 := HB2.out.trans (b25.mono HB2.out.size)
                refine ⟨j + 1, _, by omega, by go_num, hown3.mono (Nat.le_trans HBW.out.size (Nat.le_trans HB2.out.size HB3.out.size)), ?_, HBW.out.trans (bw5.mono HBW.out.size)⟩
                rw [HSN.out, HIN.out, List.map_append, List.map_cons, List.map_take, List.map_drop]
                exact (HRR.out.below bw5).insert ((HO2.out.below b25).mono HBW.out.size) _
              case measure => simp [intOf]; omega
      · have : j = bs.length := by omega
        subst this
        have HE := Lib.hid (show rootN (srtF [] (cs.take bs.length)) = r by rw [← HCL.out, List.take_length]; exact HR.out.symm)
        have HSB := Lib.hid (show ∀ q ∈ srtF [] (cs.take bs.length), q.length ≤ 1000 ∧ ∀ l ∈ q, l < 1000 from fun q hq => by
          rcases mem_srtF hq with h | h
          · simp at h
          · obtain ⟨x, hx, hxq⟩ := mapO_all HM.out q (List.mem_of_mem_take h)
            have h1 := canO_len hxq
            have h2 := HLE.out.2 x hx
            exact ⟨by omega, fun l hl => by have := canO_lt hxq l hl; omega⟩)
        generalize hss : srtF [] (cs.take bs.length) = ss at HRR HSL HE HSB
        have HBT := Lib.hid (show ∀ j, brLen (ss.take j) ≤ 1000 from fun j => by
          have h1 := congrArg brLen (List.take_append_drop j ss)
          have h2 := HRL.out
          rw [← HE.out, rootN, List.length_cons, bumps_len] at h2
          rw [brLen_append] at h1
          omega)
        have OL2 := Lib.hid (show OwnInts (wr.alloc (.cells #[.int .i64 0] tI)) wr.heap.size tI (.slice (some ⟨wr.heap.size, 0, none⟩) 1 1) [0] from ⟨own_lit wr tI [.int .i64 0] (by simp [maxLen]), fun z hz => by simp at hz; subst hz; unfold In64; omega⟩)
        clear hss
        go_wp2_with fail
        obtain ⟨w3, rfl⟩ : ∃ w3 : World, w3 = wr := ⟨_, rfl⟩
        go_loopw [9, 10, 11] (fun o i s11 wq => ∃ j : Nat, j ≤ bs.length ∧ i = .int .i64 j ∧ OwnInts wq w3.heap.size tI o (up (0 :: bumps (ss.take j))) ∧ Below w3.heap.size w3 wq) (fun _ i _ _ => bs.length - (intOf i).toNat)
        case atStart => exact ⟨0, Nat.zero_le _, rfl, by simpa [up, bumps] using OL2.out, below1 _ _⟩
        case round =>
          obtain ⟨j, hj, rfl, ho, hb⟩ := hrel
          clear OL2
          have HOI := Lib.hid ho
          have HBQ := Lib.hid hb
          clear ho hb
          by_cases hlt : j < bs.length
          · have hu' : vs[j]? = some (vs[j]'(by rw [HVL.out]; exact hlt)) := List.getElem?_eq_getElem _
            have hq : ss[j]? = some (ss[j]'(by rw [HSL.out]; exact hlt)) := List.getElem?_eq_getElem _
            have hi := HRR.out.2 j _ _ hu' (by rw [List.getElem?_map, hq]; rfl)
            obtain ⟨ad', n', c', he, hc'⟩ := HO.out.cells.at_ hu'
            simp only [Value.slice.injEq] at he
            obtain ⟨rfl, -, -⟩ := he
            obtain ⟨Aq, cq, heq, l1, l2, hcq⟩ := hi.ints.open_
            have HQB := Lib.hid (HSB.out _ (List.mem_of_getElem? hq))
            have HSN := Lib.hid (show ss.take (j + 1) = ss.take j ++ [ss[j]'(by rw [HSL.out]; exact hlt)] by rw [List.take_add_one, hq]; rfl)
            rw [heq] at hc'
            generalize ss[j]'(by rw [HSL.out]; exact hlt) = q at HQB HSN hc' hcq l1
            rw [up_len] at hc' hcq l1
            have HCU := Lib.hid (show ∀ W : World, Below w3.heap.size w3 W → W.cell? (ad'.add j) = some (.slice Aq q.length cq) from fun W hW => by rw [hW.cell (by rw [block_add]; have := World.block_lt_of_cell? w3 _ hc'; rwa [block_add] at this)]; exact hc')
            have HCQ := Lib.hid hcq
            have hji : (j : Int) < (bs.length : Int) := by omega
            clear hu' hq hi hc' heq hcq
            go_wp2_with fail
            obtain ⟨wo, rfl⟩ : ∃ wo : World, wo = wr := ⟨_, rfl⟩
            go_loopw [9, 11] (fun o i wi => ∃ k : Nat, k ≤ q.length ∧ i = .int .i64 k ∧ OwnInts wi w3.heap.size tI o (up (0 :: bumps (ss.take j) ++ bump (q.take k))) ∧ Below w3.heap.size w3 wi) (fun _ i _ => q.length - (intOf i).toNat)
            case atStart => exact ⟨0, Nat.zero_le _, rfl, by simpa [bump] using HOI.out, HBQ.out⟩
            case round =>
              obtain ⟨k, hk, rfl, ho, hb⟩ := hrel
              clear HOI HBQ
              have HOI := Lib.hid ho
              have HBQ := Lib.hid hb
              have hcu := HCU.out _ hb
              clear ho hb
              by_cases hlt2 : k < q.length
              · obtain ⟨aq, z, rfl, hz, -, hcz0⟩ := HCQ.out k hlt2
                obtain ⟨l, hlk, hzl⟩ := up_getD hz
                have hcz : wr.cell? (aq.add k) = some (.int .i64 z) := by
                  rw [HBQ.out.cell (by rw [block_add]; have := World.block_lt_of_cell? w3 _ hcz0; rwa [block_add] at this)]; exact hcz0
                have hl1 := HQB.out.2 l (List.mem_of_getElem? hlk)
                have hwz : IntKind.i64.wrap (z + 1) = z + 1 := IntWalk.i64_in _ (by omega)
                have hz64 : In64 (z + 1) := by unfold In64; omega
                have HTK := Lib.hid (show bump (q.take (k + 1)) = bump (q.take k) ++ [l + 1] by rw [List.take_add_one, hlk, bump_append]; rfl)
                have HZL := Lib.hid hzl
                have HLN := Lib.hid (show (up (0 :: bumps (ss.take j) ++ bump (q.take k))).length ≤ 1000000 by
                  have h1 := HBT.out j
                  have h2 := HQB.out.1
                  rw [up_len, List.length_append, List.length_cons, bumps_len, bump_len, List.length_take]
                  omega)
                have hki : (k : Int) < (q.length : Int) := by omega
                clear hz hlk hcz0 hzl hl1
                go_wp2_with (at_builtin; refine wpList_app1 T_int HOI.out.1 (by rw [ints_len]; have := HLN.out; omega) HBQ.out.size (by rfl) rfl (by rfl) (by rfl) (by rfl) ?_; intro v1 w5 hown1 hgr1; have HN := Lib.hid hown1; have HB5 := Lib.hid (hgr1.below HBQ.out HBQ.out.size HOI.out.1.ge); clear hown1 hgr1)
                go_roundw
                case rel =>
                  refine ⟨k + 1, by omega, by go_num, ?_, HB5.out⟩
                  have e : up (0 :: bumps (ss.take j) ++ bump (q.take (k + 1))) = up (0 :: bumps (ss.take j) ++ bump (q.take k)) ++ [z + 1] := by
                    rw [HTK.out, ← List.append_assoc, up_append, HZL.out]; rfl
                  rw [e]
                  exact ⟨by simpa [ints] using HN.out, fun y hy => by rcases List.mem_append.1 hy with hy | hy; exact HOI.out.2 y hy; simp at hy; subst hy; exact hz64⟩
                case measure => simp [intOf]; omega
              · have : k = q.length := by omega
                subst this
                have e : up (0 :: bumps (ss.take j) ++ bump (q.take q.length)) = up (0 :: bumps (ss.take (j + 1))) := by
                  rw [List.take_length, HSN.out, bumps_append]; simp [bumps]
                have HOI2 := Lib.hid (e ▸ HOI.out)
                clear HOI e
                go_wp2_with fail
                go_roundw
                case rel => exact ⟨j + 1, by omega, by go_num, HOI2.out, HBQ.out⟩
                case measure => simp [intOf]; omega
          · have : j = bs.length := by omega
            subst this
            go_wp2_with fail
            go_ret
            have hfin := HOI.out
            rw [← HSL.out, List.take_length] at hfin
            have hr : up (0 :: bumps ss) = up r := by rw [← HE.out]; rfl
            rw [hr] at hfin
            have b13 := HBW.out.trans (HBQ.out.mono HBW.out.size)
            exact ⟨_, rfl, hfin.mono (Nat.le_trans HB1.out.size HBW.out.size), HB1.out.trans (b13.mono HB1.out.size)⟩
end Go.Proofs.YtdjhfeaimmpmhaaGreat

set_option maxRecDepth 100000
set_option linter.unusedVariables false
set_option linter.unusedSimpArgs false
namespace Go.Proofs.YtdjhfeaimmpmhaaGreat
open Go.RowKit

set_option maxHeartbeats 4000000 in
theorem i_rootOn (w : World) (v : Value) (ss : List (List Nat)) (ha : Rows w v (ss.map up)) (hsb : ∀ q ∈ ss, q.length ≤ 1000 ∧ ∀ l ∈ q, l < 1000000) (hbt : brLen ss ≤ 1000) (hn : ss.length ≤ 1000) :
    Calls Tryz.prog 205 #[v] w fun e w' => ∃ x, e = .returned x ∧ OwnInts w' w.heap.size tI x (up (rootN ss)) ∧ Below w.heap.size w w' := by
  obtain ⟨A, c, rfl, l1, l2, h3⟩ := ha.open_
  rw [List.length_map] at h3 l1 ⊢
  have H3 := Lib.hid h3
  have HSB := Lib.hid hsb
  have HBT := Lib.hid (show ∀ j, brLen (ss.take j) ≤ 1000 from fun j => by
    have h1 := congrArg brLen (List.take_append_drop j ss)
    rw [brLen_append] at h1
    omega)
  have OL2 := Lib.hid (show OwnInts (w.alloc (.cells #[.int .i64 0] tI)) w.heap.size tI (.slice (some ⟨w.heap.size, 0, none⟩) 1 1) [0] from ⟨own_lit w tI [.int .i64 0] (by simp [maxLen]), fun z hz => by simp at hz; subst hz; unfold In64; omega⟩)
  clear ha h3 hsb hbt
  go_enter Tryz.func205, Tryz.ntmps205
  go_wp2_with fail
  go_loopw [3, 11] (fun o i wq => ∃ j : Nat, j ≤ ss.length ∧ i = .int .i64 j ∧ OwnInts wq w.heap.size tI o (up (0 :: bumps (ss.take j))) ∧ Below w.heap.size w wq) (fun _ i _ => ss.length - (intOf i).toNat)
  case atStart => exact ⟨0, Nat.zero_le _, rfl, by simpa [up, bumps] using OL2.out, below1 _ _⟩
  case round =>
    obtain ⟨j, hj, rfl, ho, hb⟩ := hrel
    clear OL2
    have HOI := Lib.hid ho
    have HBQ := Lib.hid hb
    clear ho hb
    by_cases hlt : j < ss.length
    · obtain ⟨ad', u, zs, rfl, hz, hu, hc'⟩ := H3.out j hlt
      have hq : ss[j]? = some (ss[j]'hlt) := List.getElem?_eq_getElem _
      have hzq : zs = up (ss[j]'hlt) := by rw [List.getElem?_map, hq] at hz; injection hz with hz; exact hz.symm
      subst hzq
      obtain ⟨Aq, cq, heq, l1, l2, hcq⟩ := hu.open_
      have HQB := Lib.hid (HSB.out _ (List.mem_of_getElem? hq))
      have HSN := Lib.hid (show ss.take (j + 1) = ss.take j ++ [ss[j]'hlt] by rw [List.take_add_one, hq]; rfl)
      rw [heq] at hc'
      generalize ss[j]'hlt = q at HQB HSN hc' hcq l1
      rw [up_len] at hc' hcq l1
      have hcu : wr.cell? (ad'.add j) = some (.slice Aq q.length cq) := by rw [HBQ.out.cell (by rw [block_add]; have := World.block_lt_of_cell? w _ hc'; rwa [block_add] at this)]; exact hc'
      have HCQ := Lib.hid hcq
      have hji : (j : Int) < (ss.length : Int) := by omega
      clear hz hq hu hc' heq hcq
      go_wp2_with fail
      clear hcu
      obtain ⟨wo, rfl⟩ : ∃ wo : World, wo = wr := ⟨_, rfl⟩
      go_loopw [3, 17] (fun o i wi => ∃ k : Nat, k ≤ q.length ∧ i = .int .i64 k ∧ OwnInts wi w.heap.size tI o (up (0 :: bumps (ss.take j) ++ bump (q.take k))) ∧ Below w.heap.size w wi) (fun _ i _ => q.length - (intOf i).toNat)
      case atStart => exact ⟨0, Nat.zero_le _, rfl, by simpa [bump] using HOI.out, HBQ.out⟩
      case round =>
        obtain ⟨k, hk, rfl, ho, hb⟩ := hrel
        clear HOI HBQ
        have HOI := Lib.hid ho
        have HBQ := Lib.hid hb
        clear ho hb
        by_cases hlt2 : k < q.length
        · obtain ⟨aq, z, rfl, hz, -, hcz0⟩ := HCQ.out k hlt2
          obtain ⟨l, hlk, hzl⟩ := up_getD hz
          have hcz : wr.cell? (aq.add k) = some (.int .i64 z) := by
            rw [HBQ.out.cell (by rw [block_add]; have := World.block_lt_of_cell? w _ hcz0; rwa [block_add] at this)]; exact hcz0
          have hl1 := HQB.out.2 l (List.mem_of_getElem? hlk)
          have hwz : IntKind.i64.wrap (z + 1) = z + 1 := IntWalk.i64_in _ (by omega)
          have hz64 : In64 (z + 1) := by unfold In64; omega
          have HTK := Lib.hid (show bump (q.take (k + 1)) = bump (q.take k) ++ [l + 1] by rw [List.take_add_one, hlk, bump_append]; rfl)
          have HZL := Lib.hid hzl
          have HLN := Lib.hid (show (up (0 :: bumps (ss.take j) ++ bump (q.take k))).length ≤ 1000000 by
            have h1 := HBT.out j
            have h2 := HQB.out.1
            rw [up_len, List.length_append, List.length_cons, bumps_len, bump_len, List.length_take]
            omega)
          have hki : (k : Int) < (q.length : Int) := by omega
          clear hz hlk hcz0 hzl hl1
          go_wp2_with (at_builtin; refine wpList_app1 T_int HOI.out.1 (by rw [ints_len]; have := HLN.out; omega) HBQ.out.size (by rfl) rfl (by rfl) (by rfl) (by rfl) ?_; intro v1 w5 hown1 hgr1; have HN := Lib.hid hown1; have HB5 := Lib.hid (hgr1.below HBQ.out HBQ.out.size HOI.out.1.ge); clear hown1 hgr1)
          go_roundw
          case rel =>
            refine ⟨k + 1, by omega, by go_num, ?_, HB5.out⟩
            have e : up (0 :: bumps (ss.take j) ++ bump (q.take (k + 1))) = up (0 :: bumps (ss.take j) ++ bump (q.take k)) ++ [z + 1] := by
              rw [HTK.out, ← List.append_assoc, up_append, HZL.out]; rfl
            rw [e]
            exact ⟨by simpa [ints] using HN.out, fun y hy => by rcases List.mem_append.1 hy with hy | hy; exact HOI.out.2 y hy; simp at hy; subst hy; exact hz64⟩
          case measure => simp [intOf]; omega
        · have : k = q.length := by omega
          subst this
          have e : up (0 :: bumps (ss.take j) ++ bump (q.take q.length)) = up (0 :: bumps (ss.take (j + 1))) := by
            rw [List.take_length, HSN.out, bumps_append]; simp [bumps]
          have HOI2 := Lib.hid (e ▸ HOI.out)
          clear HOI e
          go_wp2_with fail
          go_roundw
          case rel => exact ⟨j + 1, by omega, by go_num, HOI2.out, HBQ.out⟩
          case measure => simp [intOf]; omega
    · have : j = ss.length := by omega
      subst this
      go_wp2_with fail
      go_ret
      have hfin := HOI.out
      rw [List.take_length] at hfin
      exact ⟨_, rfl, hfin, HBQ.out⟩
end Go.Proofs.YtdjhfeaimmpmhaaGreat

set_option maxRecDepth 100000
namespace Go.Proofs
open Go.Shelf Go.RowKit Go.Lib Go.Sort
def Tryz.lsort_ren : Go.Shelf.Ren := ⟨fun | 6 => 203 | 15 => 230 | 14 => 229 | 28 => 249 | 29 => 250 | 20 => 241 | 21 => 242 | 22 => 243 | 23 => 244 | 24 => 245 | 25 => 246 | 26 => 247 | 27 => 248 | 46 => 265 | 47 => 266 | 48 => 267 | 49 => 268 | 50 => 269 | 57 => 274 | n => n, fun | 22 => 43 | 24 => 24 | 25 => 106 | 3 => 3 | 39 => 102 | 0 => 0 | 53 => 189 | 55 => 34 | 4 => 4 | 46 => 183 | 45 => 182 | 50 => 104 | 5 => 5 | 9 => 9 | 66 => 204 | 70 => 208 | 76 => 212 | 77 => 213 | n => n, fun | n => n⟩
theorem Tryz.lsort : Go.Proofs.SlLaysF.n6 Tryz.prog Tryz.lsort_ren := {
  mixed := by kernel_rfl
  f6 := ⟨Tryz.f203.name, by decide, Tryz.func203.trans (congrArg some (by kernel_rfl))⟩
  f14 := ⟨Tryz.f229.name, by decide, Tryz.func229.trans (congrArg some (by kernel_rfl))⟩
  f15 := Tryz.func230.trans (congrArg some (by kernel_rfl))
  f20 := ⟨Tryz.f241.name, by decide, Tryz.func241.trans (congrArg some (by kernel_rfl))⟩
  f21 := ⟨Tryz.f242.name, by decide, Tryz.func242.trans (congrArg some (by kernel_rfl))⟩
  f22 := ⟨Tryz.f243.name, by decide, Tryz.func243.trans (congrArg some (by kernel_rfl))⟩
  f23 := ⟨Tryz.f244.name, by decide, Tryz.func244.trans (congrArg some (by kernel_rfl))⟩
  f24 := ⟨Tryz.f245.name, by decide, Tryz.func245.trans (congrArg some (by kernel_rfl))⟩
  f25 := ⟨Tryz.f246.name, by decide, Tryz.func246.trans (congrArg some (by kernel_rfl))⟩
  f26 := ⟨Tryz.f247.name, by decide, Tryz.func247.trans (congrArg some (by kernel_rfl))⟩
  f27 := ⟨Tryz.f248.name, by decide, Tryz.func248.trans (congrArg some (by kernel_rfl))⟩
  f28 := Tryz.func249.trans (congrArg some (by kernel_rfl))
  f29 := Tryz.func250.trans (congrArg some (by kernel_rfl))
  f46 := ⟨Tryz.f265.name, by decide, Tryz.func265.trans (congrArg some (by kernel_rfl))⟩
  f47 := Tryz.func266.trans (congrArg some (by kernel_rfl))
  f48 := Tryz.func267.trans (congrArg some (by kernel_rfl))
  f49 := ⟨Tryz.f268.name, by decide, Tryz.func268.trans (congrArg some (by kernel_rfl))⟩
  f50 := ⟨Tryz.f269.name, by decide, Tryz.func269.trans (congrArg some (by kernel_rfl))⟩
  f57 := ⟨Tryz.f274.name, by decide, Tryz.func274.trans (congrArg some (by kernel_rfl))⟩
  t0 := Tryz.underlying0
  a0 := Tryz.isAgg0
  z0 := Tryz.sizeOf0
  v0 := Tryz.zeroValue0
  t3 := Tryz.underlying3
  a3 := Tryz.isAgg3
  z3 := Tryz.sizeOf3
  v3 := Tryz.zeroValue3
  t4 := Tryz.underlying4
  a4 := Tryz.isAgg4
  z4 := Tryz.sizeOf4
  v4 := Tryz.zeroValue4
  t5 := Tryz.underlying5
  a5 := Tryz.isAgg5
  z5 := Tryz.sizeOf5
  v5 := Tryz.zeroValue5
  t9 := Tryz.underlying9
  a9 := Tryz.isAgg9
  z9 := Tryz.sizeOf9
  v9 := Tryz.zeroValue9
  t22 := Tryz.underlying43
  a22 := Tryz.isAgg43
  z22 := Tryz.sizeOf43
  v22 := Tryz.zeroValue43
  a24 := Tryz.isAgg24
  z24 := Tryz.sizeOf24
  t25 := Tryz.underlying106
  a25 := Tryz.isAgg106
  z25 := Tryz.sizeOf106
  v25 := Tryz.zeroValue106
  t39 := Tryz.underlying102
  a39 := Tryz.isAgg102
  z39 := Tryz.sizeOf102
  v39 := Tryz.zeroValue102
  t45 := Tryz.underlying182
  a45 := Tryz.isAgg182
  z45 := Tryz.sizeOf182
  v45 := Tryz.zeroValue182
  t46 := Tryz.underlying183
  a46 := Tryz.isAgg183
  z46 := Tryz.sizeOf183
  v46 := Tryz.zeroValue183
  t50 := Tryz.underlying104
  a50 := Tryz.isAgg104
  z50 := Tryz.sizeOf104
  v50 := Tryz.zeroValue104
  t53 := Tryz.underlying189
  a53 := Tryz.isAgg189
  z53 := Tryz.sizeOf189
  v53 := Tryz.zeroValue189
  t55 := Tryz.underlying34
  a55 := Tryz.isAgg34
  z55 := Tryz.sizeOf34
  v55 := Tryz.zeroValue34
  t66 := Tryz.underlying204
  a66 := Tryz.isAgg204
  z66 := Tryz.sizeOf204
  v66 := Tryz.zeroValue204
  t70 := Tryz.underlying208
  a70 := Tryz.isAgg208
  z70 := Tryz.sizeOf208
  v70 := Tryz.zeroValue208
  t76 := Tryz.underlying212
  a76 := Tryz.isAgg212
  z76 := Tryz.sizeOf212
  v76 := Tryz.zeroValue212
  t77 := Tryz.underlying213
  a77 := Tryz.isAgg213
  z77 := Tryz.sizeOf213
  v77 := Tryz.zeroValue213 }
end Go.Proofs

set_option maxRecDepth 100000
set_option linter.unusedVariables false
set_option linter.unusedSimpArgs false
namespace Go.Proofs.YtdjhfeaimmpmhaaGreat
open Go.RowKit Go.Sort Go.Shelf

section
variable {α : Type} [Inhabited α] {enc : α → Value} {w : World} {B g cap n : Nat} {e : TypeId} {d : List α} {os : Array Obj}
theorem holds_own (h : Own w B e (.slice (some ⟨g, 0, none⟩) d.length cap) (d.map enc)) : Holds enc w g 0 d.toArray := by
  rcases h.cases with ⟨e, _⟩ | ⟨g', cap', cur, e, h1, h2, h3, h4, h5, h6, h7⟩
  · cases e
  simp only [Value.slice.injEq, Option.some.injEq, Addr.mk.injEq] at e
  obtain ⟨⟨rfl, -⟩, -, rfl⟩ := e
  intro j hj
  have hj' : j < d.length := by simpa using hj
  refine ⟨?_, by simp [World.frozen?, h3]⟩
  have h8 : (cur.toList.take (d.map enc).length)[j]? = (d.map enc)[j]? := by rw [h7]
  rw [List.getElem?_take_of_lt (by simpa using hj')] at h8
  simp only [World.cell?, h3, Nat.zero_add]
  simp only [Option.isSome_none, Bool.false_eq_true, if_false]
  rw [← Array.getElem?_toList, h8]
  simp [hj']
theorem heap_srt {cur : Array Value} {fr : Nat × Nat} (d : Array α) (hb : w.heap[g]? = some (.cells cur e fr)) :
    (sortWorld enc w g 0 n d os).heap[g]? = some (.cells (putCells enc 0 d cur) e fr) := by
  have hg : g < w.heap.size := (Array.getElem?_eq_some_iff.1 hb).1
  unfold sortWorld
  rw [heap_grow_old _ _ (by simpa using hg)]
  simp [putRow, mapBlock, Sort.ahead, Array.getElem?_modify, hb, onCells]
theorem grownBy_srt (d : Array α) : w.grownBy (sortWorld enc w g 0 n d os) (some g) := by
  unfold sortWorld
  refine ⟨rfl, rfl, rfl, by simp, fun k hk hne => ?_⟩
  rw [heap_grow_old _ _ (by simpa using hk)]
  have : g ≠ k := fun e => hne (by rw [e])
  simp [putRow, mapBlock, Sort.ahead, Array.getElem?_modify, this]
theorem take_put (cur : Array Value) (ts : List α) (h : ts.length ≤ cur.size) : (putCells enc 0 ts.toArray cur).toList.take ts.length = ts.map enc := by
  apply List.ext_getElem?
  intro j
  by_cases hj : j < ts.length
  · rw [List.getElem?_take_of_lt hj, Array.getElem?_toList]
    simp [putCells, hj, show j < cur.size by omega]
  · rw [List.getElem?_take_eq_none (by omega), List.getElem?_eq_none (by simp; omega)]
/-- behind the sort the same slice owns the sorted list -/
theorem own_srt {ts : List α} (h : Own w B e (.slice (some ⟨g, 0, none⟩) d.length cap) (d.map enc)) (hl : ts.length = d.length) :
    Own (sortWorld enc w g 0 n ts.toArray os) B e (.slice (some ⟨g, 0, none⟩) d.length cap) (ts.map enc) := by
  rcases h.cases with ⟨e, _⟩ | ⟨g', cap', cur, e, h1, h2, h3, h4, h5, h6, h7⟩
  · cases e
  simp only [Value.slice.injEq, Option.some.injEq, Addr.mk.injEq] at e
  obtain ⟨⟨rfl, -⟩, -, rfl⟩ := e
  rw [List.length_map] at h4
  unfold Own
  rw [List.length_map]
  exact ⟨by simp, .inr ⟨g, cap, _, by rw [hl], h1, heap_srt _ h3, by omega, h5, by simp [putCells, h6], by rw [Nat.mul_one]; exact take_put cur ts (by omega)⟩⟩
end
end Go.Proofs.YtdjhfeaimmpmhaaGreat

set_option maxRecDepth 100000
set_option linter.unusedVariables false
set_option linter.unusedSimpArgs false
namespace Go.Proofs.YtdjhfeaimmpmhaaGreat
open Go.RowKit Go.Sort Go.Shelf

theorem i_canonDesc (w : World) (v v' : Value) (a b : List Int) (ha : Ints w v a) (hb : Ints w v' b) :
    Calls Tryz.prog 204 #[v, v'] w fun e w' => e = .returned (.int .i64 (cmpL b a)) ∧ w = w' := by
  have HA := Lib.hid ha
  have HB := Lib.hid hb
  obtain ⟨A, c, rfl, -, -, -⟩ := ha.open_
  obtain ⟨A', c', rfl, -, -, -⟩ := hb.open_
  clear ha hb
  go_enter Tryz.func204, Tryz.ntmps204
  go_wp2_with (go_at_call 168; refine (lib_Compare _ _ _ b a HB.out HA.out).mono ?_; rintro e w1 ⟨rfl, rfl⟩)
  go_ret
  exact ⟨rfl, rfl⟩

/-- a list of numbers of one's own, with what it holds -/
abbrev Row1s (w : World) (B : Nat) := {p : Value × List Nat // OwnInts w B tI p.1 (up p.2)}
instance (w : World) (B : Nat) : Inhabited (Row1s w B) := ⟨⟨(.slice none 0 0, []), OwnInts.nil _ _ _⟩⟩

theorem mkRows {w : World} {B : Nat} : ∀ {vs : List Value} {bs : List (List Nat)}, RR w B vs (bs.map up) → ∃ d : List (Row1s w B), d.map (fun x => x.1.1) = vs ∧ d.map (fun x => x.1.2) = bs
  | [], [], _ => ⟨[], rfl, rfl⟩
  | [], _ :: _, h => by have := h.1; simp at this
  | _ :: _, [], h => by have := h.1; simp at this
  | v :: vs, b :: bs, h => by
    obtain ⟨d, h1, h2⟩ := mkRows (vs := vs) (bs := bs) ⟨by have := h.1; simpa using this, fun k u zs hu hz => h.2 (k + 1) u zs (by simpa using hu) (by simpa using hz)⟩
    exact ⟨⟨(v, b), h.2 0 v (up b) (by simp) (by simp)⟩ :: d, by simp [h1], by simp [h2]⟩

theorem rowCmp {w : World} {B : Nat} (x y : Row1s w B) : ltOf (fun (x y : Row1s w B) => cmpL (up y.1.2) (up x.1.2)) x y = ltN y.1.2 x.1.2 := cmpL_up _ _
theorem rowSwo (w : World) (B : Nat) : SWO (ltOf fun (x y : Row1s w B) => cmpL (up y.1.2) (up x.1.2)) where
  irrefl x := by rw [rowCmp]; exact ltN_irrefl _
  trans x y z h1 h2 := by rw [rowCmp] at *; exact ltN_trans h2 h1
  ntrans x y z h1 h2 := by rw [rowCmp] at *; exact ltN_ntrans h2 h1

theorem lib_SortDesc (w : World) (B cap : Nat) (A : Option Addr) (vs : List Value) (bs : List (List Nat)) (h : Own w B tL (.slice A vs.length cap) vs) (hr : RR w B vs (bs.map up)) (hn : vs.length ≤ 1000) :
    Calls Tryz.prog 203 #[.slice A vs.length cap, .func (.func 204) #[] #[]] w fun e w' => e = .returned (.tuple #[]) ∧
      ∃ vs', vs'.length = vs.length ∧ Own w' B tL (.slice A vs.length cap) vs' ∧ RR w' B vs' ((srtD bs).map up) ∧ w.grownBy w' (Value.ownBlock (.slice A vs.length cap)) := by
  rcases h.cases with ⟨he, rfl⟩ | ⟨g, cap', cur, he, hBg, hgs, -⟩
  · simp only [Value.slice.injEq] at he
    obtain ⟨rfl, -, rfl⟩ := he
    have hb : bs = [] := by have h0 := hr.1; rw [List.length_map] at h0; exact List.eq_nil_of_length_eq_zero h0.symm
    subst hb
    refine (AnyF.slices_SortFunc_none { Tryz.lsort with } none 0 _ w).mono ?_
    rintro e w' ⟨rfl, rfl⟩
    exact ⟨rfl, [], rfl, h, hr, World.grownBy.refl _ _⟩
  · simp only [Value.slice.injEq] at he
    obtain ⟨rfl, -, rfl⟩ := he
    obtain ⟨d, hd1, hd2⟩ := mkRows hr
    have hdl : d.length = vs.length := by rw [← hd1, List.length_map]
    have ho : Own w B tL (.slice (some ⟨g, 0, none⟩) d.length cap) (d.map fun x => x.1.1) := by rw [hd1, hdl]; exact h
    have hone : OneCell (fun x : Row1s w B => x.1.1) := fun x => (RR.one x.2).oneCell _ (by simp)
    have eg : ∀ args w, (callFunc 204 args).run Tryz.prog w = .ok (.enter 204 args) w := enters_of Tryz.func204 (by kernel_rfl) rfl
    have hkeep : ∀ (x : Row1s w B) (m : Nat) (dk : Array (Row1s w B)) (os : Array Obj), OwnInts (sortWorld (fun x : Row1s w B => x.1.1) w g 0 m dk os) B tI x.1.1 (up x.1.2) := fun x m dk os =>
      x.2.kept (v' := .slice (some ⟨g, 0, none⟩) vs.length cap) (grownBy_srt dk) (x.2.1.ne_of_type h (by decide))
    have hcmp : CmpReads Tryz.prog 204 #[] (fun x : Row1s w B => x.1.1) (fun x y => cmpL (up y.1.2) (up x.1.2)) g 0 d.toArray.size w := fun m os dk _ x y =>
      (i_canonDesc _ _ _ _ _ (hkeep x m dk os).ints (hkeep y m dk os).ints).mono fun e w' ⟨he, hw⟩ => ⟨he, 0, hw.symm⟩
    have hcon := Any.slices_SortFunc Tryz.lsort (fun x : Row1s w B => x.1.1) hone _ (rowSwo w B) 204 #[] g 0 cap d.toArray w eg hcmp.lays (holds_own ho) hgs (by simp; omega)
    rw [List.size_toArray, hdl] at hcon
    refine hcon.mono ?_
    rintro e w' ⟨rfl, d', n, os, hp, hs, rfl⟩
    have hsz : d'.size = vs.length := by have := hp.1; simp at this; omega
    have hperm : d'.toList.Perm d := by
      have h3 := hp.2.2
      rw [← hsz] at h3
      simp only [Array.extract_size] at h3
      have e : (d.toArray.extract 0 d'.size).toList = d := by
        rw [show d'.size = d.toArray.size by simp; omega, Array.extract_size]
      rw [e] at h3
      exact h3
    have hdesc : Desc (d'.toList.map fun x => x.1.2) := by
      rw [Desc, List.pairwise_iff_getElem]
      intro i j hi hj hij
      simp at hi hj
      have h4 := hs i j (Nat.zero_le _) hij (by omega)
      rw [rowCmp, getElem!_pos d' i (by omega), getElem!_pos d' j (by omega)] at h4
      simpa using h4
    have hL : (d'.toList.map fun x => x.1.2) = srtD bs := srtD_unique (by rw [← hd2]; exact hperm.map _) hdesc
    have hl : d'.toList.length = d.length := by simp; omega
    have hfin := own_srt (n := n) (os := os) ho hl
    simp only [Array.toArray_toList] at hfin
    rw [hdl] at hfin
    refine ⟨rfl, d'.toList.map (fun x => x.1.1), by simp; omega, hfin, ⟨by rw [← hL]; simp, fun k u zs hu hz => ?_⟩, grownBy_srt d'⟩
    rw [← hL, List.map_map, List.getElem?_map] at hz
    rw [List.getElem?_map] at hu
    cases hx : d'.toList[k]? with
    | none => rw [hx] at hu; cases hu
    | some x =>
      rw [hx] at hu hz
      simp only [Option.map_some, Option.some.injEq, Function.comp] at hu hz
      subst hu; subst hz
      exact hkeep x _ _ _
end Go.Proofs.YtdjhfeaimmpmhaaGreat

set_option maxRecDepth 100000
set_option linter.unusedVariables false
set_option linter.unusedSimpArgs false
namespace Go.Proofs.YtdjhfeaimmpmhaaGreat
open Go.RowKit

theorem ints_oneV (zs : List Int) : ∀ u ∈ ints zs, u.oneCell' = true := by
  intro u hu
  obtain ⟨z, _, rfl⟩ := List.mem_map.1 hu
  rfl

set_option maxHeartbeats 1000000 in
theorem lib_Clone (w : World) (v : Value) (zs : List Int) (ha : Ints w v zs) (hn : zs.length ≤ 4294967296) :
    Calls Tryz.prog 167 #[v] w fun e w' => ∃ r, e = .returned r ∧ OwnInts w' w.heap.size tI r zs ∧ Below w.heap.size w w' := by
  obtain ⟨A, c, rfl, l1, l2, h3⟩ := ha.open_
  have HA := Lib.hid ha
  clear h3 ha
  have OL := Lib.hid (own_lit w tI [] (by simp [maxLen]))
  have B1 := Lib.hid (below1 w (.cells #[] tI))
  have en := fun (W : World) (a : Option Addr) (n c : Nat) => Lib.run_eql_slice_nil (P := Tryz.prog) W 24 2 a n c 0 0 Tryz.underlying24
  go_enter Tryz.func167, Tryz.ntmps167
  cases A with
  | none =>
    have HZ := Lib.hid (show zs = [] by
      obtain ⟨A, c', hv, -, -, h3⟩ := HA.out.open_
      simp only [Value.slice.injEq] at hv
      obtain ⟨rfl, -, -⟩ := hv
      cases zs with
      | nil => rfl
      | cons z r => obtain ⟨ad, _, hA, _⟩ := h3 0 (by simp); cases hA)
    go_wp2_with fail
    go_ret
    refine ⟨_, rfl, ?_, Below.refl _ _⟩
    rw [HZ.out]
    exact OwnInts.nil _ _ _
  | some ad =>
    go_wp2_with (at_builtin; refine wpList_appN T_int OL.out (HA.out.below B1.out).1 (by rw [ints_len]; simp; omega) B1.out.size (ints_oneV _) rfl (by rfl) (by rfl) (by rfl) ?_; intro v1 w2 hown1 hgr1)
    go_ret
    exact ⟨_, rfl, ⟨by simpa using hown1, HA.out.2⟩, hgr1.below B1.out (by simp) OL.out.ge⟩

end Go.Proofs.YtdjhfeaimmpmhaaGreat

