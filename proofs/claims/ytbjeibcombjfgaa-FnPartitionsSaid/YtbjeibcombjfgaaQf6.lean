/- Walk: l03Canon of the reference. | Walk: rootOn of the program. | Walks: isLevelList, IsLevels of the program; l03Is of the reference. | Walk: l03Is of the reference. -/
import Derived.Test.YtbjeibcombjfgaaQf4
import Derived.Test.YtbjeibcombjfgaaQf5
set_option maxRecDepth 100000
set_option linter.unusedVariables false
set_option linter.unusedSimpArgs false
namespace Go.Proofs.Ytbjeibcombjfgaa
open Go.RowKit

section
variable {w : World} {B : Nat} {vs us : List Value} {xss yss : List (List Int)}
theorem RR.append (h : RR w B vs xss) (h' : RR w B us yss) : RR w B (vs ++ us) (xss ++ yss) := by
  refine ⟨by simp [h.1, h'.1], fun k u zs hu hz => ?_⟩
  by_cases hlt : k < vs.length
  · rw [List.getElem?_append_left hlt] at hu
    rw [List.getElem?_append_left (by rw [← h.1]; exact hlt)] at hz
    exact h.2 k u zs hu hz
  · rw [List.getElem?_append_right (by omega)] at hu
    rw [List.getElem?_append_right (by rw [← h.1]; omega), ← h.1] at hz
    exact h'.2 _ u zs hu hz
theorem RR.take (h : RR w B vs xss) (k : Nat) : RR w B (vs.take k) (xss.take k) := by
  refine ⟨by simp [h.1], fun j u zs hu hz => ?_⟩
  rw [List.getElem?_take] at hu hz
  split at hu
  · rw [if_pos (by assumption)] at hz
    exact h.2 j u zs hu hz
  · cases hu
theorem RR.drop (h : RR w B vs xss) (k : Nat) : RR w B (vs.drop k) (xss.drop k) := by
  refine ⟨by simp [h.1], fun j u zs hu hz => ?_⟩
  rw [List.getElem?_drop] at hu hz
  exact h.2 _ u zs hu hz
theorem RR.one {u : Value} {zs : List Int} (h : OwnInts w B tI u zs) : RR w B [u] [zs] := (RR.nil w B).snoc h
theorem RR.insert {u : Value} {zs : List Int} (h : RR w B vs xss) (hu : OwnInts w B tI u zs) (k : Nat) : RR w B ([] ++ vs.take k ++ ([u] ++ vs.drop k)) (xss.take k ++ zs :: xss.drop k) :=
  (h.take k).append ((RR.one hu).append (h.drop k))
end

/-- 's[k:]' and 's[:k]' of a list of lists -/
theorem cells_from {w : World} {A : Option Addr} {n c : Nat} {vs : List Value} (h : Cells w (.slice A n c) vs) (hn : n = vs.length) (k : Nat) (hk : k ≤ vs.length) :
    ∃ y, (∀ W, (Instr.slice 24 (.slice A n c) (some (.int .i64 k)) none none).run Try.prog W = .ok y W) ∧ Cells w y (vs.drop k) := by
  obtain ⟨X, h1, h2⟩ := sliced_cells h (k := k) (m := vs.length) hk (Nat.le_refl _)
  rw [List.take_length] at h2
  exact ⟨_, fun W => by rw [sl_from Try.underlying24 sizeL W A n c k k rfl (by omega), hn, h1], h2⟩
theorem cells_to {w : World} {A : Option Addr} {n c : Nat} {vs : List Value} (h : Cells w (.slice A n c) vs) (hc : n ≤ c) (hn : n = vs.length) (k : Nat) (hk : k ≤ vs.length) :
    ∃ y, (∀ W, (Instr.slice 24 (.slice A n c) none (some (.int .i64 k)) none).run Try.prog W = .ok y W) ∧ Cells w y (vs.take k) := by
  obtain ⟨X, h1, h2⟩ := sliced_cells h (k := 0) (m := k) (Nat.zero_le _) hk
  simp only [List.drop_zero] at h2
  exact ⟨_, fun W => by rw [sl_to Try.underlying24 sizeL W A n c k k rfl (by omega), h1], h2⟩
theorem bdA (w : World) (n : Nat) (o : Obj) : Below w.heap.size w ((w.drewN n).alloc o) := (below_drewN (Below.refl _ _) n).alloc (Nat.le_refl _) _

set_option maxHeartbeats 8000000 in
theorem s_l03Canon : ∀ (f : Nat) (w : World) (v : Value) (t r : List Nat), Ints w v (up t) → canO f t = some r → t.length ≤ 1000 → (∀ l ∈ t, l ≤ 1000000) →
    Calls Try.prog 95 #[v] w fun e w' => ∃ x, e = .returned x ∧ OwnInts w' w.heap.size tI x (up r) ∧ Below w.heap.size w w' := by
  intro f
  induction f with
  | zero => intro w v t r _ h; cases h
  | succ f ih =>
    intro w v t r ha hcan hn hl
    obtain ⟨bs, cs, hb, hm, hr⟩ := canO_parts hcan
    have IH := Lib.hid ih
    have HA := Lib.hid ha
    have HB := Lib.hid hb
    have HM := Lib.hid hm
    have HR := Lib.hid hr
    have HL := Lib.hid hl
    have HLE := Lib.hid (brO_lens hb hn)
    have HLM := Lib.hid (brO_mem hb hl)
    have HRL := Lib.hid (show r.length ≤ 1000 by rw [canO_len hcan]; exact hn)
    have HCL := Lib.hid (mapO_len hm)
    have hbl : bs.length ≤ 1000 := HLE.out.1
    obtain ⟨A, c, rfl, -, -, -⟩ := ha.open_
    rw [up_len] at HA ⊢
    clear ih ha hb hm hr hl hcan
    go_enter Try.func95, Try.ntmps95
    go_wp2_with (go_at_call 154; refine (s_l03Parts _ _ t bs HA.out HB.out hn HL.out).mono ?_; rintro e w1 ⟨r1, rfl, ho1, hb1⟩; have HP := Lib.hid ho1.rows; have HB1 := Lib.hid hb1; obtain ⟨A1, c1, hr1, -, -, hrow1⟩ := ho1.rows.open_; rw [List.length_map] at hr1 hrow1; subst hr1; have HROW := Lib.hid hrow1; have OL := Lib.hid (show Own (w1.alloc (.cells #[] tL)) w1.heap.size tL (.slice (some ⟨w1.heap.size, 0, none⟩) 0 0) [] from own_lit w1 tL [] (by simp [maxLen])); clear ho1 hb1 hrow1)
    go_loopw [4, 5, 6, 7, 8] (fun sv i s6 s7 s8 wr => ∃ (j : Nat) (vs : List Value), j ≤ bs.length ∧ i = .int .i64 j ∧ Own wr w1.heap.size tL sv vs ∧ RR wr w1.heap.size vs ((srtF [] (cs.take j)).map up) ∧ Below w1.heap.size w1 wr) (fun _ i _ _ _ _ => bs.length - (intOf i).toNat)
    case atStart => exact ⟨0, [], Nat.zero_le _, rfl, OL.out, RR.nil _ _, below1 _ _⟩
    case round =>
      obtain ⟨j, vs, hj, rfl, hown, hrr, hbw⟩ := hrel
      clear OL
      have HO := Lib.hid hown
      have HRR := Lib.hid hrr
      have HBW := Lib.hid hbw
      obtain ⟨A2, c2, rfl, k1, k2⟩ := hown.cells.open_
      have hvl : vs.length = j := by rw [hrr.1, List.length_map, len_srtF, List.length_take, HCL.out]; simp; omega
      have HVL := Lib.hid hvl
      have HSL := Lib.hid (show (srtF [] (cs.take j)).length = j by rw [len_srtF, List.length_take, HCL.out]; simp; omega)
      rw [hvl] at HO k1 ⊢
      clear hown hrr hbw hvl
      by_cases hlt : j < bs.length
      · obtain ⟨ad, u, zs, rfl, hz, hu, hc0⟩ := HROW.out j hlt
        have hc : wr.cell? (ad.add j) = some u := by
          rw [HBW.out.cell (by rw [block_add]; have := World.block_lt_of_cell? w1 _ hc0; rwa [block_add] at this)]; exact hc0
        have hbj : bs[j]? = some (bs[j]'hlt) := List.getElem?_eq_getElem _
        obtain ⟨cj, hcj, hcan⟩ := mapO_get HM.out j _ hbj
        have hzb : zs = up (bs[j]'hlt) := by rw [List.getElem?_map, hbj] at hz; injection hz with hz; exact hz.symm
        subst hzb
        have HU := Lib.hid (hu.below HBW.out)
        have HCAN := Lib.hid hcan
        have HSN := Lib.hid (show srtF [] (cs.take (j + 1)) = insD cj (srtF [] (cs.take j)) by rw [List.take_add_one, hcj]; exact srtF_snoc _ _ _)
        have HBJ1 := Lib.hid (HLE.out.2 _ (List.mem_of_getElem? hbj))
        have HBJ2 := Lib.hid (HLM.out _ (List.mem_of_getElem? hbj))
        have hji : (j : Int) < (bs.length : Int) := by omega
        generalize hss : srtF [] (cs.take j) = ss at HRR HSN HSL
        generalize bs[j]'hlt = bj at HU HCAN HBJ1 HBJ2
        clear hz hu hc0 hbj hcj hcan hss
        go_wp2_with (go_at_call 95; refine (IH.out _ _ _ _ HU.out HCAN.out HBJ1.out HBJ2.out).mono ?_; rintro e w2 ⟨r2, rfl, ho2, hb2⟩; obtain ⟨A5, c5, he5, -, -, -⟩ := ho2.ints.open_; rw [up_len] at he5; subst he5; have HO2 := Lib.hid ho2; have HB2 := Lib.hid hb2; clear ho2 hb2)
        have HIN := Lib.hid (insD_at cj ss)
        have HST := Lib.hid (insAt_step cj ss)
        have HAL := Lib.hid (show insAt cj ss ≤ j from by have := insAt_le cj ss; rw [HSL.out] at this; exact this)
        have hj1 : j ≤ 1000 := by omega
        have HOW2 := Lib.hid (HO.out.below HB2.out)
        have HONE := Lib.hid HRR.out.oneCell
        generalize insAt cj ss = a at HIN HST HAL
        go_loopw [7] (fun i wi => ∃ (k n : Nat), k ≤ a ∧ i = .int .i64 k ∧ wi = w2.drewN n) (fun i _ => a - (intOf i).toNat)
        case atStart => exact ⟨0, 0, Nat.zero_le _, rfl, rfl⟩
        case round =>
          obtain ⟨k, n, hk, rfl, rfl⟩ := hrel
          have hrow : k < j → ∃ ad' u' q, A2 = some ad' ∧ w2.cell? (ad'.add k) = some u' ∧ Ints w2 u' (up q) ∧ ss[k]? = some q := by
            intro hkj
            have hu' : vs[k]? = some (vs[k]'(by rw [HVL.out]; exact hkj)) := List.getElem?_eq_getElem _
            have hq : ss[k]? = some (ss[k]'(by rw [HSL.out]; exact hkj)) := List.getElem?_eq_getElem _
            have hi := HRR.out.2 k _ _ hu' (by rw [List.getElem?_map, hq]; rfl)
            obtain ⟨ad', n', c', he, hc'⟩ := HOW2.out.cells.at_ hu'
            simp only [Value.slice.injEq] at he
            exact ⟨ad', _, _, he.1, hc', (hi.below HB2.out).ints, hq⟩
          by_cases hlt2 : k < a
          · obtain ⟨ad', u', q, rfl, hc', hq1, hq2⟩ := hrow (by have := HAL.out; omega)
            have hless : ltN q cj = false := by
              rcases HST.out k q (by omega) hq2 with ⟨_, h⟩ | ⟨h, _⟩
              · omega
              · exact h
            have HQ := Lib.hid hq1
            have hkj : (k : Int) < (j : Int) := by have := HAL.out; omega
            clear hq1 hq2 hrow
            go_wp2_with (go_at_call 155; refine (quiet_lessF HQ.out HO2.out.ints).mono ?_; rintro e w3 ⟨rfl, n3, rfl⟩; rw [lessL_up, hless])
            go_roundw
            case rel => exact ⟨k + 1, n3, by omega, by go_num, rfl⟩
            case measure => simp [intOf]; omega
          · have hka : a = k := by omega
            subst hka
            have haj := HAL.out
            obtain ⟨y1, hy1, hcy1⟩ := cells_from HOW2.out.cells HVL.out.symm a (by rw [HVL.out]; exact haj)
            obtain ⟨y2, hy2, hcy2⟩ := cells_to HOW2.out.cells k1 HVL.out.symm a (by rw [HVL.out]; exact haj)
            have HCY1 := Lib.hid hcy1
            have HCY2 := Lib.hid hcy2
            have hcase : (∃ ad' u' q, A2 = some ad' ∧ w2.cell? (ad'.add a) = some u' ∧ Ints w2 u' (up q) ∧ ltN q cj = true ∧ (a : Int) < (j : Int)) ∨ j = a := by
              by_cases h : a < j
              · obtain ⟨ad', u', q, h1, h2, h3, h4⟩ := hrow h
                refine .inl ⟨ad', u', q, h1, h2, h3, ?_, by omega⟩
                rcases HST.out a q (Nat.le_refl _) h4 with ⟨h, _⟩ | ⟨_, h⟩
                · exact h
                · omega
              · exact .inr (by omega)
            clear hcy1 hcy2 hrow hlt2 hk
            rcases hcase with ⟨ad', u', q, rfl, hc', hq1, hless, hkj⟩ | rfl
            · have HQ := Lib.hid hq1
              clear hq1
              go_wp2_with (first
                | (go_at_call 155; refine (quiet_lessF HQ.out HO2.out.ints).mono ?_; rintro e w3 ⟨rfl, n3, rfl⟩; rw [lessL_up, hless])
                | (at_builtin; refine wpList_appN T_row (B := w2.heap.size) (v := .slice (some ⟨w2.heap.size, 0, none⟩) 1 1) (vs := [.slice A5 cj.length c5]) (own_lit _ tL [.slice A5 cj.length c5] (by simp [maxLen])) (HCY1.out.below (bdA _ _ _)) (by have h := HVL.out; simp only [List.length_drop, List.length_cons, List.length_nil, h]; omega) (by simp) (fun u hu => HONE.out u (List.mem_of_mem_drop hu)) (by rfl) rfl (by rfl) (by rfl) ?_; intro v1 w3 hown1 hgr1; have HB3 := Lib.hid (hgr1.below (bdA _ _ _) (bdA _ _ _).size (fun b hb => by simp [Value.ownBlock] at hb; omega)); clear hgr1)
                | (at_builtin; refine wpList_appN T_row (B := w3.heap.size) (v := .slice (some ⟨w3.heap.size, 0, none⟩) 0 0) (vs := []) (own_lit w3 tL [] (by simp [maxLen])) ((HCY2.out.below HB3.out).below (below1 w3 _)) (by have h := HVL.out; simp only [List.length_take, List.length_nil, h]; omega) (by simp) (fun u hu => HONE.out u (List.mem_of_mem_take hu)) (by rfl) rfl (by rfl) (by rfl) ?_; intro v2 w4 hown2 hgr2; have HB4 := Lib.hid (hgr2.below (below1 w3 _) (below1 w3 _).size (fun b hb => by simp [Value.ownBlock] at hb; omega)); clear hgr2)
                | (at_builtin; refine wpList_appN T_row (B := w3.heap.size) (v := v2) hown2 (hown1.below HB4.out).cells (by have h := HVL.out; simp only [List.length_append, List.length_take, List.length_drop, List.length_cons, List.length_nil, h]; omega) HB4.out.size (fun u hu => by rcases List.mem_append.1 hu with hu | hu; (simp at hu; subst hu; exact (RR.one HO2.out).oneCell _ (by simp)); exact HONE.out u (List.mem_of_mem_drop hu)) (by rfl) rfl (by rfl) (by rfl) ?_; intro v3 w5 hown3 hgr3; have HB5 := Lib.hid (hgr3.below HB4.out HB4.out.size hown2.ge); clear hgr3))
              go_roundw
              case rel =>
                have b25 := HB3.out.trans (HB5.out.mono HB3.out.size)
                have bw5 := HB2.out.trans (b25.mono HB2.out.size)
                refine ⟨j + 1, _, by omega, by go_num, hown3.mono (Nat.le_trans HBW.out.size (Nat.le_trans HB2.out.size HB3.out.size)), ?_, HBW.out.trans (bw5.mono HBW.out.size)⟩
                rw [HSN.out, HIN.out, List.map_append, List.map_cons, List.map_take, List.map_drop]
                exact (HRR.out.below bw5).insert ((HO2.out.below b25).mono HBW.out.size) _
              case measure => simp [intOf]; omega
            · clear hc
              go_wp2_with (first
                | (at_builtin; refine wpList_appN T_row (B := w2.heap.size) (v := .slice (some ⟨w2.heap.size, 0, none⟩) 1 1) (vs := [.slice A5 cj.length c5]) (own_lit _ tL [.slice A5 cj.length c5] (by simp [maxLen])) (HCY1.out.below (bdA _ _ _)) (by have h := HVL.out; simp only [List.length_drop, List.length_cons, List.length_nil, h]; omega) (by simp) (fun u hu => HONE.out u (List.mem_of_mem_drop hu)) (by rfl) rfl (by rfl) (by rfl) ?_; intro v1 w3 hown1 hgr1; have HB3 := Lib.hid (hgr1.below (bdA _ _ _) (bdA _ _ _).size (fun b hb => by simp [Value.ownBlock] at hb; omega)); clear hgr1)
                | (at_builtin; refine wpList_appN T_row (B := w3.heap.size) (v := .slice (some ⟨w3.heap.size, 0, none⟩) 0 0) (vs := []) (own_lit w3 tL [] (by simp [maxLen])) ((HCY2.out.below HB3.out).below (below1 w3 _)) (by have h := HVL.out; simp only [List.length_take, List.length_nil, h]; omega) (by simp) (fun u hu => HONE.out u (List.mem_of_mem_take hu)) (by rfl) rfl (by rfl) (by rfl) ?_; intro v2 w4 hown2 hgr2; have HB4 := Lib.hid (hgr2.below (below1 w3 _) (below1 w3 _).size (fun b hb => by simp [Value.ownBlock] at hb; omega)); clear hgr2)
                | (at_builtin; refine wpList_appN T_row (B := w3.heap.size) (v := v2) hown2 (hown1.below HB4.out).cells (by have h := HVL.out; simp only [List.length_append, List.length_take, List.length_drop, List.length_cons, List.length_nil, h]; omega) HB4.out.size (fun u hu => by rcases List.mem_append.1 hu with hu | hu; (simp at hu; subst hu; exact (RR.one HO2.out).oneCell _ (by simp)); exact HONE.out u (List.mem_of_mem_drop hu)) (by rfl) rfl (by rfl) (by rfl) ?_; intro v3 w5 hown3 hgr3; have HB5 := Lib.hid (hgr3.below HB4.out HB4.out.size hown2.ge); clear hgr3))
              go_roundw
              case rel =>
                have b25 := HB3.out.trans (HB5.out.mono HB3.out.size)
                have bw5 := HB2.out.trans (b25.mono HB2.out.size)
                refine ⟨j + 1, _, by omega, by go_num, hown3.mono (Nat.le_trans HBW.out.size (Nat.le_trans HB2.out.size HB3.out.size)), ?_, HBW.out.trans (bw5.mono HBW.out.size)⟩
                rw [HSN.out, HIN.out, List.map_append, List.map_cons, List.map_take, List.map_drop]
                exact (HRR.out.below bw5).insert ((HO2.out.below b25).mono HBW.out.size) _
              case measure => simp [intOf]; omega
      · have : j = bs.length := by omega
        subst this
        have HE := Lib.hid (show rootN (srtF [] (cs.take bs.length)) = r by rw [← HCL.out, List.take_length]; exact HR.out.symm)
        have HSB := Lib.hid (show ∀ q ∈ srtF [] (cs.take bs.length), q.length ≤ 1000 ∧ ∀ l ∈ q, l < 1000 from fun q hq => by
          rcases mem_srtF hq with h | h
          · simp at h
          · obtain ⟨x, hx, hxq⟩ := mapO_all HM.out q (List.mem_of_mem_take h)
            have h1 := canO_len hxq
            have h2 := HLE.out.2 x hx
            exact ⟨by omega, fun l hl => by have := canO_lt hxq l hl; omega⟩)
        generalize hss : srtF [] (cs.take bs.length) = ss at HRR HSL HE HSB
        have HBT := Lib.hid (show ∀ j, brLen (ss.take j) ≤ 1000 from fun j => by
          have h1 := congrArg brLen (List.take_append_drop j ss)
          have h2 := HRL.out
          rw [← HE.out, rootN, List.length_cons, bumps_len] at h2
          rw [brLen_append] at h1
          omega)
        have OL2 := Lib.hid (show OwnInts (wr.alloc (.cells #[.int .i64 0] tI)) wr.heap.size tI (.slice (some ⟨wr.heap.size, 0, none⟩) 1 1) [0] from ⟨own_lit wr tI [.int .i64 0] (by simp [maxLen]), fun z hz => by simp at hz; subst hz; unfold In64; omega⟩)
        clear hss
        go_wp2_with fail
        obtain ⟨w3, rfl⟩ : ∃ w3 : World, w3 = wr := ⟨_, rfl⟩
        go_loopw [9, 10, 11] (fun o i s11 wq => ∃ j : Nat, j ≤ bs.length ∧ i = .int .i64 j ∧ OwnInts wq w3.heap.size tI o (up (0 :: bumps (ss.take j))) ∧ Below w3.heap.size w3 wq) (fun _ i _ _ => bs.length - (intOf i).toNat)
        case atStart => exact ⟨0, Nat.zero_le _, rfl, by simpa [up, bumps] using OL2.out, below1 _ _⟩
        case round =>
          obtain ⟨j, hj, rfl, ho, hb⟩ := hrel
          clear OL2
          have HOI := Lib.hid ho
          have HBQ := Lib.hid hb
          clear ho hb
          by_cases hlt : j < bs.length
          · have hu' : vs[j]? = some (vs[j]'(by rw [HVL.out]; exact hlt)) := List.getElem?_eq_getElem _
            have hq : ss[j]? = some (ss[j]'(by rw [HSL.out]; exact hlt)) := List.getElem?_eq_getElem _
            have hi := HRR.out.2 j _ _ hu' (by rw [List.getElem?_map, hq]; rfl)
            obtain ⟨ad', n', c', he, hc'⟩ := HO.out.cells.at_ hu'
            simp only [Value.slice.injEq] at he
            obtain ⟨rfl, -, -⟩ := he
            obtain ⟨Aq, cq, heq, l1, l2, hcq⟩ := hi.ints.open_
            have HQB := Lib.hid (HSB.out _ (List.mem_of_getElem? hq))
            have HSN := Lib.hid (show ss.take (j + 1) = ss.take j ++ [ss[j]'(by rw [HSL.out]; exact hlt)] by rw [List.take_add_one, hq]; rfl)
            rw [heq] at hc'
            generalize ss[j]'(by rw [HSL.out]; exact hlt) = q at HQB HSN hc' hcq l1
            rw [up_len] at hc' hcq l1
            have HCU := Lib.hid (show ∀ W : World, Below w3.heap.size w3 W → W.cell? (ad'.add j) = some (.slice Aq q.length cq) from fun W hW => by rw [hW.cell (by rw [block_add]; have := World.block_lt_of_cell? w3 _ hc'; rwa [block_add] at this)]; exact hc')
            have HCQ := Lib.hid hcq
            have hji : (j : Int) < (bs.length : Int) := by omega
            clear hu' hq hi hc' heq hcq
            go_wp2_with fail
            obtain ⟨wo, rfl⟩ : ∃ wo : World, wo = wr := ⟨_, rfl⟩
            go_loopw [9, 11] (fun o i wi => ∃ k : Nat, k ≤ q.length ∧ i = .int .i64 k ∧ OwnInts wi w3.heap.size tI o (up (0 :: bumps (ss.take j) ++ bump (q.take k))) ∧ Below w3.heap.size w3 wi) (fun _ i _ => q.length - (intOf i).toNat)
            case atStart => exact ⟨0, Nat.zero_le _, rfl, by simpa [bump] using HOI.out, HBQ.out⟩
            case round =>
              obtain ⟨k, hk, rfl, ho, hb⟩ := hrel
              clear HOI HBQ
              have HOI := Lib.hid ho
              have HBQ := Lib.hid hb
              have hcu := HCU.out _ hb
              clear ho hb
              by_cases hlt2 : k < q.length
              · obtain ⟨aq, z, rfl, hz, -, hcz0⟩ := HCQ.out k hlt2
                obtain ⟨l, hlk, hzl⟩ := up_getD hz
                have hcz : wr.cell? (aq.add k) = some (.int .i64 z) := by
                  rw [HBQ.out.cell (by rw [block_add]; have := World.block_lt_of_cell? w3 _ hcz0; rwa [block_add] at this)]; exact hcz0
                have hl1 := HQB.out.2 l (List.mem_of_getElem? hlk)
                have hwz : IntKind.i64.wrap (z + 1) = z + 1 := IntWalk.i64_in _ (by omega)
                have hz64 : In64 (z + 1) := by unfold In64; omega
                have HTK := Lib.hid (show bump (q.take (k + 1)) = bump (q.take k) ++ [l + 1] by rw [List.take_add_one, hlk, bump_append]; rfl)
                have HZL := Lib.hid hzl
                have HLN := Lib.hid (show (up (0 :: bumps (ss.take j) ++ bump (q.take k))).length ≤ 1000000 by
                  have h1 := HBT.out j
                  have h2 := HQB.out.1
                  rw [up_len, List.length_append, List.length_cons, bumps_len, bump_len, List.length_take]
                  omega)
                have hki : (k : Int) < (q.length : Int) := by omega
                clear hz hlk hcz0 hzl hl1
                go_wp2_with (at_builtin; refine wpList_app1 T_int HOI.out.1 (by rw [ints_len]; have := HLN.out; omega) HBQ.out.size (by rfl) rfl (by rfl) (by rfl) (by rfl) ?_; intro v1 w5 hown1 hgr1; have HN := Lib.hid hown1; have HB5 := Lib.hid (hgr1.below HBQ.out HBQ.out.size HOI.out.1.ge); clear hown1 hgr1)
                go_roundw
                case rel =>
                  refine ⟨k + 1, by omega, by go_num, ?_, HB5.out⟩
                  have e : up (0 :: bumps (ss.take j) ++ bump (q.take (k + 1))) = up (0 :: bumps (ss.take j) ++ bump (q.take k)) ++ [z + 1] := by
                    rw [HTK.out, ← List.append_assoc, up_append, HZL.out]; rfl
                  rw [e]
                  exact ⟨by simpa [ints] using HN.out, fun y hy => by rcases List.mem_append.1 hy with hy | hy; exact HOI.out.2 y hy; simp at hy; subst hy; exact hz64⟩
                case measure => simp [intOf]; omega
              · have : k = q.length := by omega
                subst this
                have e : up (0 :: bumps (ss.take j) ++ bump (q.take q.length)) = up (0 :: bumps (ss.take (j + 1))) := by
                  rw [List.take_length, HSN.out, bumps_append]; simp [bumps]
                have HOI2 := Lib.hid (e ▸ HOI.out)
                clear HOI e
                go_wp2_with fail
                go_roundw
                case rel => exact ⟨j + 1, by omega, by go_num, HOI2.out, HBQ.out⟩
                case measure => simp [intOf]; omega
          · have : j = bs.length := by omega
            subst this
            go_wp2_with fail
            go_ret
            have hfin := HOI.out
            rw [← HSL.out, List.take_length] at hfin
            have hr : up (0 :: bumps ss) = up r := by rw [← HE.out]; rfl
            rw [hr] at hfin
            have b13 := HBW.out.trans (HBQ.out.mono HBW.out.size)
            exact ⟨_, rfl, hfin.mono (Nat.le_trans HB1.out.size HBW.out.size), HB1.out.trans (b13.mono HB1.out.size)⟩
end Go.Proofs.Ytbjeibcombjfgaa

set_option maxRecDepth 100000
set_option linter.unusedVariables false
set_option linter.unusedSimpArgs false
namespace Go.Proofs.Ytbjeibcombjfgaa
open Go.RowKit

set_option maxHeartbeats 4000000 in
theorem i_rootOn (w : World) (v : Value) (ss : List (List Nat)) (ha : Rows w v (ss.map up)) (hsb : ∀ q ∈ ss, q.length ≤ 1000 ∧ ∀ l ∈ q, l < 1000000) (hbt : brLen ss ≤ 1000) (hn : ss.length ≤ 1000) :
    Calls Try.prog 162 #[v] w fun e w' => ∃ x, e = .returned x ∧ OwnInts w' w.heap.size tI x (up (rootN ss)) ∧ Below w.heap.size w w' := by
  obtain ⟨A, c, rfl, l1, l2, h3⟩ := ha.open_
  rw [List.length_map] at h3 l1 ⊢
  have H3 := Lib.hid h3
  have HSB := Lib.hid hsb
  have HBT := Lib.hid (show ∀ j, brLen (ss.take j) ≤ 1000 from fun j => by
    have h1 := congrArg brLen (List.take_append_drop j ss)
    rw [brLen_append] at h1
    omega)
  have OL2 := Lib.hid (show OwnInts (w.alloc (.cells #[.int .i64 0] tI)) w.heap.size tI (.slice (some ⟨w.heap.size, 0, none⟩) 1 1) [0] from ⟨own_lit w tI [.int .i64 0] (by simp [maxLen]), fun z hz => by simp at hz; subst hz; unfold In64; omega⟩)
  clear ha h3 hsb hbt
  go_enter Try.func162, Try.ntmps162
  go_wp2_with fail
  go_loopw [3, 11] (fun o i wq => ∃ j : Nat, j ≤ ss.length ∧ i = .int .i64 j ∧ OwnInts wq w.heap.size tI o (up (0 :: bumps (ss.take j))) ∧ Below w.heap.size w wq) (fun _ i _ => ss.length - (intOf i).toNat)
  case atStart => exact ⟨0, Nat.zero_le _, rfl, by simpa [up, bumps] using OL2.out, below1 _ _⟩
  case round =>
    obtain ⟨j, hj, rfl, ho, hb⟩ := hrel
    clear OL2
    have HOI := Lib.hid ho
    have HBQ := Lib.hid hb
    clear ho hb
    by_cases hlt : j < ss.length
    · obtain ⟨ad', u, zs, rfl, hz, hu, hc'⟩ := H3.out j hlt
      have hq : ss[j]? = some (ss[j]'hlt) := List.getElem?_eq_getElem _
      have hzq : zs = up (ss[j]'hlt) := by rw [List.getElem?_map, hq] at hz; injection hz with hz; exact hz.symm
      subst hzq
      obtain ⟨Aq, cq, heq, l1, l2, hcq⟩ := hu.open_
      have HQB := Lib.hid (HSB.out _ (List.mem_of_getElem? hq))
      have HSN := Lib.hid (show ss.take (j + 1) = ss.take j ++ [ss[j]'hlt] by rw [List.take_add_one, hq]; rfl)
      rw [heq] at hc'
      generalize ss[j]'hlt = q at HQB HSN hc' hcq l1
      rw [up_len] at hc' hcq l1
      have hcu : wr.cell? (ad'.add j) = some (.slice Aq q.length cq) := by rw [HBQ.out.cell (by rw [block_add]; have := World.block_lt_of_cell? w _ hc'; rwa [block_add] at this)]; exact hc'
      have HCQ := Lib.hid hcq
      have hji : (j : Int) < (ss.length : Int) := by omega
      clear hz hq hu hc' heq hcq
      go_wp2_with fail
      clear hcu
      obtain ⟨wo, rfl⟩ : ∃ wo : World, wo = wr := ⟨_, rfl⟩
      go_loopw [3, 17] (fun o i wi => ∃ k : Nat, k ≤ q.length ∧ i = .int .i64 k ∧ OwnInts wi w.heap.size tI o (up (0 :: bumps (ss.take j) ++ bump (q.take k))) ∧ Below w.heap.size w wi) (fun _ i _ => q.length - (intOf i).toNat)
      case atStart => exact ⟨0, Nat.zero_le _, rfl, by simpa [bump] using HOI.out, HBQ.out⟩
      case round =>
        obtain ⟨k, hk, rfl, ho, hb⟩ := hrel
        clear HOI HBQ
        have HOI := Lib.hid ho
        have HBQ := Lib.hid hb
        clear ho hb
        by_cases hlt2 : k < q.length
        · obtain ⟨aq, z, rfl, hz, -, hcz0⟩ := HCQ.out k hlt2
          obtain ⟨l, hlk, hzl⟩ := up_getD hz
          have hcz : wr.cell? (aq.add k) = some (.int .i64 z) := by
            rw [HBQ.out.cell (by rw [block_add]; have := World.block_lt_of_cell? w _ hcz0; rwa [block_add] at this)]; exact hcz0
          have hl1 := HQB.out.2 l (List.mem_of_getElem? hlk)
          have hwz : IntKind.i64.wrap (z + 1) = z + 1 := IntWalk.i64_in _ (by omega)
          have hz64 : In64 (z + 1) := by unfold In64; omega
          have HTK := Lib.hid (show bump (q.take (k + 1)) = bump (q.take k) ++ [l + 1] by rw [List.take_add_one, hlk, bump_append]; rfl)
          have HZL := Lib.hid hzl
          have HLN := Lib.hid (show (up (0 :: bumps (ss.take j) ++ bump (q.take k))).length ≤ 1000000 by
            have h1 := HBT.out j
            have h2 := HQB.out.1
            rw [up_len, List.length_append, List.length_cons, bumps_len, bump_len, List.length_take]
            omega)
          have hki : (k : Int) < (q.length : Int) := by omega
          clear hz hlk hcz0 hzl hl1
          go_wp2_with (at_builtin; refine wpList_app1 T_int HOI.out.1 (by rw [ints_len]; have := HLN.out; omega) HBQ.out.size (by rfl) rfl (by rfl) (by rfl) (by rfl) ?_; intro v1 w5 hown1 hgr1; have HN := Lib.hid hown1; have HB5 := Lib.hid (hgr1.below HBQ.out HBQ.out.size HOI.out.1.ge); clear hown1 hgr1)
          go_roundw
          case rel =>
            refine ⟨k + 1, by omega, by go_num, ?_, HB5.out⟩
            have e : up (0 :: bumps (ss.take j) ++ bump (q.take (k + 1))) = up (0 :: bumps (ss.take j) ++ bump (q.take k)) ++ [z + 1] := by
              rw [HTK.out, ← List.append_assoc, up_append, HZL.out]; rfl
            rw [e]
            exact ⟨by simpa [ints] using HN.out, fun y hy => by rcases List.mem_append.1 hy with hy | hy; exact HOI.out.2 y hy; simp at hy; subst hy; exact hz64⟩
          case measure => simp [intOf]; omega
        · have : k = q.length := by omega
          subst this
          have e : up (0 :: bumps (ss.take j) ++ bump (q.take q.length)) = up (0 :: bumps (ss.take (j + 1))) := by
            rw [List.take_length, HSN.out, bumps_append]; simp [bumps]
          have HOI2 := Lib.hid (e ▸ HOI.out)
          clear HOI e
          go_wp2_with fail
          go_roundw
          case rel => exact ⟨j + 1, by omega, by go_num, HOI2.out, HBQ.out⟩
          case measure => simp [intOf]; omega
    · have : j = ss.length := by omega
      subst this
      go_wp2_with fail
      go_ret
      have hfin := HOI.out
      rw [List.take_length] at hfin
      exact ⟨_, rfl, hfin, HBQ.out⟩
end Go.Proofs.Ytbjeibcombjfgaa

set_option maxRecDepth 100000
set_option linter.unusedVariables false
set_option linter.unusedSimpArgs false
namespace Go.Proofs.Ytbjeibcombjfgaa
open Go.RowKit

def stepOk (p x : Int) : Bool := inR x 1 (wrap64 (p + 1))
def lvlAt (zs : List Int) (k : Nat) : Bool := decide (k = 0) || stepOk (zs.getD (k - 1) 0) (zs.getD k 0)
def chainZ (zs : List Int) : Bool := (List.range zs.length).all (lvlAt zs)
/-- a list of levels, of any length -/
def lvlB (zs : List Int) : Bool := decide (0 < zs.length) && (decide (zs.getD 0 0 = 0) && chainZ zs)
/-- a list of levels with at most eight nodes -/
def isT (zs : List Int) : Bool := decide (zs.length ≤ 8) && lvlB zs
theorem lvlAt_succ {zs : List Int} {k : Nat} {p x : Int} (hp : zs[k]? = some p) (hx : zs[k + 1]? = some x) : lvlAt zs (k + 1) = stepOk p x := by
  unfold lvlAt
  simp [List.getD, hp, hx]
theorem chainZ_no {zs : List Int} {k : Nat} (hk : k < zs.length) (h : lvlAt zs k = false) : chainZ zs = false := by
  unfold chainZ
  rw [List.all_eq_false]
  exact ⟨k, by simpa using hk, by simp [h]⟩
theorem chainZ_yes {zs : List Int} (h : ∀ k, k < zs.length → lvlAt zs k = true) : chainZ zs = true := by
  unfold chainZ
  rw [List.all_eq_true]
  intro k hk
  exact h k (by simpa using hk)

set_option maxHeartbeats 4000000 in
theorem i_isLevelList (w : World) (v : Value) (zs : List Int) (ha : Ints w v zs) :
    Calls Try.prog 144 #[v] w fun e w' => e = .returned (.bool (lvlB zs)) ∧ w = w' := by
  obtain ⟨A, c, rfl, l1, l2, h3⟩ := ha.open_
  have H3 := Lib.hid h3
  clear ha h3
  go_enter Try.func144, Try.ntmps144
  go_wp2_with fail
  go_loopw [7] (fun i wr => ∃ j : Nat, j ≤ zs.length ∧ i = .int .i64 j ∧ Hid (∀ k, k < j → lvlAt zs k = true) ∧ Hid (0 < j → zs.getD 0 0 = 0) ∧ w = wr) (fun i _ => zs.length - (intOf i).toNat)
  case atStart => exact ⟨0, Nat.zero_le _, rfl, fun k h => by omega, fun h => by omega, rfl⟩
  case round =>
    obtain ⟨j, hj, rfl, HK, HZ, rfl⟩ := hrel
    by_cases hlt : j < zs.length
    · obtain ⟨ad, z, rfl, hz, hz64, hc⟩ := H3.out j hlt
      have hji : (j : Int) < (zs.length : Int) := by omega
      cases j with
      | zero =>
        have hc0 : w.cell? ad = some (.int .i64 z) := hc
        have hcast : ((0 : Nat) : Int) = 0 := rfl
        rw [hcast]
        clear hc hcast
        by_cases h0 : z = 0
        · subst h0
          have HG := Lib.hid (show zs.getD 0 0 = 0 by simp [List.getD, hz])
          clear hz hz64
          go_wp2_with fail
          go_roundw
          case rel => exact ⟨1, by omega, by go_num, fun k h => (by have : k = 0 := (by omega)
                                                                    subst this
                                                                    rfl), (by intro _; exact HG.out), by first | rfl | trivial⟩
          case measure => simp [intOf]; omega
        · have HR := Lib.hid (show lvlB zs = false by unfold lvlB; simp [List.getD, hz, h0])
          have hb : (z != 0) = true := by simp [h0]
          clear hz hz64 h0
          go_wp2_with fail
          go_ret
          exact ⟨ret_bool HR.out.symm, rfl⟩
      | succ m =>
        obtain ⟨ad', z0, hae, hz0, hz064, hc0⟩ := H3.out m (by omega)
        injection hae with hae
        subst hae
        have HL := Lib.hid (lvlAt_succ hz0 hz)
        have hw2 : IntKind.i64.wrap ((m : Int) + 1 - 1) = (m : Int) := by rw [IntWalk.i64_in _ (by omega)]; omega
        have hmi : (m : Int) < (zs.length : Int) := by omega
        have hc' : w.cell? ⟨ad.block, ad.off + (m + 1), none⟩ = some (.int .i64 z) := by simpa [Addr.add] using hc
        have hcast : ((m + 1 : Nat) : Int) = (m : Int) + 1 := by omega
        have hji2 : (m : Int) + 1 < (zs.length : Int) := by omega
        have hj0 : 0 ≤ (m : Int) + 1 := by omega
        rw [hcast]
        clear hz hz0 hz64 hz064 hc hcast hji
        cases hs : stepOk z0 z with
        | true =>
          have HS := Lib.hid hs
          clear hs
          have hin : inR z 1 (wrap64 (z0 + 1)) = true := HS.out
          go_wp2_with (go_at_call 62; refine (i_inRange _ _ _ _).mono ?_; (rintro e w' ⟨rfl, rfl⟩; rw [hin]))
          go_roundw
          case rel => exact ⟨m + 1 + 1, by omega, by go_num, fun k h => (by
            by_cases hk : k < m + 1
            · exact HK.out k hk
            · have : k = m + 1 := (by omega)
              subst this
              rw [HL.out]
              exact HS.out), fun _ => HZ.out (by omega), by first | rfl | trivial⟩
          case measure => simp [intOf]; omega
        | false =>
          have HR := Lib.hid (show lvlB zs = false by unfold lvlB; rw [chainZ_no hlt (by rw [HL.out]; exact hs)]; simp)
          have hin : inR z 1 (wrap64 (z0 + 1)) = false := hs
          clear hs
          go_wp2_with (go_at_call 62; refine (i_inRange _ _ _ _).mono ?_; (rintro e w' ⟨rfl, rfl⟩; rw [hin]))
          go_ret
          exact ⟨ret_bool HR.out.symm, rfl⟩
    · have : j = zs.length := by omega
      subst this
      by_cases hp : 0 < zs.length
      · have HR := Lib.hid (show lvlB zs = true by have e := HZ.out hp; unfold lvlB; rw [chainZ_yes HK.out, e]; simp [hp])
        have hp' : (0 : Int) < (zs.length : Int) := by omega
        go_wp2_with fail
        go_ret
        exact ⟨ret_bool (by rw [HR.out] <;> simp <;> omega), rfl⟩
      · have h0 : zs = [] := List.eq_nil_of_length_eq_zero (by omega)
        subst h0
        go_wp2_with fail
        go_ret
        exact ⟨ret_bool (by simp [lvlB]), by first | rfl | trivial⟩

theorem i_IsLevels (w : World) (v : Value) (zs : List Int) (ha : Ints w v zs) :
    Calls Try.prog 89 #[v] w fun e w' => e = .returned (.bool (isT zs)) ∧ w = w' := by
  have HA := Lib.hid ha
  obtain ⟨A, c, rfl, l1, l2, -⟩ := ha.open_
  clear ha
  go_enter Try.func89, Try.ntmps89
  by_cases h8 : zs.length ≤ 8
  · have HR := Lib.hid (show isT zs = lvlB zs by unfold isT; simp [h8])
    have h8' : (zs.length : Int) ≤ 8 := by omega
    go_wp2_with (go_at_call 144; refine (i_isLevelList _ _ zs HA.out).mono ?_; rintro e w' ⟨rfl, rfl⟩)
    all_goals (go_ret; exact ⟨ret_bool (by first | (rw [HR.out]; done) | (rw [HR.out]; simp_all)), rfl⟩)
  · have HR := Lib.hid (show isT zs = false by unfold isT; simp [h8])
    have h8' : ¬ (zs.length : Int) ≤ 8 := by omega
    go_wp2_with fail
    go_ret
    exact ⟨ret_bool (by rw [HR.out]), rfl⟩

end Go.Proofs.Ytbjeibcombjfgaa

set_option maxRecDepth 100000
set_option linter.unusedVariables false
set_option linter.unusedSimpArgs false
namespace Go.Proofs.Ytbjeibcombjfgaa
open Go.RowKit

set_option maxHeartbeats 1500000 in
theorem s_l03Is (w : World) (v : Value) (zs : List Int) (ha : Ints w v zs) :
    Calls Try.prog 111 #[v] w fun e w' => e = .returned (.bool (isT zs)) ∧ ∃ n, w' = w.drewN n := by
  obtain ⟨A, c, rfl, l1, l2, h3⟩ := ha.open_
  have H3 := Lib.hid h3
  clear ha h3
  go_enter Try.func111, Try.ntmps111
  go_wp2_with fail
  go_loopw [3] (fun i wr => ∃ (m n : Nat), m ≤ zs.length ∧ i = .int .i64 ((m : Int) + 1) ∧ Hid (∀ k, k < m + 1 → lvlAt zs k = true) ∧ wr = w.drewN n) (fun i _ => zs.length + 1 - (intOf i).toNat)
  case atStart => exact ⟨0, 0, Nat.zero_le _, rfl, fun k h => (by have : k = 0 := (by omega)
                                                                  subst this
                                                                  rfl), rfl⟩
  case round =>
    obtain ⟨m, n, hm, rfl, HK, rfl⟩ := hrel
    by_cases hlt : m + 1 < zs.length
    · obtain ⟨ad, z, rfl, hz, hz64, hc⟩ := H3.out (m + 1) hlt
      obtain ⟨ad', z0, hae, hz0, hz064, hc0⟩ := H3.out m (by omega)
      injection hae with hae
      subst hae
      have HL := Lib.hid (lvlAt_succ hz0 hz)
      have hw2 : IntKind.i64.wrap ((m : Int) + 1 - 1) = (m : Int) := by rw [IntWalk.i64_in _ (by omega)]; omega
      have hmi : (m : Int) < (zs.length : Int) := by omega
      have hji : (m : Int) + 1 < (zs.length : Int) := by omega
      have hj0 : 0 ≤ (m : Int) + 1 := by omega
      have hc' : w.cell? ⟨ad.block, ad.off + (m + 1), none⟩ = some (.int .i64 z) := by simpa [Addr.add] using hc
      clear hz hz0 hz64 hz064 hc
      have HIN := fun W => s_l01In z 1 (wrap64 (z0 + 1)) W
      cases hs : stepOk z0 z with
      | true =>
        have HS := Lib.hid hs
        clear hs
        rw [show inR z 1 (wrap64 (z0 + 1)) = true from HS.out] at HIN
        go_wp2_with fail
        go_quiet ((go_at_call 68; first | exact quiet_same0 (HIN _) | exact quiet_same (HIN _)))
        go_wp2_with fail
        go_roundw
        case rel => exact ⟨m + 1, _, by omega, by go_num, fun k h => (by
          by_cases hk : k < m + 1
          · exact HK.out k hk
          · have : k = m + 1 := (by omega)
            subst this
            rw [HL.out]
            exact HS.out), rfl⟩
        case measure => simp [intOf]; omega
      | false =>
        have HR := Lib.hid (show isT zs = false by unfold isT lvlB; rw [chainZ_no hlt (by rw [HL.out]; exact hs)]; simp)
        rw [show inR z 1 (wrap64 (z0 + 1)) = false from hs] at HIN
        clear hs
        go_wp2_with fail
        go_quiet ((go_at_call 68; first | exact quiet_same0 (HIN _) | exact quiet_same (HIN _)))
        go_wp2_with fail
        go_ret
        exact ⟨ret_bool HR.out.symm, _, World.drewN_drewN _ _ _⟩
    · have HC := Lib.hid (chainZ_yes fun k hk => HK.out k (by omega))
      have hji : ¬ (m : Int) + 1 < (zs.length : Int) := by omega
      by_cases hp : 0 < zs.length
      · obtain ⟨ad, z, rfl, hz, hz64, hc⟩ := H3.out 0 hp
        have hc' : w.cell? ad = some (.int .i64 z) := hc
        have hp' : (0 : Int) < (zs.length : Int) := by omega
        have HE := Lib.hid (show isT zs = (decide (zs.length ≤ 8) && decide (z = 0)) by have e : zs.getD 0 0 = z := (by simp [List.getD, hz]); unfold isT lvlB; rw [HC.out, e]; simp [hp])
        clear hz hz64 hc
        by_cases h8 : zs.length ≤ 8
        · have h8' : (zs.length : Int) ≤ 8 := by omega
          go_wp2_with fail
          go_ret
          refine ⟨ret_bool ?_, _, rfl⟩
          rw [HE.out]
          by_cases h0 : z = 0 <;> simp [h8, h0]
        · have h8' : ¬ (zs.length : Int) ≤ 8 := by omega
          go_wp2_with fail
          go_ret
          exact ⟨ret_bool (by rw [HE.out]; simp [h8]), _, rfl⟩
      · have h0 : zs = [] := List.eq_nil_of_length_eq_zero (by omega)
        subst h0
        go_wp2_with fail
        go_ret
        exact ⟨ret_bool (by simp [isT, lvlB]), _, rfl⟩
end Go.Proofs.Ytbjeibcombjfgaa

