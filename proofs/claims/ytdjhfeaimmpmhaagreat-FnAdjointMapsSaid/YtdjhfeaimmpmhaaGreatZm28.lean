/- Walks: l03Root, l03Branches, a copy of a list of lists, l03Times of the reference. -/
import Derived.Test.YtdjhfeaimmpmhaaGreatZm26
import Derived.Test.YtdjhfeaimmpmhaaGreatZm19
set_option maxRecDepth 100000
set_option linter.unusedVariables false
set_option linter.unusedSimpArgs false
namespace Go.Proofs.YtdjhfeaimmpmhaaGreat
open Go.RowKit

set_option maxHeartbeats 4000000 in
theorem s_l03Root (w : World) (v : Value) (ss : List (List Nat)) (r : List Nat) (ha : Rows w v (ss.map up)) (hsb : ∀ q ∈ ss, q.length ≤ 1000 ∧ ∀ l ∈ q, l < 1000000) (hbt : brLen ss ≤ 1000) (hn : ss.length ≤ 1000)
    (hr : canO 9 (rootN ss) = some r) (hr1 : (rootN ss).length ≤ 1000) (hr2 : ∀ l ∈ rootN ss, l ≤ 1000000) :
    Calls Tryz.prog 222 #[v] w fun e w' => ∃ x, e = .returned x ∧ OwnInts w' w.heap.size tI x (up r) ∧ Below w.heap.size w w' := by
  obtain ⟨A, c, rfl, l1, l2, h3⟩ := ha.open_
  rw [List.length_map] at h3 l1 ⊢
  have H3 := Lib.hid h3
  have HSB := Lib.hid hsb
  have HR := Lib.hid hr
  have HR1 := Lib.hid hr1
  have HR2 := Lib.hid hr2
  have HBT := Lib.hid (show ∀ j, brLen (ss.take j) ≤ 1000 from fun j => by
    have h1 := congrArg brLen (List.take_append_drop j ss)
    rw [brLen_append] at h1
    omega)
  have OL2 := Lib.hid (show OwnInts (w.alloc (.cells #[.int .i64 0] tI)) w.heap.size tI (.slice (some ⟨w.heap.size, 0, none⟩) 1 1) [0] from ⟨own_lit w tI [.int .i64 0] (by simp [maxLen]), fun z hz => by simp at hz; subst hz; unfold In64; omega⟩)
  clear ha h3 hsb hbt hr hr1 hr2
  go_enter Tryz.func222, Tryz.ntmps222
  go_wp2_with fail
  go_loopw [3, 4] (fun o i wq => ∃ j : Nat, j ≤ ss.length ∧ i = .int .i64 j ∧ OwnInts wq w.heap.size tI o (up (0 :: bumps (ss.take j))) ∧ Below w.heap.size w wq) (fun _ i _ => ss.length - (intOf i).toNat)
  case atStart => exact ⟨0, Nat.zero_le _, rfl, by simpa [up, bumps] using OL2.out, below1 _ _⟩
  case round =>
    obtain ⟨j, hj, rfl, ho, hb⟩ := hrel
    clear OL2
    have HOI := Lib.hid ho
    have HBQ := Lib.hid hb
    clear ho hb
    by_cases hlt : j < ss.length
    · obtain ⟨ad', u, zs, rfl, hz, hu, hc'⟩ := H3.out j hlt
      have hq : ss[j]? = some (ss[j]'hlt) := List.getElem?_eq_getElem _
      have hzq : zs = up (ss[j]'hlt) := by rw [List.getElem?_map, hq] at hz; injection hz with hz; exact hz.symm
      subst hzq
      obtain ⟨Aq, cq, heq, l1, l2, hcq⟩ := hu.open_
      have HQB := Lib.hid (HSB.out _ (List.mem_of_getElem? hq))
      have HSN := Lib.hid (show ss.take (j + 1) = ss.take j ++ [ss[j]'hlt] by rw [List.take_add_one, hq]; rfl)
      rw [heq] at hc'
      generalize ss[j]'hlt = q at HQB HSN hc' hcq l1
      rw [up_len] at hc' hcq l1
      have HCU := Lib.hid hc'
      have hcu : wr.cell? (ad'.add j) = some (.slice Aq q.length cq) := keepCell HBQ.out hc'
      have HCQ := Lib.hid hcq
      have hji : (j : Int) < (ss.length : Int) := by omega
      clear hz hq hu hc' heq hcq
      go_wp2_with fail
      clear hcu
      obtain ⟨wo, rfl⟩ : ∃ wo : World, wo = wr := ⟨_, rfl⟩
      go_loopw [3, 5] (fun o i wi => ∃ k : Nat, k ≤ q.length ∧ i = .int .i64 k ∧ OwnInts wi w.heap.size tI o (up (0 :: bumps (ss.take j) ++ bump (q.take k))) ∧ Below w.heap.size w wi) (fun _ i _ => q.length - (intOf i).toNat)
      case atStart => exact ⟨0, Nat.zero_le _, rfl, by simpa [bump] using HOI.out, HBQ.out⟩
      case round =>
        obtain ⟨k, hk, rfl, ho, hb⟩ := hrel
        clear HOI HBQ
        have HOI := Lib.hid ho
        have HBQ := Lib.hid hb
        have hcu : wr.cell? (ad'.add j) = some (.slice Aq q.length cq) := keepCell hb HCU.out
        clear ho hb
        by_cases hlt2 : k < q.length
        · obtain ⟨aq, z, rfl, hz, -, hcz0⟩ := HCQ.out k hlt2
          obtain ⟨l, hlk, hzl⟩ := up_getD hz
          have hcz : wr.cell? (aq.add k) = some (.int .i64 z) := keepCell HBQ.out hcz0
          have hl1 := HQB.out.2 l (List.mem_of_getElem? hlk)
          have hwz : IntKind.i64.wrap (z + 1) = z + 1 := IntWalk.i64_in _ (by omega)
          have hz64 : In64 (z + 1) := by unfold In64; omega
          have HTK := Lib.hid (show bump (q.take (k + 1)) = bump (q.take k) ++ [l + 1] by rw [List.take_add_one, hlk, bump_append]; rfl)
          have HZL := Lib.hid hzl
          have HLN := Lib.hid (show (up (0 :: bumps (ss.take j) ++ bump (q.take k))).length ≤ 1000000 by
            have h1 := HBT.out j
            have h2 := HQB.out.1
            rw [up_len, List.length_append, List.length_cons, bumps_len, bump_len, List.length_take]
            omega)
          have hki : (k : Int) < (q.length : Int) := by omega
          clear hz hlk hcz0 hzl hl1
          go_wp2_with (at_builtin; refine wpList_app1 T_int HOI.out.1 (by rw [ints_len]; have := HLN.out; omega) HBQ.out.size (by rfl) rfl (by rfl) (by rfl) (by rfl) ?_; intro v1 w5 hown1 hgr1; have HN := Lib.hid hown1; have HB5 := Lib.hid (hgr1.below HBQ.out HBQ.out.size HOI.out.1.ge); clear hown1 hgr1)
          go_roundw
          case rel =>
            refine ⟨k + 1, by omega, by go_num, ?_, HB5.out⟩
            have e : up (0 :: bumps (ss.take j) ++ bump (q.take (k + 1))) = up (0 :: bumps (ss.take j) ++ bump (q.take k)) ++ [z + 1] := by
              rw [HTK.out, ← List.append_assoc, up_append, HZL.out]; rfl
            rw [e]
            exact ⟨by simpa [ints] using HN.out, fun y hy => by rcases List.mem_append.1 hy with hy | hy; exact HOI.out.2 y hy; simp at hy; subst hy; exact hz64⟩
          case measure => simp [intOf]; omega
        · have : k = q.length := by omega
          subst this
          have e : up (0 :: bumps (ss.take j) ++ bump (q.take q.length)) = up (0 :: bumps (ss.take (j + 1))) := by
            rw [List.take_length, HSN.out, bumps_append]; simp [bumps]
          have HOI2 := Lib.hid (e ▸ HOI.out)
          clear HOI e
          go_wp2_with fail
          go_roundw
          case rel => exact ⟨j + 1, by omega, by go_num, HOI2.out, HBQ.out⟩
          case measure => simp [intOf]; omega
    · have : j = ss.length := by omega
      subst this
      have hfin := HOI.out
      rw [List.take_length] at hfin
      have HFI := Lib.hid (show Ints wr _ (up (rootN ss)) from hfin.ints)
      go_wp2_with (go_at_call 179; refine (s_l03Canon 9 _ _ (rootN ss) r HFI.out HR.out HR1.out HR2.out).mono ?_; rintro e w5 ⟨x5, rfl, ho5, hb5⟩; have HO5 := Lib.hid ho5; have HB5 := Lib.hid hb5; clear ho5 hb5)
      go_ret
      exact ⟨_, rfl, HO5.out.mono HBQ.out.size, HBQ.out.trans (HB5.out.mono HBQ.out.size)⟩
set_option maxHeartbeats 4000000 in
theorem s_l03Branches (w : World) (v : Value) (t c : List Nat) (ps : List (List Nat)) (ha : Ints w v (up t)) (hc : canO 9 t = some c) (hb : brO c = some ps) (h1 : okT1 t = true) (h2 : okT1 c = true) (h3 : ps.length ≤ 100) (h4 : ∀ p ∈ ps, okT1 p = true) :
    Calls Tryz.prog 220 #[v] w fun e w' => ∃ x, e = .returned x ∧ LA w' w.heap.size x ((srtB ps).map up) ∧ Below w.heap.size w w' := by
  obtain ⟨t1, t2⟩ := okT1_of h1
  obtain ⟨c1, c2⟩ := okT1_of h2
  have HA := Lib.hid ha
  have HC := Lib.hid (fun W (h : Ints W v (up t)) => s_l03Canon 9 W v t c h hc (by omega) (fun l hl => by have := t2 l hl; omega))
  have HP := Lib.hid (fun W v1 (h : Ints W v1 (up c)) => s_l03Parts W v1 c ps h hb (by omega) (fun l hl => by have := c2 l hl; omega))
  have HS := Lib.hid (fun W v1 (h : Rows W v1 (ps.map up)) => s_l03Sort W v1 ps h (by omega) (fun b hb => by have := (okT1_of (h4 b hb)).1; omega))
  clear ha hc hb h1 h2 h3 h4 t1 t2 c1 c2
  go_enter Tryz.func220, Tryz.ntmps220
  go_wp2_with (first
    | (go_at_call 179; go_loud (refine (HC.out _ HA.out).mono ?_; rintro e w1 ⟨x1, rfl, ho1, hb1⟩; have HO1 := Lib.hid ho1; have HB1 := Lib.hid hb1; clear ho1 hb1))
    | (go_at_call 192; go_loud (refine (HP.out _ _ HO1.out.ints).mono ?_; rintro e w2 ⟨x2, rfl, ho2, hb2⟩; have HO2 := Lib.hid ho2; have HB2 := Lib.hid (HB1.out.trans (hb2.mono HB1.out.size)); clear ho2 hb2))
    | (go_at_call 238; go_loud (refine (HS.out _ _ (LL.rows HO2.out)).mono ?_; rintro e w3 ⟨x3, rfl, ho3, hb3⟩; have HO3 := Lib.hid ho3; have HB3 := Lib.hid hb3; clear ho3 hb3)))
  go_ret
  exact ⟨_, rfl, HO3.out.mono HB2.out.size, HB2.out.trans (HB3.out.mono HB2.out.size)⟩
set_option maxHeartbeats 4000000 in
/-- a copy of a list of lists -/
theorem s_l01Own2T (w : World) (v : Value) (f : List (List Nat)) (ha : Rows w v (f.map up)) (hn : f.length ≤ 1000) (hl : ∀ b ∈ f, b.length ≤ 1000) :
    Calls Tryz.prog 188 #[v] w fun e w' => ∃ x, e = .returned x ∧ LL w' w.heap.size x (f.map up) ∧ Below w.heap.size w w' := by
  obtain ⟨A, c, rfl, l1, l2, h3⟩ := rowsAt ha
  have H3 := Lib.hid h3
  have HL := Lib.hid hl
  have OL := Lib.hid (show Own (w.alloc (.cells #[] tL)) w.heap.size tL (.slice (some ⟨w.heap.size, 0, none⟩) 0 0) [] from own_lit w tL [] (by simp [maxLen]))
  clear ha h3 hl
  go_enter Tryz.func188, Tryz.ntmps188
  go_wp2_with fail
  go_loopw [3, 4] (fun o i wr => ∃ (j : Nat) (vs : List Value), j ≤ f.length ∧ i = .int .i64 j ∧ Own wr w.heap.size tL o vs ∧ RR wr w.heap.size vs ((f.take j).map up) ∧ Below w.heap.size w wr) (fun _ i _ => f.length - (intOf i).toNat)
  case atStart => exact ⟨0, [], Nat.zero_le _, rfl, OL.out, RR.nil _ _, below1 _ _⟩
  case round =>
    obtain ⟨j, vs, hj, rfl, ho, hr, hb⟩ := hrel
    clear OL
    have hvl : vs.length ≤ 1000 := by rw [hr.1, List.length_map, List.length_take]; omega
    obtain ⟨Ao, co, rfl, -, -⟩ := ho.cells.open_
    have HO := Lib.hid ho
    have HR := Lib.hid hr
    have HB := Lib.hid hb
    clear ho hr hb
    by_cases hlt : j < f.length
    · obtain ⟨ad, q, A5, c5, rfl, hq, hiq, hcq⟩ := H3.out j hlt
      have hcq := keepCell HB.out hcq
      have HIQ := Lib.hid (hiq.below HB.out)
      have HQL := Lib.hid (HL.out q (List.mem_of_getElem? hq))
      have HSN := Lib.hid (show (f.take (j + 1)).map up = (f.take j).map up ++ [up q] from by rw [List.take_add_one, hq, List.map_append]; rfl)
      have hji : (j : Int) < (f.length : Int) := by omega
      clear hq hiq
      go_wp2_with (first
        | (go_at_call 158; go_loud (refine (s_l01OwnT _ _ (up q) HIQ.out (by rw [up_len]; have := HQL.out; omega)).mono ?_; rintro e w2 ⟨x2, rfl, ho2, hb2⟩; have HO2 := Lib.hid ho2; have HB2 := Lib.hid hb2; obtain ⟨A6, c6, rfl, -, -, -⟩ := ho2.ints.open_; rw [up_len] at HO2; rw [up_len]; have HOX := Lib.hid (HO.out.below hb2); clear ho2 hb2))
        | (at_builtin; go_loud (refine wpList_app1 T_row HOX.out (by omega) (Nat.le_trans HB.out.size HB2.out.size) (by cases A6 <;> rfl) rfl (by rfl) (by rfl) (by rfl) ?_; intro v5 w5 hown5 hgr5; have HN5 := Lib.hid hown5; have HG5 := Lib.hid hgr5; clear hown5 hgr5)))
      go_roundw
      case rel =>
        refine ⟨j + 1, _, by omega, by go_num, HN5.out, ?_, HG5.out.below (HB.out.trans (HB2.out.mono HB.out.size)) (Nat.le_trans HB.out.size HB2.out.size) HO.out.ge⟩
        rw [HSN.out]
        exact ((HR.out.below HB2.out).snoc (HO2.out.mono HB.out.size)).keptT HG5.out.1 HOX.out.bt (by decide)
      case measure => simp [intOf]; omega
    · have hjl : f.take j = f := List.take_of_length_le (by omega)
      rw [hjl] at HR
      clear hjl
      go_wp2_with fail
      go_ret
      exact ⟨_, rfl, ⟨vs, HO.out, HR.out⟩, HB.out⟩
theorem Rows.cells {w : World} {v : Value} {xss : List (List Int)} (h : Rows w v xss) : ∃ us, Cells w v us ∧ us.length = xss.length ∧ (∀ (k : Nat) (u : Value) (x : List Int), us[k]? = some u → xss[k]? = some x → Ints w u x) := h
set_option maxHeartbeats 4000000 in
theorem s_l03Times (w : World) (v v' : Value) (f g : List (List Nat)) (ha : Rows w v (f.map up)) (hb : Rows w v' (g.map up)) (hf : f.length ≤ 400) (hg : g.length ≤ 400) (hfl : ∀ b ∈ f, b.length ≤ 1000) (hgl : ∀ b ∈ g, b.length ≤ 1000) :
    Calls Tryz.prog 260 #[v, v'] w fun e w' => ∃ x, e = .returned x ∧ LA w' w.heap.size x ((srtB (f ++ g)).map up) ∧ Below w.heap.size w w' := by
  have HO := Lib.hid (s_l01Own2T w v f ha (by omega) hfl)
  have HS := Lib.hid (fun W v1 (h : Rows W v1 ((f ++ g).map up)) => s_l03Sort W v1 (f ++ g) h (by rw [List.length_append]; omega) (fun b hb => by rcases List.mem_append.1 hb with h | h; exact hfl b h; exact hgl b h))
  obtain ⟨A, c, rfl, -⟩ := ha.open_
  obtain ⟨us, hu1, hu2, hu3⟩ := hb.cells
  obtain ⟨A2, c2, rfl, -⟩ := hb.open_
  rw [List.length_map] at HO hu1 ⊢
  rw [List.length_map] at ⊢
  have HU := Lib.hid hu1
  have HUL := Lib.hid hu2
  have HUI := Lib.hid hu3
  have HONE := Lib.hid (show ∀ u ∈ us, u.oneCell' = true from fun u hu => by
    obtain ⟨k, hk, rfl⟩ := List.getElem_of_mem hu
    obtain ⟨A7, c7, he, -⟩ := (hu3 k _ _ (List.getElem?_eq_getElem hk) (List.getElem?_eq_getElem (by rw [← hu2]; exact hk))).open_
    rw [he]; cases A7 <;> rfl)
  have hul : us.length ≤ 400 := by rw [hu2, List.length_map]; exact hg
  clear ha hb hfl hgl hu1 hu2 hu3
  go_enter Tryz.func260, Tryz.ntmps260
  go_wp2_with (first
    | (go_at_call 188; go_loud (refine HO.out.mono ?_; rintro e w1 ⟨x1, rfl, ho1, hb1⟩; obtain ⟨vs1, hv1, hr1⟩ := ho1; have HV1 := Lib.hid hv1; have HR1 := Lib.hid hr1; have HB1 := Lib.hid hb1; have hvl : vs1.length ≤ 400 := (by rw [hr1.1, List.length_map]; exact hf); clear hv1 hr1 hb1))
    | (at_builtin; go_loud (refine wpList_appN T_row (us := us) HV1.out (HU.out.below HB1.out) (by omega) HB1.out.size HONE.out rfl (by rfl) (by rfl) (by rfl) ?_; intro v5 w5 hown5 hgr5; have HN5 := Lib.hid hown5; have HG5 := Lib.hid hgr5; have HB5 := Lib.hid (hgr5.below HB1.out HB1.out.size HV1.out.ge); clear hown5 hgr5))
    | (go_at_call 238; go_loud (
        have hrw : Rows w5 v5 ((f ++ g).map up) := (by
          rw [List.map_append]
          have hr5 := HR1.out.keptT HG5.out.1 HV1.out.bt (by decide)
          refine ⟨vs1 ++ us, HN5.out.cells, by rw [List.length_append, List.length_append, HR1.out.1, HUL.out], fun k u x hu hx => ?_⟩
          by_cases hk : k < vs1.length
          · rw [List.getElem?_append_left hk] at hu
            rw [List.getElem?_append_left (by rw [← HR1.out.1]; exact hk)] at hx
            exact (hr5.2 k u x hu hx).ints
          · rw [List.getElem?_append_right (by omega)] at hu
            rw [List.getElem?_append_right (by rw [← HR1.out.1]; omega), ← HR1.out.1] at hx
            exact (HUI.out _ u x hu hx).below HB5.out)
        refine (HS.out _ _ hrw).mono ?_
        rintro e w7 ⟨x7, rfl, ho7, hb7⟩
        have HO7 := Lib.hid ho7
        have HB7 := Lib.hid hb7
        clear ho7 hb7 hrw)))
  go_ret
  exact ⟨_, rfl, HO7.out.mono HB5.out.size, HB5.out.trans (HB7.out.mono HB5.out.size)⟩
end Go.Proofs.YtdjhfeaimmpmhaaGreat

