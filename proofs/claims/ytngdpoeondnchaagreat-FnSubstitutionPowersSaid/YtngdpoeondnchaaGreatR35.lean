/- Walks: lists of numbers that are drawn: l01List of the reference, list5 of the laws. | Walks: maps that are drawn by the reference for substitutions. | Walks: maps that are drawn by the reference for substitutions: l16Draw and the draws of the laws. -/
import Derived.Test.YtngdpoeondnchaaGreatR34
set_option maxRecDepth 100000
set_option linter.unusedVariables false
set_option linter.unusedSimpArgs false
namespace Go.Proofs.YtngdpoeondnchaaGreat
open Go.RowKit

set_option maxHeartbeats 4000000 in
theorem s_l01List (w : World) (B p N : Nat) (h : Src w B tSc p) (hN : N ≤ 1000) :
    Calls Tryz.prog 156 #[at0 p, .int .i64 (N : Nat)] w fun e w' => ∃ x, e = .returned x ∧ ∃ zs, OwnInts w' w.heap.size tI x zs ∧ zs.length = N ∧ Nums zs ∧ w.grownBy w' (some p) ∧ Src w' B tSc p := by
  have HS := Lib.hid h
  have hpl := h.lt
  have OL := Lib.hid (show Own (w.alloc (.cells #[] tI)) w.heap.size tI (.slice (some ⟨w.heap.size, 0, none⟩) 0 0) (ints []) from own_lit w tI [] (by simp [maxLen]))
  have HS1 := Lib.hid (h.below (below1 w (.cells #[] tI)))
  have HG1 := Lib.hid (show w.grownBy (w.alloc (.cells #[] tI)) (some p) from gof (below1 w _))
  have HF := Lib.hid (show Nums [] from fun z hz => by simp at hz)
  clear h
  go_enter Tryz.func156, Tryz.ntmps156
  go_wp2_with fail
  go_loopw [5, 1] (fun o x wr => ∃ (zs : List Int) (m : Nat), Hid (zs.length + m = N) ∧ x = .int .i64 m ∧ m ≤ 1000 ∧ zs.length ≤ 1000 ∧ Own wr w.heap.size tI o (ints zs) ∧ Hid (Nums zs) ∧ w.grownBy wr (some p) ∧ Src wr B tSc p) (fun _ x _ => (intOf x).toNat)
  case atStart => exact ⟨[], N, by show 0 + N = N; omega, rfl, hN, by simp, OL.out, HF.out, HG1.out, HS1.out⟩
  case round =>
    obtain ⟨zs, m, HM, rfl, hm, hz2, ho, HZ, hg, hs⟩ := hrel
    rename World => wq
    clear OL HS1 HG1 HF
    have HO := Lib.hid ho
    have HG := Lib.hid hg
    have HS := Lib.hid hs
    obtain ⟨Ao, co, heo, -, -⟩ := ho.cells.open_
    rw [ints_len] at heo
    subst heo
    have hwq := hg.size
    clear ho hg hs
    by_cases hlt : 0 < m
    · have hll : (0 : Int) < (m : Int) := by omega
      have hmd : decide (0 < m) = true := decide_eq_true hlt
      go_wp2_with (first
        | (go_at_call 128; go_loud (refine (s_l01Number _ B p HS.out).mono ?_; rintro e w5 ⟨x5, rfl, hx, hg5, hs5⟩; have HO5 := Lib.hid (HO.out.src hpl hg5); have HG5 := Lib.hid (gtrans HG.out hg5); have HS5 := Lib.hid hs5; have HX5 := Lib.hid hx; clear hg5 hs5 hx))
        | (at_builtin; go_loud (refine wpList_app1 T_int HO5.out (by rw [ints_len]; omega) HG5.out.size (by rfl) rfl (by rfl) (by rfl) (by rfl) ?_; intro v7 w7 hown7 hgr7; have HN7 := Lib.hid hown7; have HR7 := Lib.hid hgr7; clear hown7 hgr7)))
      have HGA := Lib.hid (gthen HG5.out HR7.out.1 HO5.out.ge)
      have hne : (Value.slice Ao zs.length co).ownBlock ≠ some p := fun e => by have := HO5.out.ge _ e; omega
      have HSA := Lib.hid (HS5.out.kept HR7.out.1 hne (fun b hb => Nat.le_trans (Nat.le_trans HS5.out.ge (Nat.le_of_lt hpl)) (HO5.out.ge b hb)))
      clear hne
      go_roundw
      case rel =>
        have hm0 := HM.out
        refine ⟨zs ++ [x5], m - 1, by show (zs ++ [x5]).length + (m - 1) = N; rw [List.length_append, List.length_singleton]; omega, ?_, by omega, by rw [List.length_append, List.length_singleton]; omega, by simpa [ints] using HN7.out, fun z hz => ?_, HGA.out, HSA.out⟩
        · rw [show ((m - 1 : Nat) : Int) = (m : Int) - 1 by omega]
        rcases List.mem_append.1 hz with h | h
        · exact HZ.out z h
        · have := HX5.out; simp at h; omega
      case measure => simp [intOf]; omega
    · have hm0 : m = 0 := by omega
      subst hm0
      have HNL := Lib.hid (show zs.length = N from HM.out)
      go_wp2_with fail
      go_ret
      exact ⟨_, rfl, zs, ⟨HO.out, fun z hz => by have := HZ.out z hz; unfold In64; omega⟩, HNL.out, HZ.out, HG.out, HS.out⟩
/-! ### the laws' lists -/
set_option maxHeartbeats 1000000 in
theorem l_mod5 (w : World) (x : Int) (h0 : -1000000 ≤ x) (h1 : x ≤ 1000000) :
    Calls Tryz.prog 132 #[.int .i64 x] w fun e w' => ∃ z, e = .returned (.int .i64 z) ∧ (0 ≤ z ∧ z ≤ 10006) ∧ w = w' := by
  have h2 : -10007 < x.tmod 10007 := by rw [Int.tmod_eq_emod]; split <;> omega
  have h3 : x.tmod 10007 < 10007 := by rw [Int.tmod_eq_emod]; split <;> omega
  have HT := Lib.hid (tmod_num x)
  go_enter Tryz.func132, Tryz.ntmps132
  go_wp2
  go_ret
  exact ⟨_, rfl, by have := HT.out; omega, rfl⟩
set_option maxHeartbeats 4000000 in
theorem l_number5 (w : World) (B p : Nat) (h : Src w B tDc p) :
    Calls Tryz.prog 92 #[at0 p] w fun e w' => ∃ z, e = .returned (.int .i64 z) ∧ (0 ≤ z ∧ z ≤ 10006) ∧ w.grownBy w' (some p) ∧ Src w' B tDc p := by
  have HN := Lib.hid (l_below w B p 2 h (by omega) (by omega))
  clear h
  go_enter Tryz.func92, Tryz.ntmps92
  have hw := fun y (h : 0 ≤ y ∧ y < 9) => wrap_i64 (y - 4) (by omega)
  go_wp2_with (first
    | (go_at_call 50; (with_reducible refine HN.out.mono ?_); go_loud (rintro e w1 ⟨x, rfl, x0, x1, hg, hs⟩; have HG := Lib.hid hg; have HS := Lib.hid hs; clear hg hs x0 x1))
    | (go_at_call 50; (with_reducible refine (l_below w1 B p 10007 HS.out (by omega) (by omega)).mono ?_); go_loud (rintro e w2 ⟨y, rfl, y0, y1, hg, hs⟩; have HG2 := Lib.hid (gtrans HG.out hg); have HS2 := Lib.hid hs; have HY := Lib.hid (show 0 ≤ y ∧ y ≤ 10006 by omega); clear hg hs y0 y1))
    | (go_at_call 50; (with_reducible refine (l_below w1 B p 9 HS.out (by omega) (by omega)).mono ?_); go_loud (rintro e w2 ⟨y, rfl, y0, y1, hg, hs⟩; have HG2 := Lib.hid (gtrans HG.out hg); have HS2 := Lib.hid hs; have hwy := hw y ⟨y0, y1⟩; clear hg hs))
    | (go_at_call 132; go_loud (refine (l_mod5 _ _ (by omega) (by omega)).mono ?_; rintro e w4 ⟨z, rfl, hz, rfl⟩; have HZ := Lib.hid hz; clear hz)))
  · go_ret
    exact ⟨_, rfl, HY.out, HG2.out, HS2.out⟩
  · go_ret
    exact ⟨_, rfl, HZ.out, HG2.out, HS2.out⟩
set_option maxHeartbeats 4000000 in
theorem l_list5 (w : World) (B p N : Nat) (h : Src w B tDc p) (hN : N ≤ 1000) :
    Calls Tryz.prog 43 #[at0 p, .int .i64 (N : Nat)] w fun e w' => ∃ x, e = .returned x ∧ ∃ zs, OwnInts w' w.heap.size tI x zs ∧ zs.length = N ∧ Nums zs ∧ w.grownBy w' (some p) ∧ Src w' B tDc p := by
  have HS := Lib.hid h
  have hpl := h.lt
  have OL := Lib.hid (show Own (w.alloc (.cells #[] tI)) w.heap.size tI (.slice (some ⟨w.heap.size, 0, none⟩) 0 0) (ints []) from own_lit w tI [] (by simp [maxLen]))
  have HS1 := Lib.hid (h.below (below1 w (.cells #[] tI)))
  have HG1 := Lib.hid (show w.grownBy (w.alloc (.cells #[] tI)) (some p) from gof (below1 w _))
  have HF := Lib.hid (show Nums [] from fun z hz => by simp at hz)
  clear h
  go_enter Tryz.func43, Tryz.ntmps43
  go_wp2_with fail
  go_loopw [5, 1] (fun o x wr => ∃ (zs : List Int) (m : Nat), Hid (zs.length + m = N) ∧ x = .int .i64 m ∧ m ≤ 1000 ∧ zs.length ≤ 1000 ∧ Own wr w.heap.size tI o (ints zs) ∧ Hid (Nums zs) ∧ w.grownBy wr (some p) ∧ Src wr B tDc p) (fun _ x _ => (intOf x).toNat)
  case atStart => exact ⟨[], N, by show 0 + N = N; omega, rfl, hN, by simp, OL.out, HF.out, HG1.out, HS1.out⟩
  case round =>
    obtain ⟨zs, m, HM, rfl, hm, hz2, ho, HZ, hg, hs⟩ := hrel
    rename World => wq
    clear OL HS1 HG1 HF
    have HO := Lib.hid ho
    have HG := Lib.hid hg
    have HS := Lib.hid hs
    obtain ⟨Ao, co, heo, -, -⟩ := ho.cells.open_
    rw [ints_len] at heo
    subst heo
    have hwq := hg.size
    clear ho hg hs
    by_cases hlt : 0 < m
    · have hll : (0 : Int) < (m : Int) := by omega
      have hmd : decide (0 < m) = true := decide_eq_true hlt
      go_wp2_with (first
        | (go_at_call 92; go_loud (refine (l_number5 _ B p HS.out).mono ?_; rintro e w5 ⟨x5, rfl, hx, hg5, hs5⟩; have HO5 := Lib.hid (HO.out.src hpl hg5); have HG5 := Lib.hid (gtrans HG.out hg5); have HS5 := Lib.hid hs5; have HX5 := Lib.hid hx; clear hg5 hs5 hx))
        | (at_builtin; go_loud (refine wpList_app1 T_int HO5.out (by rw [ints_len]; omega) HG5.out.size (by rfl) rfl (by rfl) (by rfl) (by rfl) ?_; intro v7 w7 hown7 hgr7; have HN7 := Lib.hid hown7; have HR7 := Lib.hid hgr7; clear hown7 hgr7)))
      have HGA := Lib.hid (gthen HG5.out HR7.out.1 HO5.out.ge)
      have hne : (Value.slice Ao zs.length co).ownBlock ≠ some p := fun e => by have := HO5.out.ge _ e; omega
      have HSA := Lib.hid (HS5.out.kept HR7.out.1 hne (fun b hb => Nat.le_trans (Nat.le_trans HS5.out.ge (Nat.le_of_lt hpl)) (HO5.out.ge b hb)))
      clear hne
      go_roundw
      case rel =>
        have hm0 := HM.out
        refine ⟨zs ++ [x5], m - 1, by show (zs ++ [x5]).length + (m - 1) = N; rw [List.length_append, List.length_singleton]; omega, ?_, by omega, by rw [List.length_append, List.length_singleton]; omega, by simpa [ints] using HN7.out, fun z hz => ?_, HGA.out, HSA.out⟩
        · rw [show ((m - 1 : Nat) : Int) = (m : Int) - 1 by omega]
        rcases List.mem_append.1 hz with h | h
        · exact HZ.out z h
        · have := HX5.out; simp at h; omega
      case measure => simp [intOf]; omega
    · have hm0 : m = 0 := by omega
      subst hm0
      have HNL := Lib.hid (show zs.length = N from HM.out)
      go_wp2_with fail
      go_ret
      exact ⟨_, rfl, zs, ⟨HO.out, fun z hz => by have := HZ.out z hz; unfold In64; omega⟩, HNL.out, HZ.out, HG.out, HS.out⟩
end Go.Proofs.YtngdpoeondnchaaGreat

set_option maxRecDepth 100000
set_option linter.unusedVariables false
set_option linter.unusedSimpArgs false
namespace Go.Proofs.YtngdpoeondnchaaGreat
open Go.RowKit

theorem sl1 (W : World) (g cap : Nat) (h : 38 ≤ cap) :
    (Instr.slice 27 (.slice (some ⟨g, 0, none⟩) 38 cap) (some (.int .i64 1)) none none).run Tryz.prog W = .ok (.slice (some ⟨g, 1, none⟩) 37 (cap - 1)) W := by
  rw [sl_from Tryz.underlying27 sizeI W (some ⟨g, 0, none⟩) 38 cap 1 1 rfl (by omega)]
  have : sliced (some ⟨g, 0, none⟩) 1 38 cap 1 = .slice (some ⟨g, 1, none⟩) 37 (cap - 1) := by
    unfold sliced
    split
    · next h1 => omega
    · rfl
  rw [this]
theorem in64_n {z : Int} (h : 0 ≤ z ∧ z ≤ 10006) : In64 z := by unfold In64; omega
theorem addr_addD (g n : Nat) : (⟨g, 0, none⟩ : Addr).add n = ⟨g, n, none⟩ := by by_cases h0 : n = 0 <;> simp [Addr.add, h0]
theorem ints_setD (zs : List Int) (k : Nat) (z : Int) : (ints zs).set k (.int .i64 z) = ints (zs.set k z) := by simp [ints, List.map_set]
theorem OwnInts.setAt {w : World} {C g cap k : Nat} {us : List Int} {n : Nat} (h : OwnInts w C tI (.slice (some ⟨g, 0, none⟩) n cap) us) (hk : k < us.length) {z : Int} (hz : In64 z) :
    (∃ u0, w.cell? ⟨g, k, none⟩ = some u0) ∧ w.frozen? ⟨g, k, none⟩ = false ∧ OwnInts (w.setCell ⟨g, k, none⟩ (.int .i64 z)) C tI (.slice (some ⟨g, 0, none⟩) n cap) (us.set k z) ∧ w.grownBy (w.setCell ⟨g, k, none⟩ (.int .i64 z)) (some g) := by
  obtain ⟨u0, hu0, hcg, hfg, hg2, hg1, hown', hgr⟩ := h.1.storeAt (k := k) (by rw [ints_len]; exact hk) (.int .i64 z)
  refine ⟨⟨u0, hcg⟩, hfg, ⟨by rw [ints_setD] at hown'; exact hown', fun y hy => ?_⟩, hgr⟩
  rcases List.mem_or_eq_of_mem_set hy with h1 | rfl
  · exact h.2 y h1
  · exact hz
set_option maxHeartbeats 4000000 in
theorem s_l14DrawMap (w : World) (B p : Nat) (f : Int) (h : Src w B tSc p) (hf : In64 f) :
    Calls Tryz.prog 129 #[at0 p, .int .i64 f] w fun e w' => ∃ g cap d, e = .returned (.slice (some ⟨g, d, none⟩) (38 - d) (cap - d)) ∧ ∃ us, d ≤ 1 ∧ 38 ≤ cap ∧ OwnInts w' w.heap.size tI (.slice (some ⟨g, 0, none⟩) 38 cap) us ∧ us.length = 38 ∧ w.grownBy w' (some p) ∧ Src w' B tSc p := by
  have hpl := h.lt
  have HL := Lib.hid (s_l01List w B p 38 h (by omega))
  have HF := Lib.hid hf
  clear h hf
  go_enter Tryz.func129, Tryz.ntmps129
  go_upto_region 2 with (go_at_call 156; go_loud (refine HL.out.mono ?_; rintro e w1 ⟨x1, rfl, zs, ho1, lz, nz, hg1, hs1⟩; rcases ho1.1.cases with ⟨-, he⟩ | ⟨g, cap, cur, he, hga, hgb, -⟩; (· have h1 := congrArg List.length he; rw [ints_len, lz] at h1; cases h1); rw [ints_len, lz] at he; subst he; have HO1 := Lib.hid ho1; have HLZ := Lib.hid lz; have HG1 := Lib.hid hg1; have HS1 := Lib.hid hs1; clear ho1 lz nz hg1 hs1))
  have hcap : 38 ≤ cap := by
    obtain ⟨A', c', e, h5, -⟩ := HO1.out.1.cells.open_
    rw [ints_len, HLZ.out] at e h5
    simp only [Value.slice.injEq] at e
    omega
  have hgw : w.heap.size ≤ g := HO1.out.1.ge g rfl
  have hgp : g ≠ p := by omega
  obtain ⟨⟨u0, hu0⟩, hfr, ho2, hg2⟩ := HO1.out.setAt (k := 0) (z := f) (by rw [HLZ.out]; omega) HF.out
  have HO2 := Lib.hid ho2
  have HG2 := Lib.hid (gthen HG1.out hg2 (by rintro b ⟨⟩; exact hgw))
  have HS2 := Lib.hid (HS1.out.kept hg2 (by intro e; injection e with e; exact hgp e) (by rintro b ⟨⟩; have := HS1.out.ge; omega))
  have HL2 := Lib.hid (show (zs.set 0 f).length = 38 by rw [List.length_set]; exact HLZ.out)
  clear ho2 hg2
  go_upto_region 3 with fail
  generalize w1.setCell ⟨g, 0, none⟩ (.int .i64 f) = w2 at HO2 HG2 HS2 ⊢
  generalize zs.set 0 f = us at HO2 HL2
  clear hu0 hfr HO1 HG1 HS1 HLZ
  have HN := Lib.hid (s_l01Next w2 B p 30 HS2.out (by omega) (by omega))
  go_upto_region 4 with (go_at_call 127; go_loud (refine HN.out.mono ?_; rintro e w3 ⟨x, rfl, x0, x1, hg, hs⟩; have HG3 := Lib.hid (gtrans HG2.out hg); have HS3 := Lib.hid hs; have HO3 := Lib.hid (show OwnInts w3 w.heap.size tI (.slice (some ⟨g, 0, none⟩) 38 cap) us from ⟨HO2.out.1.src hpl hg, HO2.out.2⟩); clear hg hs))
  by_cases hx0 : x = 0
  · have hd0 : (x == 0) = true := by simp [hx0]
    have hsl := fun W => sl1 W g cap hcap
    clear hx0 x0 x1
    go_wp2_with fail
    go_ret
    exact ⟨g, cap, 1, rfl, us, by omega, hcap, HO3.out, HL2.out, HG3.out, HS3.out⟩
  · have hd0 : (x == 0) = false := by simp [hx0]
    by_cases hx1 : x = 1
    · have hd1 : (x == 1) = true := by simp [hx1]
      have HN1 := Lib.hid (s_l01Next w3 B p 38 HS3.out (by omega) (by omega))
      clear hx0 hx1 x0 x1
      go_wp2_with (go_at_call 127; go_loud (refine HN1.out.mono ?_; rintro e w4 ⟨y, rfl, y0, y1, hg, hs⟩; obtain ⟨k, rfl⟩ : ∃ k : Nat, y = k := ⟨y.toNat, by omega⟩; have hk38 : k < 38 := (by omega); have HG4 := Lib.hid (gtrans HG3.out hg); have HO4 := Lib.hid (show OwnInts w4 w.heap.size tI (.slice (some ⟨g, 0, none⟩) 38 cap) us from ⟨HO3.out.1.src hpl hg, HO3.out.2⟩); obtain ⟨⟨u0, hu0⟩, hfr, ho5, hg5⟩ := HO4.out.setAt (k := k) (z := 10007) (by rw [HL2.out]; omega) (by unfold In64; omega); have HO5 := Lib.hid ho5; have HG5 := Lib.hid (gthen HG4.out hg5 (by rintro b ⟨⟩; exact hgw)); have HS5 := Lib.hid (hs.kept hg5 (by intro e; injection e with e; exact hgp e) (by rintro b ⟨⟩; have := hs.ge; omega)); clear hg hs ho5 hg5))
      go_ret
      exact ⟨g, cap, 0, rfl, us.set k 10007, by omega, hcap, HO5.out, by rw [List.length_set]; exact HL2.out, HG5.out, HS5.out⟩
    · have hd1 : (x == 1) = false := by simp [hx1]
      clear hx0 hx1 x0 x1
      go_wp2_with fail
      go_ret
      exact ⟨g, cap, 0, rfl, us, by omega, hcap, HO3.out, HL2.out, HG3.out, HS3.out⟩
end Go.Proofs.YtngdpoeondnchaaGreat

set_option maxRecDepth 100000
set_option linter.unusedVariables false
set_option linter.unusedSimpArgs false
namespace Go.Proofs.YtngdpoeondnchaaGreat
open Go.RowKit

/-- a drawn list: 38 numbers of one's own, or 37 of them -/
structure DrM (w : World) (C : Nat) (g d n m : Nat) : Prop where
  ex : ∃ cap us, OwnInts w C tI (.slice (some ⟨g, 0, none⟩) 38 cap) us ∧ us.length = 38 ∧ m + d = cap
  nd : n + d = 38
  dl : d ≤ 1
theorem DrM.src {w w' : World} {C p g d n m : Nat} (h : DrM w C g d n m) (hp : p < C) (hg : w.grownBy w' (some p)) : DrM w' C g d n m := by
  obtain ⟨⟨cap, us, h1, h2, h3⟩, h4, h5⟩ := h
  exact ⟨⟨cap, us, ⟨h1.1.src hp hg, h1.2⟩, h2, h3⟩, h4, h5⟩
theorem DrM.mono {w : World} {C C' g d n m : Nat} (h : DrM w C g d n m) (hC : C' ≤ C) : DrM w C' g d n m := by
  obtain ⟨⟨cap, us, h1, h2, h3⟩, h4, h5⟩ := h
  exact ⟨⟨cap, us, h1.mono hC, h2, h3⟩, h4, h5⟩
theorem DrM.ge {w : World} {C g d n m : Nat} (h : DrM w C g d n m) : C ≤ g := by
  obtain ⟨⟨cap, us, h1, h2, h3⟩, h4, h5⟩ := h
  exact h1.1.ge g rfl
theorem DrM.set_ {w : World} {C g d n m k : Nat} (h : DrM w C g d n m) (hk : k < n) {z : Int} (hz : In64 z) :
    (∃ u0, w.cell? ⟨g, d + k, none⟩ = some u0) ∧ w.frozen? ⟨g, d + k, none⟩ = false ∧ DrM (w.setCell ⟨g, d + k, none⟩ (.int .i64 z)) C g d n m ∧ w.grownBy (w.setCell ⟨g, d + k, none⟩ (.int .i64 z)) (some g) := by
  obtain ⟨⟨cap, us, h1, h2, h3⟩, h4, h5⟩ := h
  obtain ⟨hu, hf, ho, hg⟩ := h1.setAt (k := d + k) (by omega) hz
  exact ⟨hu, hf, ⟨⟨cap, _, ho, by rw [List.length_set]; exact h2, h3⟩, h4, h5⟩, hg⟩
theorem DrM.readable {w : World} {C g d n m : Nat} (h : DrM w C g d n m) : ∃ zs, Ints w (.slice (some ⟨g, d, none⟩) n m) zs := by
  obtain ⟨⟨cap, us, h1, h2, h3⟩, h4, h5⟩ := h
  obtain ⟨⟨A', c', he, hl, hm, hcell⟩, hin⟩ := h1.ints
  rw [ints_len] at he hl
  simp only [Value.slice.injEq] at he
  obtain ⟨rfl, -, rfl⟩ := he
  refine ⟨us.drop d, ⟨some ⟨g, d, none⟩, m, ?_, ?_, ?_, fun k u hk => ⟨_, rfl, ?_⟩⟩, fun z hz => hin z (List.mem_of_mem_drop hz)⟩
  · rw [ints_len, List.length_drop, h2, show 38 - d = n by omega]
  · rw [ints_len, List.length_drop]; omega
  · omega
  · have e : (ints us)[d + k]? = some u := by
      rw [← hk, ints, ints, List.map_drop, List.getElem?_drop]
    obtain ⟨ad, e1, e2⟩ := hcell (d + k) u e
    injection e1 with e1
    subst e1
    have e3 : (⟨g, d, none⟩ : Addr).add k = (⟨g, 0, none⟩ : Addr).add (d + k) := by
      rw [addr_addD]
      unfold Addr.add
      split <;> simp_all
    rw [e3]
    exact e2
theorem s_l14DrawMap' (w : World) (B p : Nat) (f : Int) (h : Src w B tSc p) (hf : In64 f) :
    Calls Tryz.prog 129 #[at0 p, .int .i64 f] w fun e w' => ∃ g d n m, e = .returned (.slice (some ⟨g, d, none⟩) n m) ∧ DrM w' w.heap.size g d n m ∧ w.grownBy w' (some p) ∧ Src w' B tSc p :=
  (s_l14DrawMap w B p f h hf).mono fun e w' hh => by
    obtain ⟨g, cap, d, rfl, us, hd, hc, ho, hl, hg, hs⟩ := hh
    exact ⟨g, d, 38 - d, cap - d, rfl, ⟨⟨cap, us, ho, hl, by omega⟩, by omega, hd⟩, hg, hs⟩
set_option maxHeartbeats 8000000 in
theorem s_l16Draw (w : World) (B p : Nat) (f : Int) (h : Src w B tSc p) (hf : In64 f) :
    Calls Tryz.prog 88 #[at0 p, .int .i64 f] w fun e w' => ∃ g d n m, e = .returned (.slice (some ⟨g, d, none⟩) n m) ∧ DrM w' w.heap.size g d n m ∧ w.grownBy w' (some p) ∧ Src w' B tSc p := by
  have hpl := h.lt
  have HBp := Lib.hid h.ge
  have HN := Lib.hid (s_l01Next w B p 12 h (by omega) (by omega))
  have HF := Lib.hid hf
  clear h hf
  go_enter Tryz.func88, Tryz.ntmps88
  go_upto_if 9 with (go_at_call 127; go_loud (refine HN.out.mono ?_; rintro e w1 ⟨x, rfl, x0, x1, hg, hs⟩; have HG := Lib.hid hg; have HS := Lib.hid hs; clear hg hs x0 x1))
  go_cut [1] (fun v wx => ∃ z, v = .int .i64 z ∧ In64 z ∧ w.grownBy wx (some p) ∧ Src wx B tSc p)
  case first =>
    go_wp2_with (go_at_call 128; go_loud (refine (s_l01Number _ B p HS.out).mono ?_; rintro e w2 ⟨y, rfl, hy, hg, hs⟩; have HG2 := Lib.hid (gtrans HG.out hg); have HS2 := Lib.hid hs; have HY := Lib.hid hy; clear hg hs hy))
    · go_meet
      exact ⟨_, rfl, in64_n HY.out, HG2.out, HS2.out⟩
    · go_meet
      exact ⟨_, rfl, HF.out, HG.out, HS.out⟩
  case rest =>
    obtain ⟨z, rfl, hz, hg, hs⟩ := hcut
    have HD := Lib.hid (s_l14DrawMap' wc B p z hs hz)
    obtain ⟨C, hC⟩ : ∃ C, C = wc.heap.size := ⟨_, rfl⟩
    rw [← hC] at HD
    have hpc : p < C := by rw [hC]; exact Nat.lt_of_lt_of_le hpl hg.size
    have HWC := Lib.hid (show w.heap.size ≤ C from by rw [hC]; exact hg.size)
    have HGC := Lib.hid hg
    clear hz hs hg hC
    go_upto_region 4 with (go_at_call 129; go_loud (refine HD.out.mono ?_; rintro e w2 ⟨g, d, n, m, rfl, hd2, hg2, hs2⟩; have HDM := Lib.hid hd2; have HG2 := Lib.hid (gtrans HGC.out hg2); have HS2 := Lib.hid hs2; clear hd2 hg2 hs2))
    have hgw : C ≤ g := HDM.out.ge
    have hgp : g ≠ p := by omega
    have hn37 : 37 ≤ n ∧ n ≤ 38 := by have h1 := HDM.out.nd; have h2 := HDM.out.dl; omega
    obtain ⟨hn1, hn2⟩ := hn37
    have hn3 : (2 : Int) < (n : Int) := by omega
    have HGB := Lib.hid (show B ≤ g from by have := HBp.out; omega)
    have HWG := Lib.hid (show w.heap.size ≤ g from Nat.le_trans HWC.out hgw)
    go_upto_if 22 with (go_at_call 127; go_loud (refine (s_l01Next _ B p 3 HS2.out (by omega) (by omega)).mono ?_; rintro e w3 ⟨x, rfl, x0, x1, hg, hs⟩; have HG3 := Lib.hid (gtrans HG2.out hg); have HS3 := Lib.hid hs; have HD3 := Lib.hid (HDM.out.src hpc hg); clear hg hs x0 x1))
    go_cut [5] (fun v wx => v = .slice (some ⟨g, d, none⟩) n m ∧ DrM wx C g d n m ∧ w.grownBy wx (some p) ∧ Src wx B tSc p)
    case first =>
      have hpl3 : p < w3.heap.size := Nat.lt_of_lt_of_le hpl HG3.out.size
      have HL := Lib.hid (lit_keep w3 p [1, 0, 2] (by intro z hz; simp at hz; unfold In64; omega) (by simp) hpl3)
      have HSL := Lib.hid (HS3.out.below (below1 w3 (.cells (ints [1, 0, 2]).toArray tI)))
      have HPK := Lib.hid (s_l01Pick _ B p _ [1, 0, 2] HSL.out HL.out (by simp) (by simp))
      have HDL := Lib.hid (show DrM (w3.alloc (.cells (ints [1, 0, 2]).toArray tI)) C g d n m from by
        obtain ⟨⟨cap, us, h1, h2, h3⟩, h4, h5⟩ := HD3.out
        exact ⟨⟨cap, us, h1.below (below1 w3 _), h2, h3⟩, h4, h5⟩)
      go_wp2_with (go_at_call 89; go_loud (refine HPK.out.mono ?_; rintro e w4 ⟨y, rfl, hy, hg, hs⟩; have HY := Lib.hid (show In64 y from by simp at hy; unfold In64; omega); have HG4 := Lib.hid (gtrans (gtrans HG3.out (gof (below1 w3 _))) hg); have HS4 := Lib.hid hs; have HD4 := Lib.hid (HDL.out.src hpc hg); obtain ⟨⟨u0, hu0⟩, hfr, ho5, hg5⟩ := HD4.out.set_ (k := 1) (by omega) HY.out; have HD5 := Lib.hid ho5; have HG5 := Lib.hid (gthen HG4.out hg5 (by rintro b ⟨⟩; exact HWG.out)); have HS5 := Lib.hid (HS4.out.kept hg5 (by intro e; injection e with e; exact hgp e) (by rintro b ⟨⟩; exact HGB.out)); clear hg hs hy ho5 hg5))
      · go_meet
        exact ⟨rfl, HD5.out, HG5.out, HS5.out⟩
      · go_meet
        exact ⟨rfl, HD3.out, HG3.out, HS3.out⟩
    case rest =>
      clear HG3 HS3 HD3 HG2 HS2 HDM HGC HD HN HF HG HS
      obtain ⟨rfl, hd, hg, hs⟩ := hcut
      have HDM := Lib.hid hd
      have HG2 := Lib.hid hg
      have HS2 := Lib.hid hs
      clear hd hg hs
      go_upto_if 30 with (go_at_call 127; go_loud (refine (s_l01Next _ B p 3 HS2.out (by omega) (by omega)).mono ?_; rintro e w3 ⟨y, rfl, y0, y1, hg, hs⟩; have HG3 := Lib.hid (gtrans HG2.out hg); have HS3 := Lib.hid hs; have HD3 := Lib.hid (HDM.out.src hpc hg); clear hg hs y0 y1))
      by_cases hy : y = 0
      · have hd0 : (y == 0) = true := by simp [hy]
        rw [hd0]
        clear hy hd0
        go_wp2_with fail
        go_loopw [6] (fun i wr => ∃ k : Nat, 2 ≤ k ∧ k ≤ n ∧ i = .int .i64 k ∧ DrM wr C g d n m ∧ w.grownBy wr (some p) ∧ Src wr B tSc p) (fun i _ => n - (intOf i).toNat)
        case atStart => exact ⟨2, by omega, by omega, rfl, HD3.out, HG3.out, HS3.out⟩
        case round =>
          obtain ⟨k, hk2, hkn, rfl, hd, hg, hs⟩ := hrel
          rename World => wq
          clear HDM HG2 HS2 HG3 HS3 HD3
          have HDM := Lib.hid hd
          have HG2 := Lib.hid hg
          have HS2 := Lib.hid hs
          clear hd hg hs
          by_cases hlt : k < n
          · have hll : (k : Int) < (n : Int) := by omega
            have hkw : wrap64 ((k : Int) + 1) = (k : Int) + 1 := w64_dr _ (by omega)
            go_wp2_with (go_at_call 127; go_loud (refine (s_l01Next _ B p 4 HS2.out (by omega) (by omega)).mono ?_; rintro e w3 ⟨y, rfl, y0, y1, hg, hs⟩; have HG3 := Lib.hid (gtrans HG2.out hg); have HS3 := Lib.hid hs; have HD3 := Lib.hid (HDM.out.src hpc hg); obtain ⟨⟨u0, hu0⟩, hfr, ho5, hg5⟩ := HD3.out.set_ (k := k) hlt (z := 0) (by unfold In64; omega); have HD5 := Lib.hid ho5; have HG5 := Lib.hid (gthen HG3.out hg5 (by rintro b ⟨⟩; exact HWG.out)); have HS5 := Lib.hid (HS3.out.kept hg5 (by intro e; injection e with e; exact hgp e) (by rintro b ⟨⟩; exact HGB.out)); clear hg hs ho5 hg5 y0 y1))
            · go_roundw
              case rel => exact ⟨k + 1, by omega, by omega, by go_num, HD5.out, HG5.out, HS5.out⟩
              case measure => simp [intOf]; omega
            · go_roundw
              case rel => exact ⟨k + 1, by omega, by omega, by go_num, HD3.out, HG3.out, HS3.out⟩
              case measure => simp [intOf]; omega
          · have hkl : k = n := by omega
            subst hkl
            go_wp2_with fail
            go_ret
            exact ⟨g, d, k, m, rfl, HDM.out.mono HWC.out, HG2.out, HS2.out⟩
      · have hd0 : (y == 0) = false := by simp [hy]
        clear hy
        go_wp2_with fail
        go_ret
        exact ⟨g, d, n, m, rfl, HD3.out.mono HWC.out, HG3.out, HS3.out⟩
set_option maxHeartbeats 4000000 in
theorem s_DrawSubstituteMap (w : World) (A : Option Addr) (N c : Nat) (hb : ByB w w.heap.size A N) (hN : N ≤ 4096) :
    Calls Tryz.prog 40 #[.slice A N c] w fun e w' => ∃ x y, e = .returned (.tuple #[x, y]) ∧ ∃ zs ys, Ints w' x zs ∧ Ints w' y ys ∧ Below w.heap.size w w' := by
  have HFR := Lib.hid (s_l01From w A N c hb hN)
  clear hb
  go_enter Tryz.func40, Tryz.ntmps40
  go_upto_region 3 with (first
    | (go_at_call 87; go_loud (refine HFR.out.mono ?_; rintro e w1 ⟨p, rfl, hs1, hb1⟩; have HS1 := Lib.hid hs1; have HB1 := Lib.hid hb1; have hpl := hs1.lt; have hpg := hs1.ge; clear hs1 hb1))
    | (go_at_call 88; go_loud (refine (s_l16Draw w1 _ p 0 HS1.out (by unfold In64; omega)).mono ?_; rintro e w2 ⟨g, d, n, m, rfl, hd2, hg2, hs2⟩; have HD2 := Lib.hid hd2; have HG2 := Lib.hid hg2; have HS2 := Lib.hid hs2; clear hd2 hg2 hs2)))
  have hpl2 : p < w2.heap.size := Nat.lt_of_lt_of_le hpl HG2.out.size
  have HL := Lib.hid (lit_keep w2 p [0, 1] (by intro z hz; simp at hz; unfold In64; omega) (by simp) hpl2)
  have HSL := Lib.hid (HS2.out.below (below1 w2 (.cells (ints [0, 1]).toArray tI)))
  have HPK := Lib.hid (s_l01Pick _ _ p _ [0, 1] HSL.out HL.out (by simp) (by simp))
  have HDL := Lib.hid (show DrM (w2.alloc (.cells (ints [0, 1]).toArray tI)) w1.heap.size g d n m from by
    obtain ⟨⟨cap, us, h1, h2, h3⟩, h4, h5⟩ := HD2.out
    exact ⟨⟨cap, us, h1.below (below1 w2 _), h2, h3⟩, h4, h5⟩)
  have hpl3 : p < (w2.alloc (.cells (ints [0, 1]).toArray tI)).heap.size := HSL.out.lt
  go_wp2_with (first
    | (go_at_call 89; go_loud (refine HPK.out.mono ?_; rintro e w4 ⟨y, rfl, hy, hg, hs⟩; have HY := Lib.hid (show In64 y from by simp at hy; unfold In64; omega); have HG4 := Lib.hid (gtrans (gtrans HG2.out (gof (below1 w2 _))) hg); have HS4 := Lib.hid hs; have HD4 := Lib.hid (HDL.out.src hpl hg); clear hg hs hy))
    | (go_at_call 88; go_loud (refine (s_l16Draw w4 _ p y HS4.out HY.out).mono ?_; rintro e w5 ⟨g5, d5, n5, m5, rfl, hd5, hg5, hs5⟩; have HD5 := Lib.hid hd5; have HG5 := Lib.hid (gtrans HG4.out hg5); have HD54 := Lib.hid (HD4.out.src hpl hg5); clear hd5 hg5 hs5)))
  go_ret2
  obtain ⟨zs, hz⟩ := HD54.out.readable
  obtain ⟨ys, hy⟩ := HD5.out.readable
  exact ⟨_, _, rfl, zs, ys, hz, hy, HB1.out.grown HG5.out HB1.out.size (fun k e => by injection e with e; omega)⟩
set_option maxHeartbeats 4000000 in
theorem s_DrawSubstitutionPower (w : World) (A : Option Addr) (N c : Nat) (hb : ByB w w.heap.size A N) (hN : N ≤ 4096) :
    Calls Tryz.prog 47 #[.slice A N c] w fun e w' => ∃ x k, e = .returned (.tuple #[x, .int .i64 k]) ∧ In64 k ∧ ∃ zs, Ints w' x zs ∧ Below w.heap.size w w' := by
  have HFR := Lib.hid (s_l01From w A N c hb hN)
  clear hb
  go_enter Tryz.func47, Tryz.ntmps47
  go_wp2_with (first
    | (go_at_call 87; go_loud (refine HFR.out.mono ?_; rintro e w1 ⟨p, rfl, hs1, hb1⟩; have HS1 := Lib.hid hs1; have HB1 := Lib.hid hb1; have hpl := hs1.lt; have hpg := hs1.ge; clear hs1 hb1))
    | (go_at_call 88; go_loud (refine (s_l16Draw w1 _ p 0 HS1.out (by unfold In64; omega)).mono ?_; rintro e w2 ⟨g, d, n, m, rfl, hd2, hg2, hs2⟩; have HD2 := Lib.hid hd2; have HG2 := Lib.hid hg2; have HS2 := Lib.hid hs2; clear hd2 hg2 hs2))
    | (go_at_call 89; go_loud (refine (s_l01Pick _ _ p _ [0, 1, 2, 3, -1, -2, 20, 21, -21] (HS2.out.below (below1 w2 (.cells (ints [0, 1, 2, 3, -1, -2, 20, 21, -21]).toArray tI))) (lit_keep w2 p [0, 1, 2, 3, -1, -2, 20, 21, -21] (by intro z hz; simp at hz; unfold In64; omega) (by simp) (Nat.lt_of_lt_of_le hpl HG2.out.size)) (by simp) (by simp)).mono ?_; rintro e w4 ⟨y, rfl, hy, hg, hs⟩; have HY := Lib.hid (show In64 y from by simp at hy; unfold In64; omega); have HG4 := Lib.hid (gtrans (gtrans HG2.out (gof (below1 w2 _))) hg); have HD4 := Lib.hid ((show DrM (w2.alloc (.cells (ints [0, 1, 2, 3, -1, -2, 20, 21, -21]).toArray tI)) w1.heap.size g d n m from by obtain ⟨⟨cap, us, h1, h2, h3⟩, h4, h5⟩ := HD2.out; exact ⟨⟨cap, us, h1.below (below1 w2 _), h2, h3⟩, h4, h5⟩).src hpl hg); clear hg hs hy)))
  go_ret2
  obtain ⟨zs, hz⟩ := HD4.out.readable
  exact ⟨_, _, rfl, HY.out, zs, hz, HB1.out.grown HG4.out HB1.out.size (fun k e => by injection e with e; omega)⟩
end Go.Proofs.YtngdpoeondnchaaGreat

