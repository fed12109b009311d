/- Walks of the library's Grow, Concat at lists of lists of numbers. -/
import Derived.Test.YtdjhfeaimmpmhaaGreatZc9
import Derived.WalkLawsBesides
import Derived.Lib.AppendZeros
set_option maxRecDepth 100000
set_option linter.unusedVariables false
set_option linter.unusedSimpArgs false
namespace Go.Proofs.YtdjhfeaimmpmhaaGreat
open Go.RowKit

theorem keepCellE {w w' : World} {ad : Addr} {v : Value} (hb : Below w.heap.size w w') (h : w.cell? ad = some v) : w'.cell? ad = some v := by rw [hb.cell (World.block_lt_of_cell? w _ h)]; exact h
set_option maxHeartbeats 2000000 in
theorem lib_GrowF (w : World) (n : Nat) (hn : n ≤ 1000000) :
    Calls Tryz.prog 236 #[.slice none 0 0, .int .i64 (n : Int)] w fun e w' => ∃ r, e = .returned r ∧ Own w' w.heap.size tL r [] ∧ Below w.heap.size w w' := by
  by_cases h0 : n = 0
  · subst h0
    go_enter Tryz.func236, Tryz.ntmps236
    go_wp2
    go_ret
    exact ⟨_, rfl, Own.nil _ _ _, Below.refl _ _⟩
  · obtain ⟨i, hi, hz, h1, h2⟩ := info_parts T_row.info
    have hp : (0 : Int) < (n : Int) := by omega
    have hr := Go.Lib.run_append_nil_zeros (P := Tryz.prog) w 43 3 43 tL i (.slice none 0 0) .i64 .i64 T_row.under Tryz.underlying3 hi hz n (by omega) (by rw [h1]; omega) (by omega) (by rw [h2]; omega)
    have hge := grownCap_ge w n 0 tL
    have hcm := grownCap_le_maxLen w n 0 tL (by simp only [maxLen]; omega)
    have hO : Own (w.drew.alloc (.cells (Builtin.zeroCells (Value.cells (.slice none 0 0)) n ++ Builtin.zeroCells (Value.cells (.slice none 0 0)) (grownCap w n 0 tL - n)) tL)) w.heap.size tL (.slice (some ⟨w.heap.size, 0, none⟩) 0 (grownCap w n 0 tL)) [] :=
      World.ownsRow_made (w := w.drew) (base := w.heap.size) (e := tL) (size := 1) _ (grownCap w n 0 tL) (Nat.le_refl _) hcm (by simp [size_zeroCells, Value.cells]; omega)
    have HO := Lib.hid hO
    have HB := Lib.hid ((Below.refl w.heap.size w).drew.alloc (Nat.le_refl _) (.cells (Builtin.zeroCells (Value.cells (.slice none 0 0)) n ++ Builtin.zeroCells (Value.cells (.slice none 0 0)) (grownCap w n 0 tL - n)) tL))
    have HR := Lib.hid hr
    have hcm' : grownCap w n 0 tL ≤ 9223372036854775807 := by simpa [maxLen] using hcm
    clear hO hr hcm
    generalize grownCap w n 0 tL = cp at hge hcm' HO HB HR
    generalize (w.drew.alloc (.cells (Builtin.zeroCells (Value.cells (.slice none 0 0)) n ++ Builtin.zeroCells (Value.cells (.slice none 0 0)) (cp - n)) tL)) = w1 at HO HB HR
    go_enter Tryz.func236, Tryz.ntmps236
    go_wp2_with (at_builtin; refine Go.Lib.wpList_append_run w rfl _ _ _ _ (by rfl) _ _ (by rfl) (by rfl) _ _ HR.out ?_)
    go_ret
    exact ⟨_, rfl, HO.out, HB.out⟩

set_option maxHeartbeats 4000000 in
/-- two lists of slices, laid side by side in a block -/
theorem lib_ConcatF (w : World) (g : Nat) (c : Nat) (A1 A2 : Option Addr) (c1 c2 : Nat) (vs1 vs2 : List Value) (hc : 2 ≤ c) (hcm : c ≤ 9223372036854775807) (k0 : w.cell? ⟨g, 0, none⟩ = some (.slice A1 vs1.length c1)) (k1 : w.cell? ⟨g, 1, none⟩ = some (.slice A2 vs2.length c2))
    (h1 : Cells w (.slice A1 vs1.length c1) vs1) (h2 : Cells w (.slice A2 vs2.length c2) vs2) (o1 : ∀ u ∈ vs1, u.oneCell' = true) (o2 : ∀ u ∈ vs2, u.oneCell' = true) (hn : vs1.length + vs2.length ≤ 100000) :
    Calls Tryz.prog 213 #[.slice (some ⟨g, 0, none⟩) 2 c] w fun e w' => ∃ r, e = .returned r ∧ Own w' w.heap.size tL r (vs1 ++ vs2) ∧ Below w.heap.size w w' := by
  have H1 := Lib.hid h1
  have H2 := Lib.hid h2
  have O1 := Lib.hid o1
  have O2 := Lib.hid o2
  have K0 := Lib.hid k0
  have K1 := Lib.hid k1
  have hl1 : vs1.length ≤ 100000 := by omega
  have hl2 : vs2.length ≤ 100000 := by omega
  clear h1 h2 o1 o2 k0 k1
  go_enter Tryz.func213, Tryz.ntmps213
  go_wp2_with fail
  go_loopw [3, 11] (fun s i wr => ∃ k : Nat, k ≤ 2 ∧ i = .int .i64 k ∧ s = .int .i64 ((if k = 0 then 0 else if k = 1 then vs1.length else vs1.length + vs2.length : Nat) : Int) ∧ w = wr) (fun _ i _ => 2 - (intOf i).toNat)
  case atStart => exact ⟨0, Nat.zero_le _, rfl, rfl, rfl⟩
  case round =>
    obtain ⟨k, hk, rfl, rfl, rfl⟩ := hrel
    have hkk : k = 0 ∨ k = 1 ∨ k = 2 := by omega
    rcases hkk with rfl | rfl | rfl
    · have hc0 := K0.out
      simp only [if_true]
      go_wp2_with fail
      go_roundw
      case rel => exact ⟨1, by omega, by go_num, by simp, by first | rfl | trivial⟩
      case measure => simp [intOf]
    · have hc0 := K1.out
      simp only [show ¬ ((1 : Nat) = 0) from by omega, if_false, if_true]
      have hw : IntKind.i64.wrap ((vs1.length : Int) + (vs2.length : Int)) = (vs1.length : Int) + (vs2.length : Int) := IntWalk.i64_in _ (by omega)
      have hge : ¬ ((vs1.length : Int) + (vs2.length : Int) < 0) := by omega
      go_wp2_with fail
      go_roundw
      case rel => clear hw; exact ⟨2, by omega, by go_num, by simp, by first | rfl | trivial⟩
      case measure => clear hw; simp [intOf]
    · simp only [show ¬ ((2 : Nat) = 0) from by omega, show ¬ ((2 : Nat) = 1) from by omega, if_false]
      go_wp2_with (go_at_call 236; refine (lib_GrowF _ (vs1.length + vs2.length) (by omega)).mono ?_; rintro e w1 ⟨r, rfl, hown, hb1⟩; have HO := Lib.hid hown; have HB := Lib.hid hb1; clear hown hb1)
      go_loopw [6, 27] (fun s i wr => ∃ k : Nat, k ≤ 2 ∧ i = .int .i64 k ∧ Own wr w.heap.size tL s (if k = 0 then [] else if k = 1 then vs1 else vs1 ++ vs2) ∧ Below w.heap.size w wr) (fun _ i _ => 2 - (intOf i).toNat)
      case atStart => exact ⟨0, Nat.zero_le _, rfl, HO.out, HB.out⟩
      case round =>
        obtain ⟨k, hk, rfl, hown, hb⟩ := hrel
        clear HO HB
        have HB := Lib.hid hb
        have hkk : k = 0 ∨ k = 1 ∨ k = 2 := by omega
        rcases hkk with rfl | rfl | rfl
        · have HO := Lib.hid (show Own wr w.heap.size tL _ [] from hown)
          have hc0 := keepCellE HB.out K0.out
          clear hown hb
          go_wp2_with (at_builtin; refine wpList_appN T_row HO.out (H1.out.below HB.out) (by simp; omega) HB.out.size O1.out rfl (by rfl) (by rfl) (by rfl) ?_; intro v1 w2 hown1 hgr1)
          go_roundw
          case rel => exact ⟨1, by omega, by go_num, by simpa using hown1, hgr1.below HB.out HB.out.size HO.out.ge⟩
          case measure => simp [intOf]
        · have HO := Lib.hid (show Own wr w.heap.size tL _ vs1 from hown)
          have hc0 := keepCellE HB.out K1.out
          clear hown hb
          go_wp2_with (at_builtin; refine wpList_appN T_row HO.out (H2.out.below HB.out) (by omega) HB.out.size O2.out rfl (by rfl) (by rfl) (by rfl) ?_; intro v1 w2 hown1 hgr1)
          go_roundw
          case rel => exact ⟨2, by omega, by go_num, by simpa using hown1, hgr1.below HB.out HB.out.size HO.out.ge⟩
          case measure => simp [intOf]
        · have HO := Lib.hid (show Own wr w.heap.size tL _ (vs1 ++ vs2) from hown)
          go_wp2_with fail
          go_ret
          exact ⟨_, rfl, HO.out, HB.out⟩
end Go.Proofs.YtdjhfeaimmpmhaaGreat

