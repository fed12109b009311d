/- Walks of the jumps of the program: jumpSteps. -/
import Derived.Test.YtaielpgijggjgaaJump
set_option linter.unusedVariables false
set_option linter.unusedSimpArgs false
namespace Go.Proofs.Ytaielpgijggjgaa
open Go.RowKit

theorem own_ints1 (w : World) (g : Int) (hg : In64 g) : Ints (w.alloc (.cells #[.int .i64 g] tI)) (.slice (some ⟨w.heap.size, 0, none⟩) 1 1) [g] :=
  ⟨(own_lit w tI [.int .i64 g] (by simp [maxLen])).cells, fun z hz => by simp at hz; subst hz; exact hg⟩

theorem rows3 (w : World) (T : TypeId) (a b c : Value) (x y z : List Int) (n : Nat) (hn : w.heap.size = n) (ha : Ints w a x) (hb : Ints w b y) (hc : Ints w c z) :
    Rows (w.alloc (.cells #[a, b, c] T)) (.slice (some ⟨n, 0, none⟩) 3 3) [x, y, z] := by
  subst hn
  have hB : Below w.heap.size w (w.alloc (.cells #[a, b, c] T)) := (Below.refl _ _).alloc (Nat.le_refl _) _
  refine ⟨[a, b, c], (own_lit w T [a, b, c] (by simp [maxLen])).cells, rfl, fun k u zs hu hz => ?_⟩
  match k with
  | 0 => simp at hu hz; subst hu hz; exact ha.below hB
  | 1 => simp at hu hz; subst hu hz; exact hb.below hB
  | 2 => simp at hu hz; subst hu hz; exact hc.below hB
  | k + 3 => simp at hu

theorem i_root3 (w : World) (side : Nat) (hs : side = 1 ∨ side = 2) :
    Calls Try.prog 57 #[.int .i64 (2 * (side : Int)), .int .i64 3] w fun e w' => e = .returned (.tuple #[.int .i64 (rootR (2 * side) 2 : Int), .int .i64 0]) ∧ w = w' :=
  i_root w 2 side (by omega) hs

set_option maxHeartbeats 1000000 in
theorem i_jumpSteps2 (w : World) (side : Nat) (hs : side = 1 ∨ side = 2) :
    Calls Try.prog 44 #[.int .i64 2, .int .i64 (side : Int)] w fun e w' => ∃ r, e = .returned (.tuple #[r, .int .i64 0]) ∧ OwnInts w' w.heap.size tI r (jumpL 2 side) ∧ Below w.heap.size w w' := by
  have hR := (rootR_spec (many := 2 * (side : Int)) (p := 2) (by omega) (by omega)).2.2.1
  have ⟨g0, g1⟩ := jumpG_bd 2 side
  have HG := Lib.hid (show pw ((2 * (side : Int) - (rootR (2 * side) 2 : Int)) % 10007) 10005 = jumpG 2 side from rfl)
  have HS := Lib.hid hs
  have hs2 : (side : Int) ≤ 2 := by omega
  have hs1 : 1 ≤ (side : Int) := by omega
  have hsn : 1 ≤ side ∧ side ≤ 8 := by omega
  obtain ⟨g, hg⟩ : ∃ g, g = jumpG 2 side := ⟨_, rfl⟩
  have hJ : jumpL 2 side = List.replicate side g ++ (1 - 2 * (side : Int) * g) % 10007 :: List.replicate side g := by rw [hg]; rfl
  rw [hJ]
  rw [← hg] at g0 g1 HG
  have HI1 := Lib.hid (own_ints1 w g (by unfold In64; omega))
  have hbd : 0 ≤ 2 * (side : Int) * g ∧ 2 * (side : Int) * g ≤ 40024 := by
    rcases hs with rfl | rfl <;> simp <;> omega
  obtain ⟨m, hm⟩ : ∃ m, m = (1 - 2 * (side : Int) * g) % 10007 := ⟨_, rfl⟩
  have m0 : 0 ≤ m := by omega
  have m1 : m ≤ 10006 := by omega
  rw [← hm]
  have HM := Lib.hid hm
  clear hg hm hJ hs
  go_enter Try.func44, Try.ntmps44
  go_wp2_with fail
  refine (i_root3 _ side HS.out).mono ?_
  rintro e w1 ⟨rfl, rfl⟩
  generalize rootR (2 * (side : Int)) 2 = R at hR HG ⊢
  go_wp2_with fail
  refine (i_num _ _ (by omega) (by omega)).mono ?_
  rintro e w1 ⟨rfl, rfl⟩
  go_wp2_with fail
  refine (i_inv _ _ (by omega) (by omega)).mono ?_
  rintro e w1 ⟨he, rfl⟩
  obtain rfl : e = .returned (.int .i64 g) := he.trans (by rw [HG.out])
  clear HG he hR
  go_wp2_with fail
  refine (lib_Repeat1 _ _ g side HI1.out hsn.1 hsn.2).mono ?_
  rintro e w2 ⟨r, rfl, hown, hb2⟩
  obtain ⟨A3, c3, hr, -, -, -⟩ := hown.ints.open_
  rw [List.length_replicate] at hr
  subst hr
  have HR := Lib.hid hown.ints
  have HB := Lib.hid (((Below.refl w.heap.size w).alloc (Nat.le_refl _) (.cells #[.int .i64 g] tI)).trans (hb2.mono (below1 _ _).size))
  clear hown hb2 HI1
  go_wp2_with fail
  refine (i_num _ _ (by omega) (by omega)).mono ?_
  rintro e w1 ⟨he, rfl⟩
  obtain rfl : e = .returned (.int .i64 m) := he.trans (by rw [HM.out])
  clear he HM
  have HI2 := Lib.hid (own_ints1 w2 m (by unfold In64; omega))
  have HR2 := Lib.hid (HR.out.below (below1 w2 (.cells #[.int .i64 m] tI)))
  have HROWS := Lib.hid (rows3 _ 22 _ _ _ _ _ _ (w2.heap.size + 1) (Array.size_push _) HR2.out HI2.out HR2.out)
  have HB2 := Lib.hid (((HB.out.alloc HB.out.size (.cells #[.int .i64 m] tI))).alloc (HB.out.alloc HB.out.size (.cells #[.int .i64 m] tI)).size (.cells #[.slice A3 side c3, .slice (some ⟨w2.heap.size, 0, none⟩) 1 1, .slice A3 side c3] 22))
  clear HB HR HI2 HR2
  have HIN := Lib.hid (jumpOf_in g m side g0 g1 m0 m1)
  go_wp2_with fail
  change Calls _ _ _ ((w2.alloc (.cells #[.int .i64 m] tI)).alloc (.cells #[.slice A3 side c3, .slice (some ⟨w2.heap.size, 0, none⟩) 1 1, .slice A3 side c3] 22)) _
  generalize ((w2.alloc (.cells #[.int .i64 m] tI)).alloc (.cells #[.slice A3 side c3, .slice (some ⟨w2.heap.size, 0, none⟩) 1 1, .slice A3 side c3] 22)) = w4 at HROWS HB2 ⊢
  refine (lib_ConcatI _ _ _ HROWS.out (by simp; omega)).mono ?_
  rintro e w3 ⟨r, rfl, hown, hb3⟩
  have HB3 := Lib.hid (HB2.out.trans (hb3.mono HB2.out.size))
  have HO := Lib.hid (hown.mono HB2.out.size)
  clear hown hb3 HB2 HROWS
  go_wp2_with fail
  go_ret2
  refine ⟨_, rfl, ?_, HB3.out⟩
  have := HO.out
  simp only [List.flatten_cons, List.flatten_nil, List.append_nil, List.cons_append, List.nil_append] at this
  exact this

theorem i_root5 (w : World) (side : Nat) (hs : side = 1 ∨ side = 2) :
    Calls Try.prog 57 #[.int .i64 (2 * (side : Int)), .int .i64 5] w fun e w' => e = .returned (.tuple #[.int .i64 (rootR (2 * side) 4 : Int), .int .i64 0]) ∧ w = w' :=
  i_root w 4 side (by omega) hs

set_option maxHeartbeats 1000000 in
theorem i_jumpSteps4 (w : World) (side : Nat) (hs : side = 1 ∨ side = 2) :
    Calls Try.prog 44 #[.int .i64 4, .int .i64 (side : Int)] w fun e w' => ∃ r, e = .returned (.tuple #[r, .int .i64 0]) ∧ OwnInts w' w.heap.size tI r (jumpL 4 side) ∧ Below w.heap.size w w' := by
  have hR := (rootR_spec (many := 2 * (side : Int)) (p := 4) (by omega) (by omega)).2.2.1
  have ⟨g0, g1⟩ := jumpG_bd 4 side
  have HG := Lib.hid (show pw ((2 * (side : Int) - (rootR (2 * side) 4 : Int)) % 10007) 10005 = jumpG 4 side from rfl)
  have HS := Lib.hid hs
  have hs2 : (side : Int) ≤ 2 := by omega
  have hs1 : 1 ≤ (side : Int) := by omega
  have hsn : 1 ≤ side ∧ side ≤ 8 := by omega
  obtain ⟨g, hg⟩ : ∃ g, g = jumpG 4 side := ⟨_, rfl⟩
  have hJ : jumpL 4 side = List.replicate side g ++ (1 - 2 * (side : Int) * g) % 10007 :: List.replicate side g := by rw [hg]; rfl
  rw [hJ]
  rw [← hg] at g0 g1 HG
  have HI1 := Lib.hid (own_ints1 w g (by unfold In64; omega))
  have hbd : 0 ≤ 2 * (side : Int) * g ∧ 2 * (side : Int) * g ≤ 40024 := by
    rcases hs with rfl | rfl <;> simp <;> omega
  obtain ⟨m, hm⟩ : ∃ m, m = (1 - 2 * (side : Int) * g) % 10007 := ⟨_, rfl⟩
  have m0 : 0 ≤ m := by omega
  have m1 : m ≤ 10006 := by omega
  rw [← hm]
  have HM := Lib.hid hm
  clear hg hm hJ hs
  go_enter Try.func44, Try.ntmps44
  go_wp2_with fail
  refine (i_root5 _ side HS.out).mono ?_
  rintro e w1 ⟨rfl, rfl⟩
  generalize rootR (2 * (side : Int)) 4 = R at hR HG ⊢
  go_wp2_with fail
  refine (i_num _ _ (by omega) (by omega)).mono ?_
  rintro e w1 ⟨rfl, rfl⟩
  go_wp2_with fail
  refine (i_inv _ _ (by omega) (by omega)).mono ?_
  rintro e w1 ⟨he, rfl⟩
  obtain rfl : e = .returned (.int .i64 g) := he.trans (by rw [HG.out])
  clear HG he hR
  go_wp2_with fail
  refine (lib_Repeat1 _ _ g side HI1.out hsn.1 hsn.2).mono ?_
  rintro e w2 ⟨r, rfl, hown, hb2⟩
  obtain ⟨A3, c3, hr, -, -, -⟩ := hown.ints.open_
  rw [List.length_replicate] at hr
  subst hr
  have HR := Lib.hid hown.ints
  have HB := Lib.hid (((Below.refl w.heap.size w).alloc (Nat.le_refl _) (.cells #[.int .i64 g] tI)).trans (hb2.mono (below1 _ _).size))
  clear hown hb2 HI1
  go_wp2_with fail
  refine (i_num _ _ (by omega) (by omega)).mono ?_
  rintro e w1 ⟨he, rfl⟩
  obtain rfl : e = .returned (.int .i64 m) := he.trans (by rw [HM.out])
  clear he HM
  have HI2 := Lib.hid (own_ints1 w2 m (by unfold In64; omega))
  have HR2 := Lib.hid (HR.out.below (below1 w2 (.cells #[.int .i64 m] tI)))
  have HROWS := Lib.hid (rows3 _ 22 _ _ _ _ _ _ (w2.heap.size + 1) (Array.size_push _) HR2.out HI2.out HR2.out)
  have HB2 := Lib.hid (((HB.out.alloc HB.out.size (.cells #[.int .i64 m] tI))).alloc (HB.out.alloc HB.out.size (.cells #[.int .i64 m] tI)).size (.cells #[.slice A3 side c3, .slice (some ⟨w2.heap.size, 0, none⟩) 1 1, .slice A3 side c3] 22))
  clear HB HR HI2 HR2
  have HIN := Lib.hid (jumpOf_in g m side g0 g1 m0 m1)
  go_wp2_with fail
  change Calls _ _ _ ((w2.alloc (.cells #[.int .i64 m] tI)).alloc (.cells #[.slice A3 side c3, .slice (some ⟨w2.heap.size, 0, none⟩) 1 1, .slice A3 side c3] 22)) _
  generalize ((w2.alloc (.cells #[.int .i64 m] tI)).alloc (.cells #[.slice A3 side c3, .slice (some ⟨w2.heap.size, 0, none⟩) 1 1, .slice A3 side c3] 22)) = w4 at HROWS HB2 ⊢
  refine (lib_ConcatI _ _ _ HROWS.out (by simp; omega)).mono ?_
  rintro e w3 ⟨r, rfl, hown, hb3⟩
  have HB3 := Lib.hid (HB2.out.trans (hb3.mono HB2.out.size))
  have HO := Lib.hid (hown.mono HB2.out.size)
  clear hown hb3 HB2 HROWS
  go_wp2_with fail
  go_ret2
  refine ⟨_, rfl, ?_, HB3.out⟩
  have := HO.out
  simp only [List.flatten_cons, List.flatten_nil, List.append_nil, List.cons_append, List.nil_append] at this
  exact this

set_option maxHeartbeats 1000000 in
theorem i_jumpSteps (w : World) (p : Int) (side : Nat) (hs : side = 1 ∨ side = 2) :
    Calls Try.prog 44 #[.int .i64 p, .int .i64 (side : Int)] w fun e w' => ∃ r, e = .returned (.tuple #[r, .int .i64 (jumpC p)]) ∧ OwnInts w' w.heap.size tI r (jumpF p side) ∧ Below w.heap.size w w' := by
  by_cases h2 : p = 2
  · subst h2
    exact i_jumpSteps2 w side hs
  · by_cases h4 : p = 4
    · subst h4
      exact i_jumpSteps4 w side hs
    · have hk : jumpOk p = false := by simp [jumpOk, h2, h4]
      rw [show jumpF p side = [] by simp [jumpF, hk], show jumpC p = 2 by simp [jumpC, hk]]
      clear hk
      go_enter Try.func44, Try.ntmps44
      go_wp2_with fail
      go_ret2
      exact ⟨_, rfl, OwnInts.nil _ _ _, Below.refl _ _⟩

def jumpF1 (p : Int) : List Int := jumpF p 1
theorem jumpF1_len (p : Int) : (jumpF1 p).length ≤ 4294967296 := jumpF_len p 1 (by omega)
set_option maxHeartbeats 1000000 in
theorem i_JumpSteps (w : World) (p : Int) (hp : In64 p) :
    Calls Try.prog 25 #[.int .i64 p] w fun e w' => ∃ r, e = .returned (.tuple #[r, .int .i64 (jumpC p)]) ∧ OwnInts w' w.heap.size tI r (jumpF1 p) ∧ Below w.heap.size w w' := by
  clear hp
  go_enter Try.func25, Try.ntmps25
  go_wp2_with fail
  refine (i_jumpSteps _ p 1 (by omega)).mono ?_
  rintro e w1 ⟨r, rfl, hown, hb⟩
  have HO := Lib.hid hown
  have HB := Lib.hid hb
  clear hown hb
  go_wp2_with fail
  go_ret2
  exact ⟨_, rfl, HO.out, HB.out⟩

set_option maxHeartbeats 1000000 in
theorem s_JumpSteps (w : World) (p : Int) (hp : In64 p) :
    Calls Try.prog 24 #[.int .i64 p] w fun e w' => ∃ r, e = .returned (.tuple #[r, .int .i64 (jumpC p)]) ∧ OwnInts w' w.heap.size tI r (jumpF1 p) ∧ Below w.heap.size w w' := by
  clear hp
  by_cases hp : p = 2 ∨ p = 4
  · have hk : jumpOk p = true := by simpa [jumpOk] using hp
    rw [show jumpF1 p = jumpL p 1 by simp [jumpF1, jumpF, hk], show jumpC p = 0 by simp [jumpC, hk]]
    clear hk
    rcases hp with rfl | rfl
    all_goals
      go_enter Try.func24, Try.ntmps24
      go_wp2_with fail
      refine (s_l18Jump _ _ 1 (by omega) (by omega)).mono ?_
      rintro e w1 ⟨r, rfl, hown, hb⟩
      have HO := Lib.hid hown
      have HB := Lib.hid hb
      clear hown hb
      go_wp2_with fail
      go_ret2
      exact ⟨_, rfl, HO.out, HB.out⟩
  · have hk : jumpOk p = false := by simpa [jumpOk] using hp
    rw [show jumpF1 p = [] by simp [jumpF1, jumpF, hk], show jumpC p = 2 by simp [jumpC, hk]]
    have h2 : ¬ p = 2 := by omega
    have h4 : ¬ p = 4 := by omega
    clear hk hp
    go_enter Try.func24, Try.ntmps24
    go_wp2_with fail
    go_ret2
    exact ⟨_, rfl, OwnInts.nil _ _ _, Below.refl _ _⟩

def jumpF2 (p : Int) : List Int := jumpF p 2
theorem jumpF2_len (p : Int) : (jumpF2 p).length ≤ 4294967296 := jumpF_len p 2 (by omega)
set_option maxHeartbeats 1000000 in
theorem i_LongJumpSteps (w : World) (p : Int) (hp : In64 p) :
    Calls Try.prog 27 #[.int .i64 p] w fun e w' => ∃ r, e = .returned (.tuple #[r, .int .i64 (jumpC p)]) ∧ OwnInts w' w.heap.size tI r (jumpF2 p) ∧ Below w.heap.size w w' := by
  clear hp
  go_enter Try.func27, Try.ntmps27
  go_wp2_with fail
  refine (i_jumpSteps _ p 2 (by omega)).mono ?_
  rintro e w1 ⟨r, rfl, hown, hb⟩
  have HO := Lib.hid hown
  have HB := Lib.hid hb
  clear hown hb
  go_wp2_with fail
  go_ret2
  exact ⟨_, rfl, HO.out, HB.out⟩

set_option maxHeartbeats 1000000 in
theorem s_LongJumpSteps (w : World) (p : Int) (hp : In64 p) :
    Calls Try.prog 26 #[.int .i64 p] w fun e w' => ∃ r, e = .returned (.tuple #[r, .int .i64 (jumpC p)]) ∧ OwnInts w' w.heap.size tI r (jumpF2 p) ∧ Below w.heap.size w w' := by
  clear hp
  by_cases hp : p = 2 ∨ p = 4
  · have hk : jumpOk p = true := by simpa [jumpOk] using hp
    rw [show jumpF2 p = jumpL p 2 by simp [jumpF2, jumpF, hk], show jumpC p = 0 by simp [jumpC, hk]]
    clear hk
    rcases hp with rfl | rfl
    all_goals
      go_enter Try.func26, Try.ntmps26
      go_wp2_with fail
      refine (s_l18Jump _ _ 2 (by omega) (by omega)).mono ?_
      rintro e w1 ⟨r, rfl, hown, hb⟩
      have HO := Lib.hid hown
      have HB := Lib.hid hb
      clear hown hb
      go_wp2_with fail
      go_ret2
      exact ⟨_, rfl, HO.out, HB.out⟩
  · have hk : jumpOk p = false := by simpa [jumpOk] using hp
    rw [show jumpF2 p = [] by simp [jumpF2, jumpF, hk], show jumpC p = 2 by simp [jumpC, hk]]
    have h2 : ¬ p = 2 := by omega
    have h4 : ¬ p = 4 := by omega
    clear hk hp
    go_enter Try.func26, Try.ntmps26
    go_wp2_with fail
    go_ret2
    exact ⟨_, rfl, OwnInts.nil _ _ _, Below.refl _ _⟩
end Go.Proofs.Ytaielpgijggjgaa
