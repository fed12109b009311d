/- Walks of the jumps: l01Root, RootNumber, l18Jump, jumpSteps, JumpSteps, LongJumpSteps. | Walks of the jumps of the program: jumpSteps. -/
import Derived.Test.YtngdpoeondnchaaGreatQ39
import Derived.Test.YtngdpoeondnchaaGreatQ5
import Derived.Test.YtngdpoeondnchaaGreatQ7
import Derived.BigGuardPart
set_option linter.unusedVariables false
set_option linter.unusedSimpArgs false
namespace Go.Proofs.YtngdpoeondnchaaGreat
open Go.RowKit

set_option maxHeartbeats 1000000 in
theorem s_l01Root (w : World) (a k : Int) (R : Nat) (k0 : 0 ≤ k) (k1 : k ≤ 1000) (hne : ∀ b : Nat, b < R → pw (b : Int) k.toNat ≠ a) (he : pw (R : Int) k.toNat = a) (hR : R < 10007) :
    Calls Tryz.prog 135 #[.int .i64 a, .int .i64 k] w fun e w' => e = .returned (.int .i64 (R : Int)) ∧ w = w' := by
  have HNE := Lib.hid hne
  have HE := Lib.hid he
  clear hne he
  go_enter Tryz.func135, Tryz.ntmps135
  go_wp2_with fail
  go_loop [5] (fun b => ∃ j : Nat, j ≤ R ∧ b = .int .i64 j) (fun b => R - (intOf b).toNat)
  case atStart => exact ⟨0, Nat.zero_le _, rfl⟩
  case round =>
    obtain ⟨j, hj, rfl⟩ := hrel
    have hj7 : (j : Int) < 10007 := by omega
    by_cases hlt : j < R
    · have hb : (pw (j : Int) k.toNat == a) = false := by simpa using HNE.out j hlt
      go_wp2_with (go_at_call 95; refine (s_l01Pow _ _ _ (by omega) (by omega) (by omega) (by omega)).mono ?_; rintro e w' ⟨rfl, rfl⟩)
      go_round
      case rel => exact ⟨j + 1, by omega, by go_num⟩
      case measure => simp [intOf]; omega
    · have : j = R := by omega
      subst this
      have hb : (pw (j : Int) k.toNat == a) = true := by simpa using HE.out
      go_wp2_with (go_at_call 95; refine (s_l01Pow _ _ _ (by omega) (by omega) (by omega) (by omega)).mono ?_; rintro e w' ⟨rfl, rfl⟩)
      go_ret
      exact ⟨rfl, rfl⟩

set_option maxHeartbeats 1000000 in
theorem i_RootNumber3 (w : World) (a : Int) (h : isNum a = true) (h0 : 0 ≤ a) (h1 : a ≤ 10006) :
    Calls Tryz.prog 136 #[.int .i64 a, .int .i64 3] w fun e w' => e = .returned (.tuple #[.int .i64 (pw a 6671), .int .i64 0]) ∧ w = w' := by
  have H := Lib.hid h
  clear h
  go_enter Tryz.func136, Tryz.ntmps136
  go_wp2_with (go_at_call 155; refine (i_IsNumber _ _).mono ?_; rintro e w' ⟨rfl, rfl⟩; rw [H.out])
  go_loop [6] (fun b => ∃ j : Nat, 1 ≤ j ∧ j ≤ 6671 ∧ b = .int .i64 j) (fun b => 6671 - (intOf b).toNat)
  case atStart => exact ⟨1, by omega, by omega, rfl⟩
  case round =>
    obtain ⟨j, hj0, hj, rfl⟩ := hrel
    by_cases hlt : j < 6671
    · have hb : ((j : Int) * 3 % 10006 == 1) = false := by simp; omega
      go_wp2_with fail
      go_round
      case rel => exact ⟨j + 1, by omega, by omega, by go_num⟩
      case measure => simp [intOf]; omega
    · have : j = 6671 := by omega
      subst this
      go_wp2_with (go_at_call 100; refine (i_pow _ _ _ (by omega) (by omega) (by omega) (by omega)).mono ?_; rintro e w' ⟨rfl, rfl⟩)
      go_ret2
      exact ⟨rfl, rfl⟩

set_option maxHeartbeats 1000000 in
theorem i_RootNumber5 (w : World) (a : Int) (h : isNum a = true) (h0 : 0 ≤ a) (h1 : a ≤ 10006) :
    Calls Tryz.prog 136 #[.int .i64 a, .int .i64 5] w fun e w' => e = .returned (.tuple #[.int .i64 (pw a 8005), .int .i64 0]) ∧ w = w' := by
  have H := Lib.hid h
  clear h
  go_enter Tryz.func136, Tryz.ntmps136
  go_wp2_with (go_at_call 155; refine (i_IsNumber _ _).mono ?_; rintro e w' ⟨rfl, rfl⟩; rw [H.out])
  go_loop [6] (fun b => ∃ j : Nat, 1 ≤ j ∧ j ≤ 8005 ∧ b = .int .i64 j) (fun b => 8005 - (intOf b).toNat)
  case atStart => exact ⟨1, by omega, by omega, rfl⟩
  case round =>
    obtain ⟨j, hj0, hj, rfl⟩ := hrel
    by_cases hlt : j < 8005
    · have hb : ((j : Int) * 5 % 10006 == 1) = false := by simp; omega
      go_wp2_with fail
      go_round
      case rel => exact ⟨j + 1, by omega, by omega, by go_num⟩
      case measure => simp [intOf]; omega
    · have : j = 8005 := by omega
      subst this
      go_wp2_with (go_at_call 100; refine (i_pow _ _ _ (by omega) (by omega) (by omega) (by omega)).mono ?_; rintro e w' ⟨rfl, rfl⟩)
      go_ret2
      exact ⟨rfl, rfl⟩

theorem isNum_of {a : Int} (h0 : 0 ≤ a) (h1 : a ≤ 10006) : isNum a = true := by
  unfold isNum inR
  simp
  omega

theorem i_RootNumber (w : World) (many p : Int) (hm : many = 2 ∨ many = 4) (hp : p = 2 ∨ p = 4) :
    Calls Tryz.prog 136 #[.int .i64 many, .int .i64 (p + 1)] w fun e w' => e = .returned (.tuple #[.int .i64 (rootR many p : Int), .int .i64 0]) ∧ w = w' := by
  have h := (rootR_spec hm hp).2.2.2
  rw [← h]
  rcases hp with rfl | rfl
  · exact i_RootNumber3 w many (isNum_of (by omega) (by omega)) (by omega) (by omega)
  · exact i_RootNumber5 w many (isNum_of (by omega) (by omega)) (by omega) (by omega)

theorem jumpG_bd (p : Int) (side : Nat) : 0 ≤ jumpG p side ∧ jumpG p side ≤ 10006 := pw_bd _ _

theorem s_root (w : World) (p : Int) (side : Nat) (hp : p = 2 ∨ p = 4) (hs : side = 1 ∨ side = 2) :
    Calls Tryz.prog 135 #[.int .i64 (2 * (side : Int)), .int .i64 (p + 1)] w fun e w' => e = .returned (.int .i64 (rootR (2 * side) p : Int)) ∧ w = w' := by
  have h := rootR_spec (many := 2 * (side : Int)) (p := p) (by omega) hp
  exact s_l01Root w _ _ _ (by omega) (by omega) h.1 h.2.1 h.2.2.1
theorem i_root (w : World) (p : Int) (side : Nat) (hp : p = 2 ∨ p = 4) (hs : side = 1 ∨ side = 2) :
    Calls Tryz.prog 136 #[.int .i64 (2 * (side : Int)), .int .i64 (p + 1)] w fun e w' => e = .returned (.tuple #[.int .i64 (rootR (2 * side) p : Int), .int .i64 0]) ∧ w = w' :=
  i_RootNumber w _ _ (by omega) hp

theorem jumpOf_in (g m : Int) (side : Nat) (g0 : 0 ≤ g) (g1 : g ≤ 10006) (m0 : 0 ≤ m) (m1 : m ≤ 10006) : ∀ z ∈ List.replicate side g ++ m :: List.replicate side g, In64 z := by
  intro z hz
  unfold In64
  simp only [List.mem_append, List.mem_cons, List.mem_replicate] at hz
  omega

set_option maxHeartbeats 1000000 in
theorem s_l18Jump (w : World) (p : Int) (side : Nat) (hp : p = 2 ∨ p = 4) (hs : side = 1 ∨ side = 2) :
    Calls Tryz.prog 108 #[.int .i64 p, .int .i64 (side : Int)] w fun e w' => ∃ r, e = .returned r ∧ OwnInts w' w.heap.size tI r (jumpL p side) ∧ Below w.heap.size w w' := by
  have hR := (rootR_spec (many := 2 * (side : Int)) (p := p) (by omega) hp).2.2.1
  have ⟨g0, g1⟩ := jumpG_bd p side
  have OL := Lib.hid (own_lit w tI [] (by simp [maxLen]))
  have HG := Lib.hid (show pw ((2 * (side : Int) - (rootR (2 * side) p : Int)) % 10007) 10005 = jumpG p side from rfl)
  have HP := Lib.hid hp
  have HS := Lib.hid hs
  have hs2 : (side : Int) ≤ 2 := by omega
  have hs1 : 1 ≤ (side : Int) := by omega
  have hp2 : 0 ≤ p ∧ p ≤ 4 := by omega
  clear hp hs
  unfold jumpL
  generalize jumpG p side = g at g0 g1 HG ⊢
  go_enter Tryz.func108, Tryz.ntmps108
  go_wp2_with fail
  refine (s_root _ p side HP.out HS.out).mono ?_
  rintro e w1 ⟨rfl, rfl⟩
  generalize rootR (2 * (side : Int)) p = R at hR HG ⊢
  go_wp2_with fail
  refine (s_l01Sub _ _ _ (by omega) (by omega) (by omega) (by omega)).mono ?_
  rintro e w1 ⟨rfl, rfl⟩
  go_wp2_with fail
  refine (s_l01Inv _ _ (by omega) (by omega)).mono ?_
  rintro e w1 ⟨he, rfl⟩
  obtain rfl : e = .returned (.int .i64 g) := he.trans (by rw [HG.out])
  clear HG he hR
  go_wp2_with fail
  go_loopw [7, 8] (fun o k wr => ∃ j : Nat, j ≤ side ∧ k = .int .i64 j ∧ Own wr w.heap.size tI o (ints (List.replicate j g)) ∧ Below w.heap.size w wr) (fun _ k _ => side - (intOf k).toNat)
  case atStart => exact ⟨0, by omega, rfl, OL.out, (Below.refl _ _).alloc (Nat.le_refl _) _⟩
  case round =>
    obtain ⟨j, hj, rfl, hown, hb⟩ := hrel
    clear OL
    have HO := Lib.hid hown
    have HB := Lib.hid hb
    clear hown hb
    by_cases hlt : j < side
    · have hlt' : (j : Int) < (side : Int) := by omega
      go_wp2_with (at_builtin; refine wpList_app1 T_int HO.out (by rw [ints_len, List.length_replicate]; omega) HB.out.size (by rfl) rfl (by rfl) (by rfl) (by rfl) ?_; intro v1 w1 hown1 hgr1)
      go_roundw
      case rel =>
        refine ⟨j + 1, by omega, by go_num, ?_, hgr1.below HB.out HB.out.size HO.out.ge⟩
        rw [List.replicate_succ']
        simpa [ints] using hown1
      case measure => simp [intOf]; omega
    · have : j = side := by omega
      subst this
      go_wp2_with fail
      refine (s_l01Mul _ _ _ (by omega) (by omega) (by omega) (by omega)).mono ?_
      rintro e w1 ⟨rfl, rfl⟩
      go_wp2_with fail
      refine (s_l01Sub _ _ _ (by omega) (by omega) (by omega) (by omega)).mono ?_
      rintro e w1 ⟨he, rfl⟩
      have em : (1 - 2 * (j : Int) * g % 10007) % 10007 = (1 - 2 * (j : Int) * g) % 10007 := by omega
      rw [em] at he
      subst he
      have m0 : 0 ≤ (1 - 2 * (j : Int) * g) % 10007 := by omega
      have m1 : (1 - 2 * (j : Int) * g) % 10007 ≤ 10006 := by omega
      clear em
      obtain ⟨m, hm⟩ : ∃ m, m = (1 - 2 * (j : Int) * g) % 10007 := ⟨_, rfl⟩
      rw [← hm] at m0 m1 ⊢
      have HM := Lib.hid hm
      clear hm
      go_wp2_with (at_builtin; refine wpList_app1 T_int HO.out (by rw [ints_len, List.length_replicate]; omega) HB.out.size (by rfl) rfl (by rfl) (by rfl) (by rfl) ?_; intro v1 w1 hown1 hgr1; have HO1 := Lib.hid hown1; have HB1 := Lib.hid (hgr1.below HB.out HB.out.size HO.out.ge); clear hown1 hgr1 HO HB)
      go_loopw [7, 9] (fun o k wr => ∃ i : Nat, i ≤ j ∧ k = .int .i64 i ∧ Own wr w.heap.size tI o (ints (List.replicate j g ++ m :: List.replicate i g)) ∧ Below w.heap.size w wr) (fun _ k _ => j - (intOf k).toNat)
      case atStart => exact ⟨0, by omega, rfl, by simpa [ints] using HO1.out, HB1.out⟩
      case round =>
        obtain ⟨i, hi, rfl, hown, hb⟩ := hrel
        clear HO1 HB1
        have HO := Lib.hid hown
        have HB := Lib.hid hb
        clear hown hb
        by_cases hlt : i < j
        · have hlt' : (i : Int) < (j : Int) := by omega
          go_wp2_with (at_builtin; refine wpList_app1 T_int HO.out (by simp [ints]; omega) HB.out.size (by rfl) rfl (by rfl) (by rfl) (by rfl) ?_; intro v1 w1 hown1 hgr1)
          go_roundw
          case rel =>
            refine ⟨i + 1, by omega, by go_num, ?_, hgr1.below HB.out HB.out.size HO.out.ge⟩
            rw [List.replicate_succ' (n := i)]
            simpa [ints] using hown1
          case measure => simp [intOf]; omega
        · have : i = j := by omega
          subst this
          go_wp2_with fail
          go_ret
          rw [← HM.out]
          exact ⟨_, rfl, ⟨HO.out, jumpOf_in g m _ g0 g1 m0 m1⟩, HB.out⟩

end Go.Proofs.YtngdpoeondnchaaGreat

set_option linter.unusedVariables false
set_option linter.unusedSimpArgs false
namespace Go.Proofs.YtngdpoeondnchaaGreat
open Go.RowKit

theorem own_ints1 (w : World) (g : Int) (hg : In64 g) : Ints (w.alloc (.cells #[.int .i64 g] tI)) (.slice (some ⟨w.heap.size, 0, none⟩) 1 1) [g] :=
  ⟨(own_lit w tI [.int .i64 g] (by simp [maxLen])).cells, fun z hz => by simp at hz; subst hz; exact hg⟩

theorem rows3 (w : World) (T : TypeId) (a b c : Value) (x y z : List Int) (n : Nat) (hn : w.heap.size = n) (ha : Ints w a x) (hb : Ints w b y) (hc : Ints w c z) :
    Rows (w.alloc (.cells #[a, b, c] T)) (.slice (some ⟨n, 0, none⟩) 3 3) [x, y, z] := by
  subst hn
  have hB : Below w.heap.size w (w.alloc (.cells #[a, b, c] T)) := (Below.refl _ _).alloc (Nat.le_refl _) _
  refine ⟨[a, b, c], (own_lit w T [a, b, c] (by simp [maxLen])).cells, rfl, fun k u zs hu hz => ?_⟩
  match k with
  | 0 => simp at hu hz; subst hu hz; exact ha.below hB
  | 1 => simp at hu hz; subst hu hz; exact hb.below hB
  | 2 => simp at hu hz; subst hu hz; exact hc.below hB
  | k + 3 => simp at hu

theorem i_root3 (w : World) (side : Nat) (hs : side = 1 ∨ side = 2) :
    Calls Tryz.prog 136 #[.int .i64 (2 * (side : Int)), .int .i64 3] w fun e w' => e = .returned (.tuple #[.int .i64 (rootR (2 * side) 2 : Int), .int .i64 0]) ∧ w = w' :=
  i_root w 2 side (by omega) hs

set_option maxHeartbeats 1000000 in
theorem i_jumpSteps2 (w : World) (side : Nat) (hs : side = 1 ∨ side = 2) :
    Calls Tryz.prog 109 #[.int .i64 2, .int .i64 (side : Int)] w fun e w' => ∃ r, e = .returned (.tuple #[r, .int .i64 0]) ∧ OwnInts w' w.heap.size tI r (jumpL 2 side) ∧ Below w.heap.size w w' := by
  have hR := (rootR_spec (many := 2 * (side : Int)) (p := 2) (by omega) (by omega)).2.2.1
  have ⟨g0, g1⟩ := jumpG_bd 2 side
  have HG := Lib.hid (show pw ((2 * (side : Int) - (rootR (2 * side) 2 : Int)) % 10007) 10005 = jumpG 2 side from rfl)
  have HS := Lib.hid hs
  have hs2 : (side : Int) ≤ 2 := by omega
  have hs1 : 1 ≤ (side : Int) := by omega
  have hsn : 1 ≤ side ∧ side ≤ 8 := by omega
  obtain ⟨g, hg⟩ : ∃ g, g = jumpG 2 side := ⟨_, rfl⟩
  have hJ : jumpL 2 side = List.replicate side g ++ (1 - 2 * (side : Int) * g) % 10007 :: List.replicate side g := by rw [hg]; rfl
  rw [hJ]
  rw [← hg] at g0 g1 HG
  have HI1 := Lib.hid (own_ints1 w g (by unfold In64; omega))
  have hbd : 0 ≤ 2 * (side : Int) * g ∧ 2 * (side : Int) * g ≤ 40024 := by
    rcases hs with rfl | rfl <;> simp <;> omega
  obtain ⟨m, hm⟩ : ∃ m, m = (1 - 2 * (side : Int) * g) % 10007 := ⟨_, rfl⟩
  have m0 : 0 ≤ m := by omega
  have m1 : m ≤ 10006 := by omega
  rw [← hm]
  have HM := Lib.hid hm
  clear hg hm hJ hs
  go_enter Tryz.func109, Tryz.ntmps109
  go_wp2_with fail
  refine (i_root3 _ side HS.out).mono ?_
  rintro e w1 ⟨rfl, rfl⟩
  generalize rootR (2 * (side : Int)) 2 = R at hR HG ⊢
  go_wp2_with fail
  refine (i_num _ _ (by omega) (by omega)).mono ?_
  rintro e w1 ⟨rfl, rfl⟩
  go_wp2_with fail
  refine (i_inv _ _ (by omega) (by omega)).mono ?_
  rintro e w1 ⟨he, rfl⟩
  obtain rfl : e = .returned (.int .i64 g) := he.trans (by rw [HG.out])
  clear HG he hR
  go_wp2_with fail
  refine (lib_Repeat1 _ _ g side HI1.out hsn.1 hsn.2).mono ?_
  rintro e w2 ⟨r, rfl, hown, hb2⟩
  obtain ⟨A3, c3, hr, -, -, -⟩ := hown.ints.open_
  rw [List.length_replicate] at hr
  subst hr
  have HR := Lib.hid hown.ints
  have HB := Lib.hid (((Below.refl w.heap.size w).alloc (Nat.le_refl _) (.cells #[.int .i64 g] tI)).trans (hb2.mono (below1 _ _).size))
  clear hown hb2 HI1
  go_wp2_with fail
  refine (i_num _ _ (by omega) (by omega)).mono ?_
  rintro e w1 ⟨he, rfl⟩
  obtain rfl : e = .returned (.int .i64 m) := he.trans (by rw [HM.out])
  clear he HM
  have HI2 := Lib.hid (own_ints1 w2 m (by unfold In64; omega))
  have HR2 := Lib.hid (HR.out.below (below1 w2 (.cells #[.int .i64 m] tI)))
  have HROWS := Lib.hid (rows3 _ 27 _ _ _ _ _ _ (w2.heap.size + 1) (Array.size_push _) HR2.out HI2.out HR2.out)
  have HB2 := Lib.hid (((HB.out.alloc HB.out.size (.cells #[.int .i64 m] tI))).alloc (HB.out.alloc HB.out.size (.cells #[.int .i64 m] tI)).size (.cells #[.slice A3 side c3, .slice (some ⟨w2.heap.size, 0, none⟩) 1 1, .slice A3 side c3] 27))
  clear HB HR HI2 HR2
  have HIN := Lib.hid (jumpOf_in g m side g0 g1 m0 m1)
  go_wp2_with fail
  change Calls _ _ _ ((w2.alloc (.cells #[.int .i64 m] tI)).alloc (.cells #[.slice A3 side c3, .slice (some ⟨w2.heap.size, 0, none⟩) 1 1, .slice A3 side c3] 27)) _
  generalize ((w2.alloc (.cells #[.int .i64 m] tI)).alloc (.cells #[.slice A3 side c3, .slice (some ⟨w2.heap.size, 0, none⟩) 1 1, .slice A3 side c3] 27)) = w4 at HROWS HB2 ⊢
  refine (lib_ConcatI _ _ _ HROWS.out (by simp; omega)).mono ?_
  rintro e w3 ⟨r, rfl, hown, hb3⟩
  have HB3 := Lib.hid (HB2.out.trans (hb3.mono HB2.out.size))
  have HO := Lib.hid (hown.mono HB2.out.size)
  clear hown hb3 HB2 HROWS
  go_wp2_with fail
  go_ret2
  refine ⟨_, rfl, ?_, HB3.out⟩
  have := HO.out
  simp only [List.flatten_cons, List.flatten_nil, List.append_nil, List.cons_append, List.nil_append] at this
  exact this

theorem i_root5 (w : World) (side : Nat) (hs : side = 1 ∨ side = 2) :
    Calls Tryz.prog 136 #[.int .i64 (2 * (side : Int)), .int .i64 5] w fun e w' => e = .returned (.tuple #[.int .i64 (rootR (2 * side) 4 : Int), .int .i64 0]) ∧ w = w' :=
  i_root w 4 side (by omega) hs

set_option maxHeartbeats 1000000 in
theorem i_jumpSteps4 (w : World) (side : Nat) (hs : side = 1 ∨ side = 2) :
    Calls Tryz.prog 109 #[.int .i64 4, .int .i64 (side : Int)] w fun e w' => ∃ r, e = .returned (.tuple #[r, .int .i64 0]) ∧ OwnInts w' w.heap.size tI r (jumpL 4 side) ∧ Below w.heap.size w w' := by
  have hR := (rootR_spec (many := 2 * (side : Int)) (p := 4) (by omega) (by omega)).2.2.1
  have ⟨g0, g1⟩ := jumpG_bd 4 side
  have HG := Lib.hid (show pw ((2 * (side : Int) - (rootR (2 * side) 4 : Int)) % 10007) 10005 = jumpG 4 side from rfl)
  have HS := Lib.hid hs
  have hs2 : (side : Int) ≤ 2 := by omega
  have hs1 : 1 ≤ (side : Int) := by omega
  have hsn : 1 ≤ side ∧ side ≤ 8 := by omega
  obtain ⟨g, hg⟩ : ∃ g, g = jumpG 4 side := ⟨_, rfl⟩
  have hJ : jumpL 4 side = List.replicate side g ++ (1 - 2 * (side : Int) * g) % 10007 :: List.replicate side g := by rw [hg]; rfl
  rw [hJ]
  rw [← hg] at g0 g1 HG
  have HI1 := Lib.hid (own_ints1 w g (by unfold In64; omega))
  have hbd : 0 ≤ 2 * (side : Int) * g ∧ 2 * (side : Int) * g ≤ 40024 := by
    rcases hs with rfl | rfl <;> simp <;> omega
  obtain ⟨m, hm⟩ : ∃ m, m = (1 - 2 * (side : Int) * g) % 10007 := ⟨_, rfl⟩
  have m0 : 0 ≤ m := by omega
  have m1 : m ≤ 10006 := by omega
  rw [← hm]
  have HM := Lib.hid hm
  clear hg hm hJ hs
  go_enter Tryz.func109, Tryz.ntmps109
  go_wp2_with fail
  refine (i_root5 _ side HS.out).mono ?_
  rintro e w1 ⟨rfl, rfl⟩
  generalize rootR (2 * (side : Int)) 4 = R at hR HG ⊢
  go_wp2_with fail
  refine (i_num _ _ (by omega) (by omega)).mono ?_
  rintro e w1 ⟨rfl, rfl⟩
  go_wp2_with fail
  refine (i_inv _ _ (by omega) (by omega)).mono ?_
  rintro e w1 ⟨he, rfl⟩
  obtain rfl : e = .returned (.int .i64 g) := he.trans (by rw [HG.out])
  clear HG he hR
  go_wp2_with fail
  refine (lib_Repeat1 _ _ g side HI1.out hsn.1 hsn.2).mono ?_
  rintro e w2 ⟨r, rfl, hown, hb2⟩
  obtain ⟨A3, c3, hr, -, -, -⟩ := hown.ints.open_
  rw [List.length_replicate] at hr
  subst hr
  have HR := Lib.hid hown.ints
  have HB := Lib.hid (((Below.refl w.heap.size w).alloc (Nat.le_refl _) (.cells #[.int .i64 g] tI)).trans (hb2.mono (below1 _ _).size))
  clear hown hb2 HI1
  go_wp2_with fail
  refine (i_num _ _ (by omega) (by omega)).mono ?_
  rintro e w1 ⟨he, rfl⟩
  obtain rfl : e = .returned (.int .i64 m) := he.trans (by rw [HM.out])
  clear he HM
  have HI2 := Lib.hid (own_ints1 w2 m (by unfold In64; omega))
  have HR2 := Lib.hid (HR.out.below (below1 w2 (.cells #[.int .i64 m] tI)))
  have HROWS := Lib.hid (rows3 _ 27 _ _ _ _ _ _ (w2.heap.size + 1) (Array.size_push _) HR2.out HI2.out HR2.out)
  have HB2 := Lib.hid (((HB.out.alloc HB.out.size (.cells #[.int .i64 m] tI))).alloc (HB.out.alloc HB.out.size (.cells #[.int .i64 m] tI)).size (.cells #[.slice A3 side c3, .slice (some ⟨w2.heap.size, 0, none⟩) 1 1, .slice A3 side c3] 27))
  clear HB HR HI2 HR2
  have HIN := Lib.hid (jumpOf_in g m side g0 g1 m0 m1)
  go_wp2_with fail
  change Calls _ _ _ ((w2.alloc (.cells #[.int .i64 m] tI)).alloc (.cells #[.slice A3 side c3, .slice (some ⟨w2.heap.size, 0, none⟩) 1 1, .slice A3 side c3] 27)) _
  generalize ((w2.alloc (.cells #[.int .i64 m] tI)).alloc (.cells #[.slice A3 side c3, .slice (some ⟨w2.heap.size, 0, none⟩) 1 1, .slice A3 side c3] 27)) = w4 at HROWS HB2 ⊢
  refine (lib_ConcatI _ _ _ HROWS.out (by simp; omega)).mono ?_
  rintro e w3 ⟨r, rfl, hown, hb3⟩
  have HB3 := Lib.hid (HB2.out.trans (hb3.mono HB2.out.size))
  have HO := Lib.hid (hown.mono HB2.out.size)
  clear hown hb3 HB2 HROWS
  go_wp2_with fail
  go_ret2
  refine ⟨_, rfl, ?_, HB3.out⟩
  have := HO.out
  simp only [List.flatten_cons, List.flatten_nil, List.append_nil, List.cons_append, List.nil_append] at this
  exact this

set_option maxHeartbeats 1000000 in
theorem i_jumpSteps (w : World) (p : Int) (side : Nat) (hs : side = 1 ∨ side = 2) :
    Calls Tryz.prog 109 #[.int .i64 p, .int .i64 (side : Int)] w fun e w' => ∃ r, e = .returned (.tuple #[r, .int .i64 (jumpC p)]) ∧ OwnInts w' w.heap.size tI r (jumpF p side) ∧ Below w.heap.size w w' := by
  by_cases h2 : p = 2
  · subst h2
    exact i_jumpSteps2 w side hs
  · by_cases h4 : p = 4
    · subst h4
      exact i_jumpSteps4 w side hs
    · have hk : jumpOk p = false := by simp [jumpOk, h2, h4]
      rw [show jumpF p side = [] by simp [jumpF, hk], show jumpC p = 2 by simp [jumpC, hk]]
      clear hk
      go_enter Tryz.func109, Tryz.ntmps109
      go_wp2_with fail
      go_ret2
      exact ⟨_, rfl, OwnInts.nil _ _ _, Below.refl _ _⟩

end Go.Proofs.YtngdpoeondnchaaGreat

