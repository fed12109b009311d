/- The laws' holding of fields, walked. | The laws' helper: equality of monomials. | The laws' helper: equality of lists of monomials. | Walk: l13Is of the reference. | Walk: IsField of the reference. | The laws' helpers: equality of lists of lists of monomials, and of fields. | Plain: fields of one's own, in blocks that are there; their comparison and marking. | Walks: FieldText of both. -/
import Derived.Test.YtnnfjjadehgmeaaGreatDoorPz9
import Derived.Test.YtnnfjjadehgmeaaGreatDoorPz3
import Derived.Test.YtnnfjjadehgmeaaGreatDoorPz2
import Derived.Deep.RegionLaw
import Derived.Test.YtnnfjjadehgmeaaGreatDoorPz6
set_option maxRecDepth 100000
set_option linter.unusedVariables false
set_option linter.unusedSimpArgs false
namespace Go.Proofs.YtnnfjjadehgmeaaGreatDoor
open Go.RowKit

set_option maxHeartbeats 4000000 in
theorem n_held_monos (w : World) (v : Value) (ms : List Mono) (k : Int) (ho : Monos w v (markM k ms)) (hn : msTot ms ≤ 1073741824) (h0 : 0 ≤ k) (h1 : k ≤ 4294967296) :
    Calls Tryz.prog 52 #[v, .int .i64 k] w fun e w' => e = .returned (.int .i64 (k + (msTot ms : Nat))) ∧ w = w' := by
  obtain ⟨A, c, rfl, l1, l2, h3⟩ := ho.open_
  unfold markM at *
  rw [markG_len] at l1 h3 ⊢
  have H3 := Lib.hid h3
  clear h3 ho
  go_enter Tryz.func52, Tryz.ntmps52
  go_wp2_with fail
  go_loop [1, 5] (fun x i => ∃ j : Nat, j ≤ ms.length ∧ i = .int .i64 j ∧ x = .int .i64 (k + (msTot (ms.take j) : Nat))) (fun _ i => ms.length - (intOf i).toNat)
  case atStart => exact ⟨0, Nat.zero_le _, rfl, by simp [msTot]⟩
  case round =>
    obtain ⟨j, hj, rfl, rfl⟩ := hrel
    by_cases hlt : j < ms.length
    · obtain ⟨m, hm0⟩ : ∃ m, ms[j]? = some m := ⟨_, List.getElem?_eq_getElem hlt⟩
      obtain ⟨b, o, m', u, rfl, hm', -, hu, c0, c1⟩ := H3.out j hlt
      rw [markG_get szM mkM k ms j m hm0, gTot_ms] at hm'
      simp only [Option.some.injEq] at hm'
      subst hm'
      have hle := msTot_take_le ms (j + 1)
      rw [msTot_take_succ hm0] at hle
      have HS := Lib.hid (msTot_take_succ hm0)
      have hji : (j : Int) < (ms.length : Int) := by omega
      unfold mkM at hu c0
      simp only at hu c0
      clear hm0
      generalize msTot (ms.take j) = t at *
      have HH := Lib.hid (l_heldInt64S w u m.2.length (k + (t : Int) + 1) hu (by omega) (by omega) (by omega))
      generalize m.2.length = lq at *
      have hk1 : 0 ≤ k + (t : Int) + 1 + (lq : Int) := by omega
      clear hu
      go_wp2_with (go_at_call 79; refine HH.out.mono ?_; rintro e w2 ⟨rfl, rfl⟩)
      go_round
      case rel => exact ⟨j + 1, by omega, by go_num, by rw [HS.out]; push_cast; go_num⟩
      case measure => simp [intOf]; omega
    · have : j = ms.length := by omega
      subst this
      go_wp2_with fail
      go_ret
      exact ⟨by first | rfl | exact ret_int (by rw [List.take_length]), rfl⟩

set_option maxHeartbeats 4000000 in
theorem n_held_parts_f (w : World) (v : Value) (pss : List (List Mono)) (k : Int) (ho : MRows w v (markF k pss)) (hn : fTot pss ≤ 1073741824) (h0 : 0 ≤ k) (h1 : k ≤ 1073741824) :
    Calls Tryz.prog 27 #[v, .int .i64 k] w fun e w' => e = .returned (.int .i64 (k + (fTot pss : Nat))) ∧ w = w' := by
  obtain ⟨A, c, rfl, l1, l2, h3⟩ := ho.open_
  unfold markF at *
  rw [markG_len] at l1 h3 ⊢
  have H3 := Lib.hid h3
  clear h3 ho
  go_enter Tryz.func27, Tryz.ntmps27
  go_wp2_with fail
  go_loop [1, 5] (fun x i => ∃ j : Nat, j ≤ pss.length ∧ i = .int .i64 j ∧ x = .int .i64 (k + (fTot (pss.take j) : Nat))) (fun _ i => pss.length - (intOf i).toNat)
  case atStart => exact ⟨0, Nat.zero_le _, rfl, by simp [fTot]⟩
  case round =>
    obtain ⟨j, hj, rfl, rfl⟩ := hrel
    by_cases hlt : j < pss.length
    · obtain ⟨ms, hm0⟩ : ∃ ms, pss[j]? = some ms := ⟨_, List.getElem?_eq_getElem hlt⟩
      obtain ⟨ad, u, ms', rfl, hm', hu, c0⟩ := H3.out j hlt
      rw [markG_get msTot markM k pss j ms hm0, gTot_f] at hm'
      simp only [Option.some.injEq] at hm'
      subst hm'
      have hle := fTot_take_le pss (j + 1)
      rw [fTot_take_succ hm0] at hle
      have HS := Lib.hid (fTot_take_succ hm0)
      have hji : (j : Int) < (pss.length : Int) := by omega
      clear hm0
      generalize fTot (pss.take j) = t at *
      have HH := Lib.hid (n_held_monos w u ms (k + (t : Int)) hu (by omega) (by omega) (by omega))
      generalize msTot ms = lq at *
      have hk1 : 0 ≤ k + (t : Int) + (lq : Int) := by omega
      obtain ⟨Au, cu, rfl, -⟩ := hu.open_
      clear hu
      go_wp2_with (go_at_call 52; refine HH.out.mono ?_; rintro e w2 ⟨rfl, rfl⟩)
      go_round
      case rel => exact ⟨j + 1, by omega, by go_num, by rw [HS.out]; push_cast; go_num⟩
      case measure => simp [intOf]; omega
    · have : j = pss.length := by omega
      subst this
      go_wp2_with fail
      go_ret
      exact ⟨by first | rfl | exact ret_int (by rw [List.take_length]), rfl⟩
theorem n_held_field (w : World) (n : Int) (u : Value) (pss : List (List Mono)) (ho : MRows w u (markF 1 pss)) (hn : fTot pss ≤ 1073741824) :
    Calls Tryz.prog 9 #[.agg #[.int .i64 n, u], .int .i64 1] w fun e w' => e = .returned (.int .i64 (1 + (fTot pss : Nat))) ∧ Below w.heap.size w w' := by
  have HB := Lib.hid (below1 w (.cells #[.int .i64 n, u] 24))
  have HO := Lib.hid (ho.below HB.out)
  obtain ⟨A, c, rfl, -⟩ := ho.open_
  have hk1 : 0 ≤ 1 + (fTot pss : Int) := by omega
  clear ho
  go_enter Tryz.func9, Tryz.ntmps9
  go_wp2_with (go_at_call 27; go_loud (refine (n_held_parts_f _ _ pss 1 HO.out hn (by omega) (by omega)).mono ?_; rintro e w2 ⟨rfl, rfl⟩))
  go_ret
  exact ⟨rfl, HB.out⟩
end Go.Proofs.YtnnfjjadehgmeaaGreatDoor

set_option maxRecDepth 100000
set_option linter.unusedVariables false
set_option linter.unusedSimpArgs false
namespace Go.Proofs.YtnnfjjadehgmeaaGreatDoor
open Go.RowKit

set_option maxHeartbeats 1000000 in
theorem l_eqMonomial (w : World) (v v' : Value) (m m' : Mono) (ha : MonoArg w v m) (hb : MonoArg w v' m') :
    Calls Tryz.prog 77 #[v, v'] w fun e w' => e = .returned (.bool (decide (m = m'))) ∧ Below w.heap.size w w' := by
  obtain ⟨f, ps⟩ := m
  obtain ⟨f', ps'⟩ := m'
  obtain ⟨u, rfl, hf, hu⟩ := ha
  obtain ⟨u', rfl, hf', hu'⟩ := hb
  simp only at hf hu hf' hu' ⊢
  have BB := Lib.hid (below2 w (.cells #[.int .i64 f, u] 44) (.cells #[.int .i64 f', u'] 44))
  have HU := Lib.hid (hu.below BB.out)
  have HU' := Lib.hid (hu'.below BB.out)
  obtain ⟨A, c, rfl, -, -, -⟩ := hu.open_
  obtain ⟨A', c', rfl, -, -, -⟩ := hu'.open_
  clear hu hu'
  go_enter Tryz.func77, Tryz.ntmps77
  by_cases h : f = f'
  · have hb1 : (f != f') = false := by simp [h]
    have H := Lib.hid h
    clear h
    by_cases hp : ps = ps'
    · have HP := Lib.hid hp
      have hd : decide (ps = ps') = true := by simp [hp]
      clear hp
      go_wp2_with (go_at_call 95; refine (l_eqInt64S _ _ _ _ _ HU.out HU'.out).mono ?_; rintro e w1 ⟨rfl, n1, rfl⟩; rw [hd])
      go_ret
      exact ⟨ret_bool (by simp [H.out, HP.out]), below_drewN BB.out _⟩
    · have HP := Lib.hid hp
      have hd : decide (ps = ps') = false := by simp [hp]
      clear hp
      go_wp2_with (go_at_call 95; refine (l_eqInt64S _ _ _ _ _ HU.out HU'.out).mono ?_; rintro e w1 ⟨rfl, n1, rfl⟩; rw [hd])
      go_ret
      exact ⟨ret_bool (by simp [HP.out]), below_drewN BB.out _⟩
  · have hb1 : (f != f') = true := by simp [h]
    have H := Lib.hid h
    clear h
    go_wp2_with fail
    go_ret
    exact ⟨ret_bool (by simp [H.out]), BB.out⟩
end Go.Proofs.YtnnfjjadehgmeaaGreatDoor

set_option maxRecDepth 100000
set_option linter.unusedVariables false
set_option linter.unusedSimpArgs false
namespace Go.Proofs.YtnnfjjadehgmeaaGreatDoor
open Go.RowKit

theorem mtake_succ {α : Type} {xs ys : List α} {k : Nat} {x y : α} (h : xs.take k = ys.take k) (hx : xs[k]? = some x) (hy : ys[k]? = some y) (e : x = y) : xs.take (k + 1) = ys.take (k + 1) := by
  rw [List.take_add_one, List.take_add_one, h, hx, hy, e]

set_option maxHeartbeats 2000000 in
theorem l_eqMonomialS (w : World) (a b : Value) (xs ys : List Mono) (ha : Monos w a xs) (hb : Monos w b ys) :
    Calls Tryz.prog 50 #[a, b] w fun e w' => e = .returned (.bool (decide (xs = ys))) ∧ Below w.heap.size w w' := by
  obtain ⟨A, c, rfl, h1, h2, h3⟩ := ha.open_
  obtain ⟨B, d, rfl, g1, g2, g3⟩ := hb.open_
  clear ha hb
  have H3 := Lib.hid h3
  have G3 := Lib.hid g3
  clear h3 g3
  by_cases hl : xs.length = ys.length
  · have hl' : (((xs.length : Nat) : Int) != ((ys.length : Nat) : Int)) = false := by simp [hl]
    have HL := Lib.hid hl
    clear hl
    have g4 : ys.length ≤ xs.length := by rw [HL.out]; omega
    have g5 : xs.length ≤ ys.length := by rw [HL.out]; omega
    go_enter Tryz.func50, Tryz.ntmps50
    go_wp2
    go_loopw [5] (fun i wr => ∃ k : Nat, k ≤ xs.length ∧ i = .int .i64 k ∧ Hid (xs.take k = ys.take k) ∧ Below w.heap.size w wr) (fun i _ => xs.length - (intOf i).toNat)
    case atStart => exact ⟨0, Nat.zero_le _, rfl, rfl, Below.refl _ _⟩
    case round =>
      obtain ⟨k, hk, rfl, HT, hbw⟩ := hrel
      have HB := Lib.hid hbw
      clear hbw
      by_cases hlt : k < xs.length
      · obtain ⟨b1, o1, m1, u1, rfl, hx, hf1, hu1, hc1, hd1⟩ := H3.out k hlt
        obtain ⟨b2, o2, m2, u2, rfl, hy, hf2, hu2, hc2, hd2⟩ := G3.out k (by omega)
        obtain ⟨f1, p1⟩ := m1
        obtain ⟨f2, p2⟩ := m2
        simp only at hf1 hu1 hc1 hd1 hf2 hu2 hc2 hd2
        have hab1 : b1 < w.heap.size := World.block_lt_of_cell? w _ hc1
        have hab2 : b2 < w.heap.size := World.block_lt_of_cell? w _ hc2
        have q1 : wr.cell? ⟨b1, o1 + k * 2, none⟩ = some (.int .i64 f1) := by rw [HB.out.cell (by exact hab1)]; exact hc1
        have r1 : wr.cell? ⟨b1, o1 + k * 2 + 1, none⟩ = some u1 := by rw [HB.out.cell (by exact hab1)]; exact hd1
        have q2 : wr.cell? ⟨b2, o2 + k * 2, none⟩ = some (.int .i64 f2) := by rw [HB.out.cell (by exact hab2)]; exact hc2
        have r2 : wr.cell? ⟨b2, o2 + k * 2 + 1, none⟩ = some u2 := by rw [HB.out.cell (by exact hab2)]; exact hd2
        have M1 := Lib.hid ((show MonoArg w (.agg #[.int .i64 f1, u1]) (f1, p1) from ⟨_, rfl, hf1, hu1⟩).below HB.out)
        have M2 := Lib.hid ((show MonoArg w (.agg #[.int .i64 f2, u2]) (f2, p2) from ⟨_, rfl, hf2, hu2⟩).below HB.out)
        have HX := Lib.hid hx
        have HY := Lib.hid hy
        have hki : (k : Int) < (xs.length : Int) := by omega
        have hki2 : (k : Int) < (ys.length : Int) := by omega
        have hkn2 : k < ys.length := by omega
        clear hx hy hf1 hf2 hu1 hu2 hc1 hc2 hd1 hd2
        by_cases he : ((f1, p1) : Mono) = (f2, p2)
        · have hd : decide (((f1, p1) : Mono) = (f2, p2)) = true := decide_eq_true he
          have HE := Lib.hid he
          clear he
          go_wp2_with fail
          go_region_law (go_simp; go_at_call 77; refine (l_eqMonomial _ _ _ (f1, p1) (f2, p2) (by exact M1.out.below (Below.refl _ _).drew) (by exact M2.out.below (Below.refl _ _).drew)).mono ?_; rintro e w5 ⟨rfl, hb5⟩; rw [hd])
          all_goals
            have HB5 := Lib.hid (HB.out.trans ((below_of_drew hb5).mono HB.out.size))
            clear hb5 q1 q2 r1 r2
            go_wp2_with fail
            go_roundw
            case rel => exact ⟨k + 1, by omega, by go_num, mtake_succ HT.out HX.out HY.out HE.out, HB5.out⟩
            case measure => simp [intOf]; omega
        · have hd : decide (((f1, p1) : Mono) = (f2, p2)) = false := decide_eq_false he
          have HE := Lib.hid he
          clear he
          go_wp2_with fail
          go_region_law (go_simp; go_at_call 77; refine (l_eqMonomial _ _ _ (f1, p1) (f2, p2) (by exact M1.out.below (Below.refl _ _).drew) (by exact M2.out.below (Below.refl _ _).drew)).mono ?_; rintro e w5 ⟨rfl, hb5⟩; rw [hd])
          all_goals
            have HB5 := Lib.hid (HB.out.trans ((below_of_drew hb5).mono HB.out.size))
            clear hb5 q1 q2 r1 r2
            go_wp2_with fail
            go_ret
            refine ⟨ret_bool ?_, HB5.out⟩
            symm
            simp only [decide_eq_false_iff_not]
            rintro rfl
            have := HX.out.symm.trans HY.out
            simp only [Option.some.injEq] at this
            exact HE.out this
      · have : k = xs.length := by omega
        subst this
        go_wp2_with fail
        go_ret
        refine ⟨ret_bool ?_, HB.out⟩
        have e := HT.out
        rw [List.take_length, List.take_of_length_le (by omega)] at e
        simp [e]
  · have hl' : (((xs.length : Nat) : Int) != ((ys.length : Nat) : Int)) = true := by simp; omega
    have HL := Lib.hid hl
    clear hl
    go_enter Tryz.func50, Tryz.ntmps50
    go_wp2
    go_ret
    refine ⟨ret_bool ?_, Below.refl _ _⟩
    have := HL.out
    symm
    simp only [decide_eq_false_iff_not]
    rintro rfl
    exact this rfl
end Go.Proofs.YtnnfjjadehgmeaaGreatDoor

set_option maxRecDepth 100000
set_option linter.unusedVariables false
set_option linter.unusedSimpArgs false
namespace Go.Proofs.YtnnfjjadehgmeaaGreatDoor
open Go.RowKit

theorem quiet_lessF {w : World} {n : Nat} {v v' : Value} {a b : List Int} (h : Ints w v a) (h' : Ints w v' b) :
    Calls Tryz.prog 42 #[v, v'] (w.drewN n) fun e w'' => e = .returned (.bool (lessL a b)) ∧ ∃ m, w'' = w.drewN m :=
  (s_l01Less _ _ _ a b (h.drewN n) (h'.drewN n)).mono fun _ _ ⟨he, m, hm⟩ => ⟨he, n + m, by rw [hm, World.drewN_drewN]⟩

theorem factor_in (f : Int) : inR f 1 10006 = (!decide (f = 0) && isNum f) := by
  unfold isNum inR
  by_cases h : f = 0
  · subst h; decide
  · by_cases h1 : 1 ≤ f
    · have : 0 ≤ f := by omega
      simp [h, h1, this]
    · have : ¬ 0 ≤ f := by omega
      simp [h1, this]

theorem monoB_eq (n f : Int) (ps : List Int) : monoB n (f, ps) = (inR f 1 10006 && (decide ((ps.length : Int) = n) && degOk ps)) := by
  unfold monoB
  rw [factor_in]
  cases degOk ps <;> cases decide (f = 0) <;> cases isNum f <;> cases decide ((ps.length : Int) = n) <;> rfl

set_option maxHeartbeats 4000000 in
theorem s_l13Is (w : World) (v : Value) (n : Int) (pss : List (List Mono)) (ha : FieldArg w v n pss) (hs : ∀ ms ∈ pss, ∀ m ∈ ms, m.2.length ≤ 4294967296) :
    Calls Tryz.prog 19 #[v] w fun e w' => e = .returned (.bool (fieldB n pss)) ∧ Below w.heap.size w w' := by
  obtain ⟨vp, rfl, hn64, hP⟩ := ha
  obtain ⟨A, c, rfl, l1, l2, h3⟩ := hP.open_
  have H3 := Lib.hid h3
  have HS := Lib.hid hs
  clear hP h3 hs
  have B0 := Lib.hid (below1 w (.cells #[.int .i64 n, .slice A pss.length c] 24))
  have K0 := Lib.hid (Blk.new w #[.int .i64 n, .slice A pss.length c] 24)
  go_enter Tryz.func19, Tryz.ntmps19
  cases hr : inR n 1 3 with
  | false =>
    have HF := Lib.hid (show fieldB n pss = false by simp [fieldB, hr])
    go_wp2_with (go_at_call 40; refine (s_l01In _ _ _ _).mono ?_; rintro e w' ⟨rfl, rfl⟩; rw [hr])
    go_ret
    exact ⟨ret_bool HF.out.symm, B0.out⟩
  | true =>
    have HR := Lib.hid hr
    by_cases hl : (pss.length : Int) = n
    · have hlb : ((pss.length : Int) != n) = false := by simp [hl]
      have HL := Lib.hid hl
      clear hl
      go_wp2_with (go_at_call 40; refine (s_l01In _ _ _ _).mono ?_; rintro e w' ⟨rfl, rfl⟩; rw [hr])
      generalize (w.alloc (.cells #[.int .i64 n, .slice A pss.length c] 24)) = w1 at B0 K0 ⊢
      go_loopw [3] (fun i wr => ∃ j : Nat, j ≤ pss.length ∧ i = .int .i64 j ∧ Hid (∀ i ms, i < j → pss[i]? = some ms → partB n ms = true) ∧ Blk wr w.heap.size 24 #[.int .i64 n, .slice A pss.length c] ∧ Below w.heap.size w wr) (fun i _ => pss.length - (intOf i).toNat)
      case atStart => exact ⟨0, Nat.zero_le _, rfl, fun i ms h => by omega, K0.out, B0.out⟩
      case round =>
        obtain ⟨j, hj, rfl, hI, hk0, hb⟩ := hrel
        clear K0 B0
        have KW := Lib.hid hk0
        have BW := Lib.hid hb
        have g1 : wr.cell? ⟨w.heap.size, 1, none⟩ = some (.slice A pss.length c) := KW.out.cell 1
        clear hk0 hb
        by_cases hlt : j < pss.length
        · obtain ⟨ad, u, ms, rfl, hm, hu, hc0⟩ := H3.out j hlt
          obtain ⟨A5, c5, rfl, p1, p2, hu3⟩ := hu.open_
          have HU := Lib.hid hu3
          have HM := Lib.hid hm
          have HSM := Lib.hid (HS.out ms (List.mem_of_getElem? hm))
          have HCJ := Lib.hid (show ∀ W : World, Below w.heap.size w W → W.cell? (ad.add j) = some (.slice A5 ms.length c5) from fun W hW => by rw [hW.cell (by rw [block_add]; have := World.block_lt_of_cell? w _ hc0; rwa [block_add] at this)]; exact hc0)
          have hji : (j : Int) < (pss.length : Int) := by omega
          clear hm hu hc0 hu3
          go_wp2_with fail
          clear g1
          obtain ⟨wo, rfl⟩ : ∃ wo : World, wo = wr := ⟨_, rfl⟩
          go_loopw [4] (fun i wi => ∃ k : Nat, k ≤ ms.length ∧ i = .int .i64 k ∧ Hid (∀ q, q < k → badAt n ms q = false) ∧ Blk wi w.heap.size 24 #[.int .i64 n, .slice (some ad) pss.length c] ∧ Below w.heap.size w wi) (fun i _ => ms.length - (intOf i).toNat)
          case atStart => exact ⟨0, Nat.zero_le _, rfl, fun q h => by omega, KW.out, BW.out⟩
          case round =>
            obtain ⟨k, hk, rfl, hJ, hk0, hb⟩ := hrel
            clear KW BW
            have KW := Lib.hid hk0
            have BW := Lib.hid hb
            clear hk0 hb
            have g1 : wr.cell? ⟨w.heap.size, 1, none⟩ = some (.slice (some ad) pss.length c) := KW.out.cell 1
            have gj : wr.cell? (ad.add j) = some (.slice A5 ms.length c5) := HCJ.out wr BW.out
            by_cases hlt2 : k < ms.length
            · obtain ⟨bm, om, m, um, rfl, hmk, hf64, hum, hcf, hcu⟩ := HU.out k hlt2
              obtain ⟨f, ps⟩ := m
              have hab : bm < w.heap.size := World.block_lt_of_cell? w _ hcf
              have q0 : wr.cell? ⟨bm, om + k * 2, none⟩ = some (.int .i64 f) := by rw [BW.out.cell (by exact hab)]; exact hcf
              have q1 : wr.cell? ⟨bm, om + k * 2 + 1, none⟩ = some um := by rw [BW.out.cell (by exact hab)]; exact hcu
              obtain ⟨Ap, cp, rfl, hp1, hp2, -⟩ := hum.open_
              simp only at hcu hum q1 hp1
              have HUM := Lib.hid hum
              have HGK := Lib.hid (show ms.getD k (0, []) = (f, ps) by simp [List.getD, hmk])
              have hpl := HSM.out (f, ps) (List.mem_of_getElem? hmk)
              simp only at hpl
              have hki : (k : Int) < (ms.length : Int) := by omega
              have kf : (wr.alloc (.cells #[.int .i64 f, .slice Ap ps.length cp] 44)).cell? ⟨w.heap.size, 0, none⟩ = some (.int .i64 n) := (KW.out.alloc (.cells #[.int .i64 f, .slice Ap ps.length cp] 44)).cell 0
              have HUW := Lib.hid (HUM.out.below (BW.out.alloc BW.out.size (.cells #[.int .i64 f, .slice Ap ps.length cp] 44)))
              have B2 := Lib.hid (BW.out.alloc BW.out.size (.cells #[.int .i64 f, .slice Ap ps.length cp] 44))
              have K2 := Lib.hid (KW.out.alloc (.cells #[.int .i64 f, .slice Ap ps.length cp] 44))
              clear hmk hf64 hum hcf hcu
              have bad : ∀ b : Bool, monoB n (f, ps) = false → partB n ms = false := fun _ h => partB_no hlt2 (by unfold badAt; rw [HGK.out, h]; rfl)
              have BAD := Lib.hid bad
              clear bad
              have FB := Lib.hid (show monoB n (f, ps) = false → fieldB n pss = false from fun h => by rw [fieldB, parts_no HM.out (BAD.out true h)]; simp)
              cases hin : inR f 1 10006 with
              | false =>
                have HFB := Lib.hid (FB.out (by rw [monoB_eq, hin]; rfl))
                go_wp2_with (first | (go_at_call 40; refine (s_l01In _ _ _ _).mono ?_; rintro e w' ⟨rfl, rfl⟩; rw [hin]) | (go_at_call 41; refine (s_l13Degree _ _ ps HUW.out hpl).mono ?_; rintro e w' ⟨rfl, rfl⟩))
                go_ret
                exact ⟨ret_bool HFB.out.symm, B2.out⟩
              | true =>
                by_cases hl2 : (ps.length : Int) = n
                · have hlb2 : ((ps.length : Int) != n) = false := by simp [hl2]
                  have HL2 := Lib.hid hl2
                  clear hl2
                  by_cases hd : 3 < degV ps
                  · have HFB := Lib.hid (FB.out (by rw [monoB_eq, ← degV_ok]; simp; omega))
                    go_wp2_with (first | (go_at_call 40; refine (s_l01In _ _ _ _).mono ?_; rintro e w' ⟨rfl, rfl⟩; rw [hin]) | (go_at_call 41; refine (s_l13Degree _ _ ps HUW.out hpl).mono ?_; rintro e w' ⟨rfl, rfl⟩))
                    go_ret
                    exact ⟨ret_bool HFB.out.symm, B2.out⟩
                  · have HMB := Lib.hid (show monoB n (f, ps) = true by rw [monoB_eq, ← degV_ok, hin]; simp; exact ⟨HL2.out, by omega⟩)
                    by_cases hk0 : k = 0
                    · subst hk0
                      simp only [Nat.zero_mul, Nat.add_zero] at q0 q1
                      have HGD := Lib.hid (show badAt n ms 0 = false by unfold badAt; rw [HGK.out, HMB.out]; simp)
                      go_wp2_with (first | (go_at_call 40; refine (s_l01In _ _ _ _).mono ?_; rintro e w' ⟨rfl, rfl⟩; rw [hin]) | (go_at_call 41; refine (s_l13Degree _ _ ps HUW.out hpl).mono ?_; rintro e w' ⟨rfl, rfl⟩))
                      go_quiet (fail)
                      clear kf q0 q1 g1 gj
                      go_wp2_with fail
                      go_roundw
                      case rel =>
                        refine ⟨1, by omega, by go_num, fun q hq => ?_, K2.out.drewN _, below_drewN B2.out _⟩
                        have : q = 0 := by omega
                        subst this
                        exact HGD.out
                      case measure => simp [intOf]; omega
                    · obtain ⟨bq, oq, mq, uq, he, hmq, -, huq, -, hcq⟩ := HU.out (k - 1) (by omega)
                      simp only [Option.some.injEq, Addr.mk.injEq, and_true] at he
                      obtain ⟨rfl, rfl⟩ := he
                      obtain ⟨fq, qs⟩ := mq
                      obtain ⟨Aq, cq, rfl, -, -, -⟩ := huq.open_
                      simp only at hcq huq
                      have HPQ := Lib.hid (huq.below B2.out)
                      have HGQ := Lib.hid (show ms.getD (k - 1) (0, []) = (fq, qs) by simp [List.getD, hmq])
                      have HBE := Lib.hid (show badAt n ms k = !lessL qs ps by unfold badAt; rw [HGK.out, HGQ.out, HMB.out]; simp; omega)
                      have pv : (wr.alloc (.cells #[.int .i64 f, .slice Ap ps.length cp] 44)).cell? ⟨bm, om + (k - 1) * 2 + 1, none⟩ = some (.slice Aq qs.length cq) := by rw [B2.out.cell (by exact hab)]; exact hcq
                      have g1' : (wr.alloc (.cells #[.int .i64 f, .slice Ap ps.length cp] 44)).cell? ⟨w.heap.size, 1, none⟩ = some (.slice (some ad) pss.length c) := K2.out.cell 1
                      have gj' : (wr.alloc (.cells #[.int .i64 f, .slice Ap ps.length cp] 44)).cell? (ad.add j) = some (.slice (some ⟨bm, om, none⟩) ms.length c5) := HCJ.out _ B2.out
                      have hkp : (0 : Int) < (k : Int) := by omega
                      have hkn : 0 < k := by omega
                      have hkn2 : decide (0 < k) = true := by simpa using hkn
                      have hkd : decide ((0 : Int) < (k : Int)) = true := by simpa using hkp
                      have hkw : IntKind.i64.wrap ((k : Int) - 1) = (k : Int) - 1 := IntWalk.i64_in _ (by omega)
                      have hk1 : ((k : Int) - 1).toNat = k - 1 := by omega
                      have hk2 : (0 : Int) ≤ (k : Int) - 1 := by omega
                      have hk3 : (k : Int) - 1 < (ms.length : Int) := by omega
                      clear hmq huq hcq
                      cases hle : lessL qs ps with
                      | true =>
                        have HGD := Lib.hid (show badAt n ms k = false by rw [HBE.out, hle]; rfl)
                        have LT : ∀ N, Calls Tryz.prog 42 #[.slice Aq qs.length cq, .slice Ap ps.length cp] ((wr.alloc (.cells #[.int .i64 f, .slice Ap ps.length cp] 44)).drewN N) fun e w'' => e = .returned (.bool true) ∧ ∃ m, w'' = (wr.alloc (.cells #[.int .i64 f, .slice Ap ps.length cp] 44)).drewN m := fun N => by have h := quiet_lessF (w := wr.alloc (.cells #[.int .i64 f, .slice Ap ps.length cp] 44)) (n := N) HPQ.out HUW.out; rwa [hle] at h
                        go_wp2_with (first | (go_at_call 40; refine (s_l01In _ _ _ _).mono ?_; rintro e w' ⟨rfl, rfl⟩; rw [hin]) | (go_at_call 41; refine (s_l13Degree _ _ ps HUW.out hpl).mono ?_; rintro e w' ⟨rfl, rfl⟩))
                        go_quiet ((go_at_call 42; exact LT _))
                        clear kf q0 q1 g1 gj pv g1' gj'
                        go_wp2_with fail
                        go_roundw
                        case rel =>
                          refine ⟨k + 1, by omega, by go_num, fun q hq => ?_, K2.out.drewN _, below_drewN B2.out _⟩
                          by_cases e : q = k
                          · subst e; exact HGD.out
                          · exact hJ.out q (by omega)
                        case measure => simp [intOf]; omega
                      | false =>
                        have HFB := Lib.hid (show fieldB n pss = false by rw [fieldB, parts_no HM.out (partB_no hlt2 (by rw [HBE.out, hle]; rfl))]; simp)
                        have LT : ∀ N, Calls Tryz.prog 42 #[.slice Aq qs.length cq, .slice Ap ps.length cp] ((wr.alloc (.cells #[.int .i64 f, .slice Ap ps.length cp] 44)).drewN N) fun e w'' => e = .returned (.bool false) ∧ ∃ m, w'' = (wr.alloc (.cells #[.int .i64 f, .slice Ap ps.length cp] 44)).drewN m := fun N => by have h := quiet_lessF (w := wr.alloc (.cells #[.int .i64 f, .slice Ap ps.length cp] 44)) (n := N) HPQ.out HUW.out; rwa [hle] at h
                        go_wp2_with (first | (go_at_call 40; refine (s_l01In _ _ _ _).mono ?_; rintro e w' ⟨rfl, rfl⟩; rw [hin]) | (go_at_call 41; refine (s_l13Degree _ _ ps HUW.out hpl).mono ?_; rintro e w' ⟨rfl, rfl⟩))
                        go_quiet ((go_at_call 42; exact LT _))
                        clear kf q0 q1 g1 gj pv g1' gj'
                        go_wp2_with fail
                        go_ret
                        exact ⟨ret_bool HFB.out.symm, below_drewN B2.out _⟩
                · have hlb2 : ((ps.length : Int) != n) = true := by simp [hl2]
                  have HFB := Lib.hid (FB.out (by rw [monoB_eq]; simp [hl2]))
                  go_wp2_with (first | (go_at_call 40; refine (s_l01In _ _ _ _).mono ?_; rintro e w' ⟨rfl, rfl⟩; rw [hin]) | (go_at_call 41; refine (s_l13Degree _ _ ps HUW.out hpl).mono ?_; rintro e w' ⟨rfl, rfl⟩))
                  go_ret
                  exact ⟨ret_bool HFB.out.symm, B2.out⟩
            · have : k = ms.length := by omega
              subst this
              have HPB := Lib.hid (partB_all hJ.out)
              go_wp2_with fail
              go_roundw
              case rel =>
                refine ⟨j + 1, by omega, by go_num, fun i xs hi hx => ?_, KW.out, BW.out⟩
                by_cases e : i = j
                · subst e
                  rw [HM.out] at hx
                  cases hx
                  exact HPB.out
                · exact hI.out i xs (by omega) hx
              case measure => simp [intOf]; omega
        · have : j = pss.length := by omega
          subst this
          have HF := Lib.hid (show fieldB n pss = true by simp [fieldB, HR.out, HL.out, parts_all hI.out])
          go_wp2_with fail
          go_ret
          exact ⟨ret_bool HF.out.symm, BW.out⟩
    · have hlb : ((pss.length : Int) != n) = true := by simp [hl]
      have HF := Lib.hid (show fieldB n pss = false by simp [fieldB, hl])
      go_wp2_with (go_at_call 40; refine (s_l01In _ _ _ _).mono ?_; rintro e w' ⟨rfl, rfl⟩; rw [hr])
      go_ret
      exact ⟨ret_bool HF.out.symm, B0.out⟩
end Go.Proofs.YtnnfjjadehgmeaaGreatDoor

set_option maxRecDepth 100000
set_option linter.unusedVariables false
set_option linter.unusedSimpArgs false
namespace Go.Proofs.YtnnfjjadehgmeaaGreatDoor
open Go.RowKit

theorem FieldArg.below {w w' : World} {v : Value} {n : Int} {pss : List (List Mono)} (h : FieldArg w v n pss) (hb : Below w.heap.size w w') : FieldArg w' v n pss := by
  obtain ⟨vp, rfl, h1, h2⟩ := h
  exact ⟨vp, rfl, h1, h2.below hb⟩

end Go.Proofs.YtnnfjjadehgmeaaGreatDoor

set_option maxRecDepth 100000
set_option linter.unusedVariables false
set_option linter.unusedSimpArgs false
namespace Go.Proofs.YtnnfjjadehgmeaaGreatDoor
open Go.RowKit

set_option maxHeartbeats 2000000 in
theorem l_eqMonomialSS (w : World) (a b : Value) (xs ys : List (List Mono)) (ha : MRows w a xs) (hb : MRows w b ys) :
    Calls Tryz.prog 25 #[a, b] w fun e w' => e = .returned (.bool (decide (xs = ys))) ∧ Below w.heap.size w w' := by
  obtain ⟨A, c, rfl, h1, h2, h3⟩ := ha.open_
  obtain ⟨B, d, rfl, g1, g2, g3⟩ := hb.open_
  clear ha hb
  have H3 := Lib.hid h3
  have G3 := Lib.hid g3
  clear h3 g3
  by_cases hl : xs.length = ys.length
  · have hl' : (((xs.length : Nat) : Int) != ((ys.length : Nat) : Int)) = false := by simp [hl]
    have HL := Lib.hid hl
    clear hl
    have g4 : ys.length ≤ xs.length := by rw [HL.out]; omega
    have g5 : xs.length ≤ ys.length := by rw [HL.out]; omega
    go_enter Tryz.func25, Tryz.ntmps25
    go_wp2
    go_loopw [5] (fun i wr => ∃ k : Nat, k ≤ xs.length ∧ i = .int .i64 k ∧ Hid (xs.take k = ys.take k) ∧ Below w.heap.size w wr) (fun i _ => xs.length - (intOf i).toNat)
    case atStart => exact ⟨0, Nat.zero_le _, rfl, rfl, Below.refl _ _⟩
    case round =>
      obtain ⟨k, hk, rfl, HT, hbw⟩ := hrel
      have HB := Lib.hid hbw
      clear hbw
      by_cases hlt : k < xs.length
      · obtain ⟨ad1, u1, m1, rfl, hx, hu1, hc1⟩ := H3.out k hlt
        obtain ⟨ad2, u2, m2, rfl, hy, hu2, hc2⟩ := G3.out k (by omega)
        have q1 : wr.cell? (ad1.add k) = some u1 := by rw [HB.out.cell (by rw [block_add]; have := World.block_lt_of_cell? w _ hc1; rwa [block_add] at this)]; exact hc1
        have q2 : wr.cell? (ad2.add k) = some u2 := by rw [HB.out.cell (by rw [block_add]; have := World.block_lt_of_cell? w _ hc2; rwa [block_add] at this)]; exact hc2
        have M1 := Lib.hid (hu1.below HB.out)
        have M2 := Lib.hid (hu2.below HB.out)
        have HX := Lib.hid hx
        have HY := Lib.hid hy
        have hki : (k : Int) < (xs.length : Int) := by omega
        have hki2 : (k : Int) < (ys.length : Int) := by omega
        have hkn2 : k < ys.length := by omega
        clear hx hy hu1 hu2 hc1 hc2
        by_cases he : m1 = m2
        · have hd : decide (m1 = m2) = true := decide_eq_true he
          have HE := Lib.hid he
          clear he
          go_wp2_with fail
          go_region_law (go_simp; go_at_call 50; refine (l_eqMonomialS _ _ _ m1 m2 (by exact M1.out.below (Below.refl _ _).drew) (by exact M2.out.below (Below.refl _ _).drew)).mono ?_; rintro e w5 ⟨rfl, hb5⟩; rw [hd])
          all_goals
            have HB5 := Lib.hid (HB.out.trans ((below_of_drew hb5).mono HB.out.size))
            clear hb5 q1 q2
            go_wp2_with fail
            go_roundw
            case rel => exact ⟨k + 1, by omega, by go_num, mtake_succ HT.out HX.out HY.out HE.out, HB5.out⟩
            case measure => simp [intOf]; omega
        · have hd : decide (m1 = m2) = false := decide_eq_false he
          have HE := Lib.hid he
          clear he
          go_wp2_with fail
          go_region_law (go_simp; go_at_call 50; refine (l_eqMonomialS _ _ _ m1 m2 (by exact M1.out.below (Below.refl _ _).drew) (by exact M2.out.below (Below.refl _ _).drew)).mono ?_; rintro e w5 ⟨rfl, hb5⟩; rw [hd])
          all_goals
            have HB5 := Lib.hid (HB.out.trans ((below_of_drew hb5).mono HB.out.size))
            clear hb5 q1 q2
            go_wp2_with fail
            go_ret
            refine ⟨ret_bool ?_, HB5.out⟩
            symm
            simp only [decide_eq_false_iff_not]
            rintro rfl
            have := HX.out.symm.trans HY.out
            simp only [Option.some.injEq] at this
            exact HE.out this
      · have : k = xs.length := by omega
        subst this
        go_wp2_with fail
        go_ret
        refine ⟨ret_bool ?_, HB.out⟩
        have e := HT.out
        rw [List.take_length, List.take_of_length_le (by omega)] at e
        simp [e]
  · have hl' : (((xs.length : Nat) : Int) != ((ys.length : Nat) : Int)) = true := by simp; omega
    have HL := Lib.hid hl
    clear hl
    go_enter Tryz.func25, Tryz.ntmps25
    go_wp2
    go_ret
    refine ⟨ret_bool ?_, Below.refl _ _⟩
    have := HL.out
    symm
    simp only [decide_eq_false_iff_not]
    rintro rfl
    exact this rfl

set_option maxHeartbeats 1000000 in
theorem l_eqField (w : World) (v v' : Value) (n n' : Int) (pss pss' : List (List Mono)) (ha : FieldArg w v n pss) (hb : FieldArg w v' n' pss') :
    Calls Tryz.prog 7 #[v, v'] w fun e w' => e = .returned (.bool (decide (n = n') && decide (pss = pss'))) ∧ Below w.heap.size w w' := by
  obtain ⟨u, rfl, hf, hu⟩ := ha
  obtain ⟨u', rfl, hf', hu'⟩ := hb
  have BB := Lib.hid (below2 w (.cells #[.int .i64 n, u] 24) (.cells #[.int .i64 n', u'] 24))
  have HU := Lib.hid (hu.below BB.out)
  have HU' := Lib.hid (hu'.below BB.out)
  obtain ⟨A, c, rfl, -, -, -⟩ := hu.open_
  obtain ⟨A', c', rfl, -, -, -⟩ := hu'.open_
  clear hu hu'
  go_enter Tryz.func7, Tryz.ntmps7
  by_cases h : n = n'
  · have hb1 : (n != n') = false := by simp [h]
    have H := Lib.hid h
    clear h
    by_cases hp : pss = pss'
    · have HP := Lib.hid hp
      have hd : decide (pss = pss') = true := by simp [hp]
      clear hp
      go_wp2_with (go_at_call 25; refine (l_eqMonomialSS _ _ _ _ _ HU.out HU'.out).mono ?_; rintro e w1 ⟨rfl, hb5⟩; rw [hd])
      go_ret
      exact ⟨ret_bool (by simp [H.out, HP.out]), BB.out.trans (hb5.mono BB.out.size)⟩
    · have HP := Lib.hid hp
      have hd : decide (pss = pss') = false := by simp [hp]
      clear hp
      go_wp2_with (go_at_call 25; refine (l_eqMonomialSS _ _ _ _ _ HU.out HU'.out).mono ?_; rintro e w1 ⟨rfl, hb5⟩; rw [hd])
      go_ret
      exact ⟨ret_bool (by simp [HP.out]), BB.out.trans (hb5.mono BB.out.size)⟩
  · have hb1 : (n != n') = true := by simp [h]
    have H := Lib.hid h
    clear h
    go_wp2_with fail
    go_ret
    exact ⟨ret_bool (by simp [H.out]), BB.out⟩
end Go.Proofs.YtnnfjjadehgmeaaGreatDoor

set_option maxRecDepth 100000
set_option linter.unusedVariables false
set_option linter.unusedSimpArgs false
namespace Go.Proofs.YtnnfjjadehgmeaaGreatDoor
open Go.RowKit

/-- a list of lists of monomials of one's own, in blocks that are there -/
def FdO (w : World) (B C : Nat) (u : Value) (r : List (List Mono)) : Prop := C ≤ w.heap.size ∧ PF w B C u r
section
variable {w w' : World} {B C B' C' : Nat} {u : Value} {r : List (List Mono)}
theorem FdO.below (h : FdO w B C u r) (hb : Below w.heap.size w w') : FdO w' B C u r := ⟨Nat.le_trans h.1 hb.size, h.2.agree (Same.of_below hb h.1)⟩
theorem FdO.kept (h : FdO w B C u r) (hc : Chg B' C' w w') (hd : C ≤ B' ∨ C' ≤ B) : FdO w' B C u r := ⟨Nat.le_trans h.1 hc.size, h.2.agree (Same.of_chg hc h.1 hd)⟩
theorem FdO.mrows (h : FdO w B C u r) : MRows w u r := h.2.mrows
end
theorem n_eq_field (w : World) (u u' : Value) (n : Int) (r : List (List Mono)) (hn : In64 n) (h : MRows w u r) (h' : MRows w u' r) :
    Calls Tryz.prog 7 #[.agg #[.int .i64 n, u], .agg #[.int .i64 n, u']] w fun e w' => e = .returned (.bool true) ∧ Below w.heap.size w w' := by
  refine (l_eqField w _ _ n n r r ⟨u, rfl, hn, h⟩ ⟨u', rfl, hn, h'⟩).mono ?_
  rintro e w' ⟨rfl, hb⟩
  exact ⟨by simp, hb⟩
theorem n_mark_fieldO (w : World) (B C : Nat) (n : Int) (u : Value) (r : List (List Mono)) (k : Int) (ho : FdO w B C u r) (hn : fTot r ≤ 1073741824) (h0 : 0 ≤ k) (h1 : k ≤ 1073741824) :
    Calls Tryz.prog 8 #[.agg #[.int .i64 n, u], .int .i64 k] w fun e w' => e = .returned (.int .i64 (k + (fTot r : Nat))) ∧ FdO w' B C u (markF k r) ∧ Chg B C w w' := by
  refine (n_mark_field w B C n u r k ho.2 ho.1 hn h0 h1).mono ?_
  rintro e w' ⟨rfl, h2, h3⟩
  exact ⟨rfl, ⟨Nat.le_trans ho.1 h3.size, h2⟩, h3⟩
end Go.Proofs.YtnnfjjadehgmeaaGreatDoor

set_option maxRecDepth 100000
set_option linter.unusedVariables false
set_option linter.unusedSimpArgs false
namespace Go.Proofs.YtnnfjjadehgmeaaGreatDoor
open Go.RowKit

end Go.Proofs.YtnnfjjadehgmeaaGreatDoor

