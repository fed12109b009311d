/- Walks: SubstitutionPower of the program and of the reference. | Plain: powers by substitution add their exponents. No walk. | The law FnSubstitutionPowers, walked. -/
import Derived.Test.YtngdpoeondnchaaGreatR38
import Derived.Test.YtngdpoeondnchaaGreatR29
import Derived.Test.YtngdpoeondnchaaGreatR34
import Derived.Test.YtngdpoeondnchaaGreatR35
set_option maxRecDepth 100000
set_option linter.unusedVariables false
set_option linter.unusedSimpArgs false
namespace Go.Proofs.YtngdpoeondnchaaGreat
open Go.RowKit

def itS (b : List Int) : Nat → List Int
  | 0 => unitL
  | n + 1 => subZ b (itS b n)
theorem itS_len (b : List Int) (n : Nat) : (itS b n).length = 38 := by
  cases n with
  | zero => rfl
  | succ n => exact subZ_len _ _
theorem itS_nums (b : List Int) (n : Nat) : Nums (itS b n) := by
  induction n with
  | zero => exact fun z h => unitL_nums z h
  | succ n ih => exact subZ_nums ih
def spwC (b : List Int) (k : Int) : Int := if mapB b = true then (if inR k (-20) 20 = true then (if b.getD 0 0 = 0 ∧ ¬ (k < 0 ∧ b.getD 1 0 = 0) then 0 else 5) else 2) else 1
def spwB (b : List Int) (k : Int) : List Int := if k < 0 then invZ b else b
def spwR (b : List Int) (k : Int) : List Int := if spwC b k = 0 then itS (spwB b k) k.natAbs else []
theorem spwC_zero {b : List Int} {k : Int} (h : spwC b k = 0) : mapB b = true ∧ inR k (-20) 20 = true ∧ b.getD 0 0 = 0 ∧ ¬ (k < 0 ∧ b.getD 1 0 = 0) := by
  unfold spwC at h
  split at h
  · next h1 =>
    split at h
    · next h2 =>
      split at h
      · next h3 => exact ⟨h1, h2, h3.1, h3.2⟩
      · cases h
    · cases h
  · cases h
theorem inR_bd {k : Int} (h : inR k (-20) 20 = true) : -20 ≤ k ∧ k ≤ 20 := by
  unfold inR at h
  simpa using h

set_option maxHeartbeats 8000000 in
theorem i_SubstitutionPower (w : World) (v : Value) (b : List Int) (k : Int) (h1 : Ints w v b) (hk64 : In64 k) :
    Calls Tryz.prog 48 #[v, .int .i64 k] w fun e w' => ∃ x, e = .returned (.tuple #[x, .int .i64 (spwC b k)]) ∧ OwnInts w' w.heap.size tI x (spwR b k) ∧ Below w.heap.size w w' := by
  have HCH := Lib.hid (i_IsMap w v b h1)
  have HIR := Lib.hid (fun W => i_inRange k (-20) 20 W)
  have HB1 := Lib.hid h1
  obtain ⟨Ab, cb, rfl, -, -, -⟩ := h1.open_
  cases hm : mapB b with
  | false =>
    rw [hm] at HCH
    have HC := Lib.hid (show spwC b k = 1 from by unfold spwC; rw [hm]; rfl)
    have HR := Lib.hid (show spwR b k = [] from by rw [spwR, HC.out]; rfl)
    clear hm h1
    go_enter Tryz.func48, Tryz.ntmps48
    go_wp2_with (go_at_call 76; refine HCH.out.mono ?_; rintro e w0 ⟨rfl, rfl⟩)
    go_ret2
    rw [HC.out, HR.out]
    exact ⟨_, rfl, OwnInts.nil _ _ _, Below.refl _ _⟩
  | true =>
    rw [hm] at HCH
    cases hr : inR k (-20) 20 with
    | false =>
      rw [hr] at HIR
      have HC := Lib.hid (show spwC b k = 2 from by unfold spwC; rw [hm, hr]; rfl)
      have HR := Lib.hid (show spwR b k = [] from by rw [spwR, HC.out]; rfl)
      clear hm hr h1
      go_enter Tryz.func48, Tryz.ntmps48
      go_wp2_with (first
        | (go_at_call 76; refine HCH.out.mono ?_; rintro e w0 ⟨rfl, rfl⟩)
        | (go_at_call 104; refine (HIR.out _).mono ?_; rintro e w0 ⟨rfl, rfl⟩))
      go_ret2
      rw [HC.out, HR.out]
      exact ⟨_, rfl, OwnInts.nil _ _ _, Below.refl _ _⟩
    | true =>
      rw [hr] at HIR
      obtain ⟨hk1, hk2⟩ := inR_bd hr
      obtain ⟨l1, n1⟩ := mapB_true hm
      rw [l1] at h1 HB1 HCH ⊢
      obtain ⟨ad, rfl, hc0, -, -⟩ := map_cell h1 n1 (k := 0) (by omega)
      have hc0 : w.cell? ad = some (.int .i64 (b.getD 0 0)) := by simpa [Addr.add] using hc0
      have hc1 := map_one h1 n1
      have HLB := Lib.hid l1
      have HNB := Lib.hid (show Nums b from n1)
      obtain ⟨y0, hy0⟩ : ∃ y0, y0 = b.getD 0 0 := ⟨_, rfl⟩
      obtain ⟨y1, hy1⟩ : ∃ y1, y1 = b.getD 1 0 := ⟨_, rfl⟩
      rw [← hy0] at hc0
      rw [← hy1] at hc1
      by_cases hz0 : y0 = 0
      · have hd0 : (y0 != 0) = false := by simp [hz0]
        by_cases hbad : k < 0 ∧ y1 = 0
        · obtain ⟨hkn, hz1⟩ := hbad
          have hdk : decide (k < 0) = true := decide_eq_true hkn
          have hd1 : (y1 == 0) = true := by simp [hz1]
          have HC := Lib.hid (show spwC b k = 5 from by unfold spwC; rw [if_pos hm, if_pos hr, if_neg (fun h => h.2 ⟨hkn, by rw [← hy1]; exact hz1⟩)])
          have HR := Lib.hid (show spwR b k = [] from by rw [spwR, HC.out]; rfl)
          clear hm hr h1 hy0 hy1 hz0 hz1 l1 n1
          go_enter Tryz.func48, Tryz.ntmps48
          go_wp2_with (first
            | (go_at_call 76; refine HCH.out.mono ?_; rintro e w0 ⟨rfl, rfl⟩)
            | (go_at_call 104; refine (HIR.out _).mono ?_; rintro e w0 ⟨rfl, rfl⟩))
          go_ret2
          rw [HC.out, HR.out]
          exact ⟨_, rfl, OwnInts.nil _ _ _, Below.refl _ _⟩
        · have HC := Lib.hid (show spwC b k = 0 from by unfold spwC; rw [if_pos hm, if_pos hr, if_pos ⟨by rw [← hy0]; exact hz0, by rw [← hy1]; exact hbad⟩])
          have HR := Lib.hid (show spwR b k = itS (spwB b k) k.natAbs from by rw [spwR, HC.out]; rfl)
          have hcond : (decide (k < 0) = false) ∨ (decide (k < 0) = true ∧ (y1 == 0) = false) := by
            by_cases hkn : k < 0
            · refine .inr ⟨decide_eq_true hkn, ?_⟩
              have : ¬ y1 = 0 := fun h => hbad ⟨hkn, h⟩
              simp [this]
            · exact .inl (decide_eq_false hkn)
          clear hm hr h1 hy0 hy1 hz0 l1 n1 hbad
          go_enter Tryz.func48, Tryz.ntmps48
          go_upto_region 5 with (first
            | (go_at_call 76; refine HCH.out.mono ?_; rintro e w0 ⟨rfl, rfl⟩)
            | (go_at_call 104; refine (HIR.out _).mono ?_; rintro e w0 ⟨rfl, rfl⟩))
          go_cut [17] (fun x wx => x = .bool false ∧ w = wx)
          case first =>
            rcases hcond with hk0 | ⟨hk0, hd1⟩
            · go_wp2_with fail
              go_meet
              exact ⟨rfl, rfl⟩
            · go_wp2_with fail
              go_meet
              exact ⟨rfl, rfl⟩
          case rest =>
            obtain ⟨rfl, rfl⟩ := hcut
            clear hcond hd0 hc0 hc1
            go_upto_if 37 with (first
              | (go_at_call 56; go_loud (refine (i_newForms _).mono ?_; rintro e w1 ⟨f, rfl, hf, hb1⟩; obtain ⟨Af, cf, Ay, my, cy, rfl, hrf⟩ := hf.opens; have HRF := Lib.hid hrf; have HB1W := Lib.hid hb1; clear hf hrf hb1))
              | (go_at_call 42; go_loud (refine (i_SubstitutionUnit _).mono ?_; rintro e w2 ⟨x2, rfl, ho2, hb2⟩; have HO2 := Lib.hid ho2; have HB2 := Lib.hid (HB1W.out.trans (hb2.mono HB1W.out.size)); have HB12 := Lib.hid hb2; clear ho2 hb2))
              | (go_at_call 55; go_loud (refine (i_mapPartitions _ _ Ay my cy ((HRF.out.below HB12.out).below (below1 w2 _))).mono ?_; rintro e w3 ⟨x3, rfl, hp3, hb3⟩; have HP3 := Lib.hid hp3; have HB3 := Lib.hid ((below1 w2 (.cells #[.slice Af 37 cf, .slice Ay my cy] tFo)).trans (hb3.mono (by simp))); have HK3 := Lib.hid ((Blk.new w2 #[.slice Af 37 cf, .slice Ay my cy] tFo).below hb3 (by simp)); clear hp3 hb3)))
            have HBW := Lib.hid (HB2.out.trans (HB3.out.mono HB2.out.size))
            have HR3 := Lib.hid ((HRF.out.below HB12.out).below HB3.out)
            have HO3 := Lib.hid (HO2.out.below HB3.out)
            have HA3 := Lib.hid (HB1.out.below HBW.out)
            have k1 : w3.cell? ⟨w2.heap.size, 0, none⟩ = some (.slice Af 37 cf) := HK3.out.cell 0
            have k2 : w3.cell? ⟨w2.heap.size, 1, none⟩ = some (.slice Ay my cy) := HK3.out.cell 1
            go_cut [0, 1] (fun vb vk wx => vk = .int .i64 (k.natAbs : Nat) ∧ Ints wx vb (spwB b k) ∧ Below w3.heap.size w3 wx)
            case first =>
              by_cases hkn : k < 0
              · have hdk : decide (k < 0) = true := decide_eq_true hkn
                have hneg : IntKind.i64.wrap (-k) = -k := IntWalk.i64_in _ (by omega)
                have HNE := Lib.hid (show -k = ((k.natAbs : Nat) : Int) from by omega)
                have HSB := Lib.hid (show spwB b k = invZ b from if_pos hkn)
                go_wp2_with (go_at_call 93; go_loud (refine (i_substitutionInverse w3 (.slice Af 37 cf) x3 _ Ay my cy _ b HR3.out HP3.out HA3.out HLB.out HNB.out).mono ?_; rintro e w7 ⟨x7, rfl, ho7, hb7⟩; have HO7 := Lib.hid ho7; have HB7 := Lib.hid hb7; clear ho7 hb7))
                go_meet
                exact ⟨by rw [HNE.out], by rw [HSB.out]; exact HO7.out.ints, HB7.out⟩
              · have hdk : decide (k < 0) = false := decide_eq_false hkn
                have HSB := Lib.hid (show spwB b k = b from if_neg hkn)
                have HNE := Lib.hid (show k = ((k.natAbs : Nat) : Int) from by omega)
                go_wp2_with fail
                go_meet
                exact ⟨by rw [← HNE.out], by rw [HSB.out]; exact HA3.out, Below.refl _ _⟩
            case rest =>
              obtain ⟨rfl, hb, hbw⟩ := hcut
              have HBI := Lib.hid hb
              have HBC := Lib.hid hbw
              have HBL := Lib.hid (show (spwB b k).length = 38 from by unfold spwB invZ; split; exact filS_len _ _; exact HLB.out)
              have HBN := Lib.hid (show Nums (spwB b k) from by unfold spwB; split; exact invZ_nums b; exact HNB.out)
              obtain ⟨bb, hbb⟩ : ∃ bb, bb = spwB b k := ⟨_, rfl⟩
              rw [← hbb] at HBI HBL HBN
              have HBB := Lib.hid hbb
              obtain ⟨n, hn⟩ : ∃ n, n = k.natAbs := ⟨_, rfl⟩
              rw [← hn]
              have HN := Lib.hid hn
              have hn20 : n ≤ 20 := by omega
              obtain ⟨A5, c5, he5, -, -, -⟩ := hb.open_
              subst he5
              rw [← hbb, HBL.out] at HBI ⊢
              have HOC := Lib.hid (HO3.out.below hbw)
              have HPC := Lib.hid (HP3.out.below hbw)
              clear hb hbw k1 k2 hbb hn hk1 hk2
              go_wp2_with fail
              go_loopw [7, 45] (fun o x wr => ∃ i : Nat, i ≤ n ∧ x = .int .i64 i ∧ OwnInts wr w.heap.size tI o (itS bb i) ∧ Below wc.heap.size wc wr) (fun _ x _ => n - (intOf x).toNat)
              case atStart => exact ⟨0, Nat.zero_le _, rfl, HOC.out.mono HB1W.out.size, Below.refl _ _⟩
              case round =>
                obtain ⟨i, hi, rfl, ho, hb⟩ := hrel
                have HO := Lib.hid ho
                have HB := Lib.hid hb
                obtain ⟨Ao, co, heo, -, -, -⟩ := ho.ints.open_
                rw [itS_len] at heo
                subst heo
                clear ho hb
                by_cases hlt : i < n
                · have hii : (i : Int) < (n : Int) := by omega
                  have HLI := Lib.hid (itS_len bb i)
                  have HNI := Lib.hid (itS_nums bb i)
                  have HSS := Lib.hid (show itS bb (i + 1) = subZ bb (itS bb i) from rfl)
                  go_wp2_with (go_at_call 54; go_loud (refine (i_substituted _ _ _ _ _ bb (itS bb i) (HPC.out.below HB.out) (HBI.out.below HB.out) HBL.out HBN.out HO.out.ints HLI.out HNI.out).mono ?_; rintro e w9 ⟨x9, rfl, ho9, hb9⟩; have HO9 := Lib.hid ho9; have HB9 := Lib.hid hb9; clear ho9 hb9))
                  go_roundw
                  case rel => exact ⟨i + 1, by omega, by go_num, by rw [HSS.out]; exact HO9.out.mono (Nat.le_trans HBW.out.size (Nat.le_trans HBC.out.size HB.out.size)), HB.out.trans (HB9.out.mono HB.out.size)⟩
                  case measure => simp [intOf]; omega
                · have hin : i = n := by omega
                  subst hin
                  have hii : ¬ (i : Int) < (i : Int) := by omega
                  go_wp2_with fail
                  go_ret2
                  rw [HC.out, HR.out, ← HBB.out, ← HN.out]
                  exact ⟨_, rfl, HO.out, (HBW.out.trans (HBC.out.mono HBW.out.size)).trans (HB.out.mono (Nat.le_trans HBW.out.size HBC.out.size))⟩
      · have hd0 : (y0 != 0) = true := by simp [hz0]
        have HC := Lib.hid (show spwC b k = 5 from by unfold spwC; rw [if_pos hm, if_pos hr, if_neg (fun h => hz0 (by rw [hy0]; exact h.1))])
        have HR := Lib.hid (show spwR b k = [] from by rw [spwR, HC.out]; rfl)
        clear hm hr h1 hy0 hy1 hz0 l1 n1
        go_enter Tryz.func48, Tryz.ntmps48
        go_wp2_with (first
          | (go_at_call 76; refine HCH.out.mono ?_; rintro e w0 ⟨rfl, rfl⟩)
          | (go_at_call 104; refine (HIR.out _).mono ?_; rintro e w0 ⟨rfl, rfl⟩))
        go_ret2
        rw [HC.out, HR.out]
        exact ⟨_, rfl, OwnInts.nil _ _ _, Below.refl _ _⟩
set_option maxHeartbeats 8000000 in
theorem s_SubstitutionPower (w : World) (v : Value) (b : List Int) (k : Int) (h1 : Ints w v b) (hk64 : In64 k) :
    Calls Tryz.prog 49 #[v, .int .i64 k] w fun e w' => ∃ x, e = .returned (.tuple #[x, .int .i64 (spwC b k)]) ∧ OwnInts w' w.heap.size tI x (spwR b k) ∧ Below w.heap.size w w' := by
  have HCH := Lib.hid (s_l14Map w v b h1)
  have HIR := Lib.hid (fun W => s_l01In k (-20) 20 W)
  have HB1 := Lib.hid h1
  obtain ⟨Ab, cb, rfl, -, -, -⟩ := h1.open_
  cases hm : mapB b with
  | false =>
    rw [hm] at HCH
    have HC := Lib.hid (show spwC b k = 1 from by unfold spwC; rw [hm]; rfl)
    have HR := Lib.hid (show spwR b k = [] from by rw [spwR, HC.out]; rfl)
    clear hm h1
    go_enter Tryz.func49, Tryz.ntmps49
    go_wp2_with (go_at_call 105; refine HCH.out.mono ?_; rintro e w0 ⟨rfl, rfl⟩)
    go_ret2
    rw [HC.out, HR.out]
    exact ⟨_, rfl, OwnInts.nil _ _ _, Below.refl _ _⟩
  | true =>
    rw [hm] at HCH
    cases hr : inR k (-20) 20 with
    | false =>
      rw [hr] at HIR
      have HC := Lib.hid (show spwC b k = 2 from by unfold spwC; rw [hm, hr]; rfl)
      have HR := Lib.hid (show spwR b k = [] from by rw [spwR, HC.out]; rfl)
      clear hm hr h1
      go_enter Tryz.func49, Tryz.ntmps49
      go_wp2_with (first
        | (go_at_call 105; refine HCH.out.mono ?_; rintro e w0 ⟨rfl, rfl⟩)
        | (go_at_call 83; refine (HIR.out _).mono ?_; rintro e w0 ⟨rfl, rfl⟩))
      go_ret2
      rw [HC.out, HR.out]
      exact ⟨_, rfl, OwnInts.nil _ _ _, Below.refl _ _⟩
    | true =>
      rw [hr] at HIR
      obtain ⟨hk1, hk2⟩ := inR_bd hr
      obtain ⟨l1, n1⟩ := mapB_true hm
      rw [l1] at h1 HB1 HCH ⊢
      obtain ⟨ad, rfl, hc0, -, -⟩ := map_cell h1 n1 (k := 0) (by omega)
      have hc0 : w.cell? ad = some (.int .i64 (b.getD 0 0)) := by simpa [Addr.add] using hc0
      have hc1 := map_one h1 n1
      have HLB := Lib.hid l1
      have HNB := Lib.hid (show Nums b from n1)
      obtain ⟨y0, hy0⟩ : ∃ y0, y0 = b.getD 0 0 := ⟨_, rfl⟩
      obtain ⟨y1, hy1⟩ : ∃ y1, y1 = b.getD 1 0 := ⟨_, rfl⟩
      rw [← hy0] at hc0
      rw [← hy1] at hc1
      by_cases hz0 : y0 = 0
      · have hd0 : (y0 != 0) = false := by simp [hz0]
        by_cases hbad : k < 0 ∧ y1 = 0
        · obtain ⟨hkn, hz1⟩ := hbad
          have hdk : decide (k < 0) = true := decide_eq_true hkn
          have hd1 : (y1 == 0) = true := by simp [hz1]
          have HC := Lib.hid (show spwC b k = 5 from by unfold spwC; rw [if_pos hm, if_pos hr, if_neg (fun h => h.2 ⟨hkn, by rw [← hy1]; exact hz1⟩)])
          have HR := Lib.hid (show spwR b k = [] from by rw [spwR, HC.out]; rfl)
          clear hm hr h1 hy0 hy1 hz0 hz1 l1 n1
          go_enter Tryz.func49, Tryz.ntmps49
          go_wp2_with (first
            | (go_at_call 105; refine HCH.out.mono ?_; rintro e w0 ⟨rfl, rfl⟩)
            | (go_at_call 83; refine (HIR.out _).mono ?_; rintro e w0 ⟨rfl, rfl⟩))
          go_ret2
          rw [HC.out, HR.out]
          exact ⟨_, rfl, OwnInts.nil _ _ _, Below.refl _ _⟩
        · have HC := Lib.hid (show spwC b k = 0 from by unfold spwC; rw [if_pos hm, if_pos hr, if_pos ⟨by rw [← hy0]; exact hz0, by rw [← hy1]; exact hbad⟩])
          have HR := Lib.hid (show spwR b k = itS (spwB b k) k.natAbs from by rw [spwR, HC.out]; rfl)
          have hcond : (decide (k < 0) = false) ∨ (decide (k < 0) = true ∧ (y1 == 0) = false) := by
            by_cases hkn : k < 0
            · refine .inr ⟨decide_eq_true hkn, ?_⟩
              have : ¬ y1 = 0 := fun h => hbad ⟨hkn, h⟩
              simp [this]
            · exact .inl (decide_eq_false hkn)
          clear hm hr h1 hy0 hy1 hz0 l1 n1 hbad
          go_enter Tryz.func49, Tryz.ntmps49
          go_upto_region 5 with (first
            | (go_at_call 105; refine HCH.out.mono ?_; rintro e w0 ⟨rfl, rfl⟩)
            | (go_at_call 83; refine (HIR.out _).mono ?_; rintro e w0 ⟨rfl, rfl⟩))
          go_cut [26] (fun x wx => x = .bool false ∧ w = wx)
          case first =>
            rcases hcond with hk0 | ⟨hk0, hd1⟩
            · go_wp2_with fail
              go_meet
              exact ⟨rfl, rfl⟩
            · go_wp2_with fail
              go_meet
              exact ⟨rfl, rfl⟩
          case rest =>
            obtain ⟨rfl, rfl⟩ := hcut
            clear hcond hd0 hc0 hc1
            have HIV := Lib.hid (s_l16Inverse w _ b HB1.out HLB.out HNB.out)
            go_upto_if 28 with fail
            go_cut [0, 1] (fun vb vk wx => vk = .int .i64 (k.natAbs : Nat) ∧ Ints wx vb (spwB b k) ∧ Below w.heap.size w wx)
            case first =>
              by_cases hkn : k < 0
              · have hdk : decide (k < 0) = true := decide_eq_true hkn
                have hneg : IntKind.i64.wrap (-k) = -k := IntWalk.i64_in _ (by omega)
                have HNE := Lib.hid (show -k = ((k.natAbs : Nat) : Int) from by omega)
                have HSB := Lib.hid (show spwB b k = invZ b from if_pos hkn)
                go_wp2_with (go_at_call 106; go_loud (refine HIV.out.mono ?_; rintro e w7 ⟨x7, rfl, ho7, hb7⟩; have HO7 := Lib.hid ho7; have HB7 := Lib.hid hb7; clear ho7 hb7))
                go_meet
                exact ⟨by rw [HNE.out], by rw [HSB.out]; exact HO7.out.ints, HB7.out⟩
              · have hdk : decide (k < 0) = false := decide_eq_false hkn
                have HSB := Lib.hid (show spwB b k = b from if_neg hkn)
                have HNE := Lib.hid (show k = ((k.natAbs : Nat) : Int) from by omega)
                go_wp2_with fail
                go_meet
                exact ⟨by rw [← HNE.out], by rw [HSB.out]; exact HB1.out, Below.refl _ _⟩
            case rest =>
              obtain ⟨rfl, hb, hbw⟩ := hcut
              have HBI := Lib.hid hb
              have HBC := Lib.hid hbw
              have HBL := Lib.hid (show (spwB b k).length = 38 from by unfold spwB invZ; split; exact filS_len _ _; exact HLB.out)
              have HBN := Lib.hid (show Nums (spwB b k) from by unfold spwB; split; exact invZ_nums b; exact HNB.out)
              obtain ⟨bb, hbb⟩ : ∃ bb, bb = spwB b k := ⟨_, rfl⟩
              rw [← hbb] at HBI HBL HBN
              have HBB := Lib.hid hbb
              obtain ⟨n, hn⟩ : ∃ n, n = k.natAbs := ⟨_, rfl⟩
              rw [← hn]
              have HN := Lib.hid hn
              have hn20 : n ≤ 20 := by omega
              obtain ⟨A5, c5, he5, -, -, -⟩ := hb.open_
              subst he5
              rw [← hbb, HBL.out] at HBI ⊢
              clear hb hbw hbb hn hk1 hk2
              go_wp2_with (go_at_call 107; go_loud (refine (s_SubstitutionUnit _).mono ?_; rintro e w2 ⟨x2, rfl, ho2, hb2⟩; have HO2 := Lib.hid ho2; have HB2 := Lib.hid hb2; clear ho2 hb2))
              go_loopw [1, 6] (fun x o wr => ∃ i : Nat, i ≤ n ∧ x = .int .i64 ((n - i : Nat) : Int) ∧ OwnInts wr w.heap.size tI o (itS bb i) ∧ Below wc.heap.size wc wr) (fun x _ _ => (intOf x).toNat)
              case atStart => exact ⟨0, Nat.zero_le _, rfl, HO2.out.mono HBC.out.size, HB2.out⟩
              case round =>
                obtain ⟨i, hi, rfl, ho, hb⟩ := hrel
                have HO := Lib.hid ho
                have HB := Lib.hid hb
                obtain ⟨Ao, co, heo, -, -, -⟩ := ho.ints.open_
                rw [itS_len] at heo
                subst heo
                clear ho hb
                obtain ⟨q, hq⟩ : ∃ q, q = n - i := ⟨_, rfl⟩
                rw [← hq]
                by_cases hlt : i < n
                · have hii : (0 : Int) < (q : Int) := by omega
                  have hq0 : 0 < q := by omega
                  have hws : IntKind.i64.wrap ((q : Int) - 1) = (q : Int) - 1 := IntWalk.i64_in _ (by omega)
                  have HQ := Lib.hid (show (q : Int) - 1 = ((n - (i + 1) : Nat) : Int) from by omega)
                  have HQ2 := Lib.hid (show n - (i + 1) < q from by omega)
                  have HLI := Lib.hid (itS_len bb i)
                  have HNI := Lib.hid (itS_nums bb i)
                  have HSS := Lib.hid (show itS bb (i + 1) = subZ bb (itS bb i) from rfl)
                  clear hq
                  go_wp2_with (go_at_call 91; go_loud (refine (s_l16Substitute _ _ _ bb (itS bb i) (HBI.out.below HB.out) HBL.out HBN.out HO.out.ints HLI.out HNI.out).mono ?_; rintro e w9 ⟨x9, rfl, ho9, hb9⟩; have HO9 := Lib.hid ho9; have HB9 := Lib.hid hb9; clear ho9 hb9))
                  go_roundw
                  case rel => exact ⟨i + 1, by omega, by rw [HQ.out], by rw [HSS.out]; exact HO9.out.mono (Nat.le_trans HBC.out.size HB.out.size), HB.out.trans (HB9.out.mono HB.out.size)⟩
                  case measure => simp [intOf]; omega
                · have hin : i = n := by omega
                  have hq0 : q = 0 := by omega
                  subst hin hq0
                  clear hq
                  have hii : ¬ (0 : Int) < ((0 : Nat) : Int) := by omega
                  go_wp2_with fail
                  go_ret2
                  rw [HC.out, HR.out, ← HBB.out, ← HN.out]
                  exact ⟨_, rfl, HO.out, HBC.out.trans (HB.out.mono HBC.out.size)⟩
      · have hd0 : (y0 != 0) = true := by simp [hz0]
        have HC := Lib.hid (show spwC b k = 5 from by unfold spwC; rw [if_pos hm, if_pos hr, if_neg (fun h => hz0 (by rw [hy0]; exact h.1))])
        have HR := Lib.hid (show spwR b k = [] from by rw [spwR, HC.out]; rfl)
        clear hm hr h1 hy0 hy1 hz0 l1 n1
        go_enter Tryz.func49, Tryz.ntmps49
        go_wp2_with (first
          | (go_at_call 105; refine HCH.out.mono ?_; rintro e w0 ⟨rfl, rfl⟩)
          | (go_at_call 83; refine (HIR.out _).mono ?_; rintro e w0 ⟨rfl, rfl⟩))
        go_ret2
        rw [HC.out, HR.out]
        exact ⟨_, rfl, OwnInts.nil _ _ _, Below.refl _ _⟩
end Go.Proofs.YtngdpoeondnchaaGreat

set_option maxRecDepth 100000
set_option linter.unusedVariables false
set_option linter.unusedSimpArgs false
namespace Go.Proofs.YtngdpoeondnchaaGreat
open Go.RowKit

theorem itS_head (b : List Int) (n : Nat) : (itS b n).getD 0 0 = 0 := by
  induction n with
  | zero => rfl
  | succ n ih => exact ih
theorem itS_add (b : List Int) (m j : Nat) : subZ (itS b m) (itS b j) = itS b (m + j) := by
  induction m with
  | zero => rw [Nat.zero_add]; exact subZ_unL (itS_nums b j) (itS_len b j)
  | succ m ih =>
    show subZ (subZ b (itS b m)) (itS b j) = _
    rw [subZ_assoc (itS_nums b j), ih, Nat.add_right_comm]
    rfl
theorem itS_one {b : List Int} (nb : Nums b) (lb : b.length = 38) (b0 : b.getD 0 0 = 0) : itS b 1 = b := subZ_unR nb lb b0
theorem itS_snoc {b : List Int} (nb : Nums b) (lb : b.length = 38) (b0 : b.getD 0 0 = 0) (m : Nat) : itS b (m + 1) = subZ (itS b m) b := by
  rw [← itS_add b m 1, itS_one nb lb b0]
theorem itS_cancel {b x : List Int} (nb : Nums b) (lb : b.length = 38) (b0 : b.getD 0 0 = 0) (hx : subZ b x = unitL) (m j : Nat) : subZ (itS b (m + 1)) (itS x (j + 1)) = subZ (itS b m) (itS x j) := by
  have hj := itS_nums x j
  rw [itS_snoc nb lb b0 m]
  show subZ (subZ (itS b m) b) (subZ x (itS x j)) = _
  rw [subZ_assoc (subZ_nums hj), ← subZ_assoc hj, hx, subZ_unL hj (itS_len _ _)]
theorem itS_less {b x : List Int} (nb : Nums b) (lb : b.length = 38) (b0 : b.getD 0 0 = 0) (hx : subZ b x = unitL) (m d : Nat) : subZ (itS b m) (itS x (m + d)) = itS x d := by
  induction m with
  | zero => rw [Nat.zero_add]; exact subZ_unL (itS_nums x d) (itS_len x d)
  | succ m ih => rw [show m + 1 + d = (m + d) + 1 by omega, itS_cancel nb lb b0 hx, ih]
theorem itS_more {b x : List Int} (nb : Nums b) (lb : b.length = 38) (b0 : b.getD 0 0 = 0) (hx : subZ b x = unitL) (j d : Nat) : subZ (itS b (d + j)) (itS x j) = itS b d := by
  induction j with
  | zero => rw [Nat.add_zero]; show subZ (itS b d) unitL = _; exact subZ_unR (itS_nums b d) (itS_len b d) (itS_head b d)
  | succ j ih => rw [show d + (j + 1) = (d + j) + 1 by omega, itS_cancel nb lb b0 hx, ih]
theorem spwR_of {b : List Int} {k : Int} (h : spwC b k = 0) : spwR b k = itS (spwB b k) k.natAbs := if_pos h
theorem spw_add {b : List Int} {k m : Int} (h : spwC b k = 0) (m0 : 0 ≤ m) (m2 : m ≤ 2) (hkm : k + m ≤ 20) :
    spwC b m = 0 ∧ spwC b (k + m) = 0 ∧ subZ (spwR b m) (spwR b k) = spwR b (k + m) ∧ (spwR b m).length = 38 ∧ Nums (spwR b m) ∧ (spwR b m).getD 0 0 = 0 ∧ (spwR b k).length = 38 ∧ Nums (spwR b k) := by
  obtain ⟨hm, hr, b0, hb⟩ := spwC_zero h
  obtain ⟨lb, nb⟩ := mapB_true hm
  have nb : Nums b := nb
  obtain ⟨k1, k2⟩ := inR_bd hr
  have hc1 : spwC b m = 0 := by
    unfold spwC
    rw [if_pos hm, if_pos (by unfold inR; simp; omega), if_pos ⟨b0, fun hh => by omega⟩]
  have hc2 : spwC b (k + m) = 0 := by
    unfold spwC
    rw [if_pos hm, if_pos (by unfold inR; simp; omega), if_pos ⟨b0, fun hh => hb ⟨by omega, hh.2⟩⟩]
  refine ⟨hc1, hc2, ?_, ?_, ?_, ?_, ?_, ?_⟩
  · rw [spwR_of hc1, spwR_of hc2, spwR_of h, show spwB b m = b from if_neg (by omega)]
    by_cases hk : k < 0
    · have hb1 : b.getD 1 0 ≠ 0 := fun e => hb ⟨hk, e⟩
      have hx := invZ_right nb hb1
      rw [show spwB b k = invZ b from if_pos hk]
      by_cases hs : k + m < 0
      · rw [show spwB b (k + m) = invZ b from if_pos hs, show k.natAbs = m.natAbs + (k + m).natAbs by omega]
        exact itS_less nb lb b0 hx _ _
      · rw [show spwB b (k + m) = b from if_neg hs, show m.natAbs = (k + m).natAbs + k.natAbs by omega]
        exact itS_more nb lb b0 hx _ _
    · rw [show spwB b k = b from if_neg hk, show spwB b (k + m) = b from if_neg (by omega), show (k + m).natAbs = m.natAbs + k.natAbs by omega]
      exact itS_add b _ _
  · rw [spwR_of hc1]; exact itS_len _ _
  · rw [spwR_of hc1]; exact itS_nums _ _
  · rw [spwR_of hc1]; exact itS_head _ _
  · rw [spwR_of h]; exact itS_len _ _
  · rw [spwR_of h]; exact itS_nums _ _
end Go.Proofs.YtngdpoeondnchaaGreat

set_option maxRecDepth 100000
set_option linter.unusedVariables false
set_option linter.unusedSimpArgs false
namespace Go.Proofs.YtngdpoeondnchaaGreat
open Go.RowKit

set_option maxHeartbeats 16000000 in
theorem law_SubstitutionPowers (w : World) (v : Value) (n : Nat) (h : Bts w v n) :
    Calls Tryz.prog 13 #[v] w fun e w' => e = .returned (.bool true) ∧ Below w.heap.size w w' := by
  obtain ⟨A, c, rfl, hb⟩ := h
  have HBG := Lib.hid (l_big w A n c)
  by_cases h4 : 4096 < n
  · have hd : decide (4096 < n) = true := by simp [h4]
    rw [hd] at HBG
    clear hd h4 hb
    go_enter Tryz.func13, Tryz.ntmps13
    go_wp2_with (go_at_call 15; refine HBG.out.mono ?_; rintro e w0 ⟨rfl, rfl⟩)
    go_ret
    exact ⟨rfl, Below.refl _ _⟩
  · have hd : decide (4096 < n) = false := by simp [h4]
    rw [hd] at HBG
    have HDR := Lib.hid (s_DrawSubstitutionPower w A n c hb (by omega))
    have HBY := Lib.hid hb
    have hn4 : n ≤ 1000000 := by omega
    clear hd h4 hb
    go_enter Tryz.func13, Tryz.ntmps13
    go_upto_region 4 with (first
      | (go_at_call 15; refine HBG.out.mono ?_; rintro e w0 ⟨rfl, rfl⟩)
      | (go_at_call 47; go_loud (refine HDR.out.mono ?_; rintro e w1 ⟨x, k, rfl, hk, b, hib, hb1⟩; obtain ⟨Ab, cb, rfl, -, -, -⟩ := hib.open_; have HIB := Lib.hid hib; have HB1 := Lib.hid hb1; have HK := Lib.hid hk; clear hib hb1 hk)))
    clear HBG HDR
    have HS1 := Lib.hid (i_SubstitutionPower w1 _ b k HIB.out HK.out)
    have HS2 := Lib.hid (fun X (hX : Below w1.heap.size w1 X) => s_SubstitutionPower X _ b k (HIB.out.below hX) HK.out)
    by_cases hc : spwC b k = 0
    · rw [hc] at HS1
      simp only [hc] at HS2
      obtain ⟨-, hr, -, -⟩ := spwC_zero hc
      obtain ⟨k1, k2⟩ := inR_bd hr
      have HC := Lib.hid hc
      have HPB := Lib.hid (show (spwR b k).length = 38 ∧ Nums (spwR b k) from by rw [spwR_of hc]; exact ⟨itS_len _ _, itS_nums _ _⟩)
      clear hc hr
      go_upto_region 10 with (first
        | (go_at_call 48; go_loud (refine HS1.out.mono ?_; rintro e w2 ⟨xc, rfl, ho2, hb2⟩; have HXC := Lib.hid ho2.ints; have HB2 := Lib.hid hb2; clear ho2 hb2))
        | (go_at_call 49; go_loud (refine (HS2.out _ HB2.out).mono ?_; rintro e w3 ⟨xd, rfl, ho3, hb3⟩; have HXD := Lib.hid ho3.ints; have HB3 := Lib.hid (HB2.out.trans (hb3.mono HB2.out.size)); have HXC3 := Lib.hid (HXC.out.below hb3); clear ho3 hb3))
        | (go_at_call 21; (refine (l_likeInts _ _ _ _ _ HXC3.out HXD.out).mono ?_); go_loud (rw [show decide (spwR b k = spwR b k) = true from decide_eq_true rfl]; rintro e w4 ⟨rfl, n4, hw4⟩; have HB34 := Lib.hid (show Below w3.heap.size w3 w4 from by rw [hw4]; exact below_drewN (Below.refl _ _) n4); have HB4 := Lib.hid (HB3.out.trans (HB34.out.mono HB3.out.size)); clear hw4)))
      have HXC4 := Lib.hid (HXC3.out.below HB34.out)
      have HIB4 := Lib.hid (HIB.out.below HB4.out)
      have HBW4 := Lib.hid (HB1.out.trans (HB4.out.mono HB1.out.size))
      have HRO := Lib.hid (l_roll w4 A n c 617 ((HBY.out.below (Nat.le_refl _) HBW4.out).mono HBW4.out.size) hn4 (by omega) (by omega))
      clear HS1 HS2 HXC HXD HB2 HB3 HXC3 HB34 HB4 HB1 HIB HBY
      go_upto_region 11 with (first
        | (go_at_call 16; go_loud (refine HRO.out.mono ?_; rintro e w5 ⟨p, rfl, hs1, hb1⟩; have HS5 := Lib.hid hs1; have HB5 := Lib.hid hb1; have hpg := hs1.ge; clear hs1 hb1))
        | (go_at_call 50; go_loud (refine (l_below _ _ p 3 HS5.out (by omega) (by omega)).mono ?_; rintro e w6 ⟨m, rfl, m0, m1, hg6, hs6⟩; have HB6 := Lib.hid (HB5.out.grown hg6 HB5.out.size (by rintro k ⟨⟩; exact hpg)); clear hg6 hs6)))
      have hw : wrap64 (k + m) = k + m := w64_dr _ (by omega)
      have HXC6 := Lib.hid (HXC4.out.below HB6.out)
      have HIB6 := Lib.hid (HIB4.out.below HB6.out)
      have HBW6 := Lib.hid (HBW4.out.trans (HB6.out.mono HBW4.out.size))
      clear HRO HS5 HB5 hpg HXC4 HIB4 HBW4 HB6
      by_cases hk20 : 20 < k + m
      · go_wp2_with fail
        go_ret
        exact ⟨rfl, HBW6.out⟩
      · obtain ⟨hc1, hc2, hadd, l1, n1, h01, l2, n2⟩ := spw_add HC.out m0 (by omega) (by omega)
        have HQ := Lib.hid (fun X (hX : Below w6.heap.size w6 X) => i_SubstitutionPower X _ b m (HIB6.out.below hX) (by unfold In64; omega))
        have HR := Lib.hid (fun X (hX : Below w6.heap.size w6 X) => i_SubstitutionPower X _ b (k + m) (HIB6.out.below hX) (by unfold In64; omega))
        simp only [hc1] at HQ
        simp only [hc2] at HR
        have HL1 := Lib.hid l1
        have HN1 := Lib.hid n1
        have H01 := Lib.hid h01
        have HAD := Lib.hid (show decide (subZ (spwR b m) (spwR b k) = spwR b (k + m)) = true from decide_eq_true hadd)
        clear hc1 hc2 hadd l1 n1 h01 l2 n2
        go_wp2_with (first
          | (go_at_call 48; (with_reducible refine (HQ.out w6 (Below.refl _ _)).mono ?_); go_loud (rintro e w7 ⟨x7, rfl, ho7, hb7⟩; have HX7 := Lib.hid ho7.ints; have HB7 := Lib.hid hb7; clear ho7 hb7))
          | (go_at_call 48; (with_reducible refine (HR.out w7 HB7.out).mono ?_); go_loud (rintro e w8 ⟨x8, rfl, ho8, hb8⟩; have HX8 := Lib.hid ho8.ints; have HY7 := Lib.hid (HX7.out.below hb8); have HB8 := Lib.hid (HB7.out.trans (hb8.mono HB7.out.size)); clear ho8 hb8))
          | (go_at_call 18; go_loud (refine (i_SubstMap0 w8 x7 _ (spwR b m) (spwR b k) HY7.out (HXC6.out.below HB8.out) HL1.out HN1.out H01.out HPB.out.1 HPB.out.2).mono ?_; rintro e w9 ⟨x9, rfl, ho9, hb9⟩; have HX9 := Lib.hid ho9.ints; have HY8 := Lib.hid (HX8.out.below hb9); have HB9 := Lib.hid (HB8.out.trans (hb9.mono HB8.out.size)); clear ho9 hb9))
          | (go_at_call 21; (refine (l_likeInts w9 x9 x8 _ _ HX9.out HY8.out).mono ?_); go_loud (rw [HAD.out]; rintro e w10 ⟨rfl, n10, hw10⟩; have HB10 := Lib.hid (show Below w6.heap.size w6 w10 from by rw [hw10]; exact below_drewN HB9.out n10); clear hw10)))
        go_ret
        exact ⟨rfl, HBW6.out.trans (HB10.out.mono HBW6.out.size)⟩
    · have hsr : spwR b k = [] := if_neg hc
      rw [hsr] at HS1
      simp only [hsr] at HS2
      have hd : (spwC b k != 0) = true := by simp [hc]
      generalize spwC b k = cc at *
      clear hc hsr
      go_wp2_with (first
        | (go_at_call 48; go_loud (refine HS1.out.mono ?_; rintro e w2 ⟨xc, rfl, ho2, hb2⟩; have HXC := Lib.hid ho2.ints; have HB2 := Lib.hid hb2; clear ho2 hb2))
        | (go_at_call 49; go_loud (refine (HS2.out _ HB2.out).mono ?_; rintro e w3 ⟨xd, rfl, ho3, hb3⟩; have HXD := Lib.hid ho3.ints; have HB3 := Lib.hid (HB2.out.trans (hb3.mono HB2.out.size)); have HXC3 := Lib.hid (HXC.out.below hb3); clear ho3 hb3))
        | (go_at_call 21; (refine (l_likeInts _ _ _ _ _ HXC3.out HXD.out).mono ?_); go_loud (rw [show decide (([] : List Int) = []) = true from decide_eq_true rfl]; rintro e w4 ⟨rfl, n4, hw4⟩; have HB4 := Lib.hid (show Below w1.heap.size w1 w4 from by rw [hw4]; exact below_drewN HB3.out n4); clear hw4)))
      go_ret
      exact ⟨rfl, HB1.out.trans (HB4.out.mono HB1.out.size)⟩
end Go.Proofs.YtngdpoeondnchaaGreat

