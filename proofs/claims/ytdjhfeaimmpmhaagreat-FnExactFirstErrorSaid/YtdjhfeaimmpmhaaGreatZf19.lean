/- Walks: the checks of maps, of the program and of the reference. -/
import Derived.Test.YtdjhfeaimmpmhaaGreatZf17
import Derived.Test.YtdjhfeaimmpmhaaGreatZf3
import Derived.Test.YtdjhfeaimmpmhaaGreatZf2
import Derived.Test.YtdjhfeaimmpmhaaGreatZf10
set_option maxRecDepth 100000
set_option linter.unusedVariables false
set_option linter.unusedSimpArgs false
namespace Go.Proofs.YtdjhfeaimmpmhaaGreat
open Go.RowKit

def mapB (zs : List Int) : Bool := decide (zs.length = 38) && nums zs
def chrC (zs : List Int) : Int := if mapB zs then (if zs.getD 0 0 = 1 then 0 else 5) else 1
def infC (zs : List Int) : Int := if mapB zs then (if zs.getD 0 0 = 0 then 0 else 5) else 1
theorem mapB_true {zs : List Int} (h : mapB zs = true) : zs.length = 38 ∧ ∀ z ∈ zs, 0 ≤ z ∧ z ≤ 10006 := by
  unfold mapB at h
  rw [Bool.and_eq_true, nums_iff] at h
  exact ⟨by simpa using h.1, h.2⟩

set_option maxHeartbeats 400000 in
theorem i_IsMap (w : World) (v : Value) (zs : List Int) (ha : Ints w v zs) : Calls Tryz.prog 85 #[v] w fun e w' => e = .returned (.bool (mapB zs)) ∧ w = w' := by
  have HA := Lib.hid ha
  obtain ⟨A, c, rfl, -, -, -⟩ := ha.open_
  clear ha
  by_cases h : zs.length = 38
  · have HF := Lib.hid (show mapB zs = nums zs by simp [mapB, h])
    have hd : ((zs.length : Int) == 38) = true := by simp [h]
    clear h
    go_enter Tryz.func85, Tryz.ntmps85
    go_wp2_with (go_at_call 54; refine (i_areNumbers _ _ _ HA.out).mono ?_; rintro e w' ⟨rfl, rfl⟩)
    go_ret
    exact ⟨ret_bool HF.out.symm, rfl⟩
  · have HF := Lib.hid (show mapB zs = false by simp [mapB, h])
    have hd : ((zs.length : Int) == 38) = false := by simp; omega
    clear h
    go_enter Tryz.func85, Tryz.ntmps85
    go_wp2_with (go_at_call 54; refine (i_areNumbers _ _ _ HA.out).mono ?_; rintro e w' ⟨rfl, rfl⟩)
    go_ret
    exact ⟨ret_bool HF.out.symm, rfl⟩

set_option maxHeartbeats 400000 in
theorem s_l07Is (w : World) (v : Value) (zs : List Int) (ha : Ints w v zs) : Calls Tryz.prog 129 #[v] w fun e w' => e = .returned (.bool (mapB zs)) ∧ w = w' := by
  have HA := Lib.hid ha
  obtain ⟨A, c, rfl, -, -, -⟩ := ha.open_
  clear ha
  by_cases h : zs.length = 38
  · have HF := Lib.hid (show mapB zs = nums zs by simp [mapB, h])
    have hd : ((zs.length : Int) == 38) = true := by simp [h]
    clear h
    go_enter Tryz.func129, Tryz.ntmps129
    go_wp2_with (go_at_call 61; refine (s_l01Numbers _ _ _ HA.out).mono ?_; rintro e w' ⟨rfl, rfl⟩)
    go_ret
    exact ⟨ret_bool HF.out.symm, rfl⟩
  · have HF := Lib.hid (show mapB zs = false by simp [mapB, h])
    have hd : ((zs.length : Int) == 38) = false := by simp; omega
    clear h
    go_enter Tryz.func129, Tryz.ntmps129
    go_wp2_with (go_at_call 61; refine (s_l01Numbers _ _ _ HA.out).mono ?_; rintro e w' ⟨rfl, rfl⟩)
    go_ret
    exact ⟨ret_bool HF.out.symm, rfl⟩

/-- the head of a map -/
theorem map_head {w : World} {A : Option Addr} {c : Nat} {zs : List Int} (h : Ints w (.slice A zs.length c) zs) (hm : mapB zs = true) : ∃ ad, A = some ad ∧ w.cell? ad = some (.int .i64 (zs.getD 0 0)) := by
  obtain ⟨A', c', he, -, -, h3⟩ := h.open_
  injection he with h1 h2 h4
  subst h1
  obtain ⟨ad, z, rfl, hz, -, hc⟩ := h3 0 (by have := (mapB_true hm).1; omega)
  refine ⟨ad, rfl, ?_⟩
  rw [List.getD_eq_getElem?_getD, hz]
  simpa [Addr.add] using hc

set_option maxHeartbeats 800000 in
theorem i_checkCharacter (w : World) (v : Value) (zs : List Int) (ha : Ints w v zs) : Calls Tryz.prog 74 #[v] w fun e w' => e = .returned (.int .i64 (chrC zs)) ∧ w = w' := by
  have HM := Lib.hid (i_IsMap w v zs ha)
  obtain ⟨A, c, rfl, -, -, -⟩ := ha.open_
  cases hm : mapB zs with
  | false =>
    rw [hm] at HM
    rw [show chrC zs = 1 by simp [chrC, hm]]
    clear hm ha
    go_enter Tryz.func74, Tryz.ntmps74
    go_wp2_with (go_at_call 85; refine HM.out.mono ?_; rintro e w' ⟨rfl, rfl⟩)
    go_ret
    exact ⟨rfl, rfl⟩
  | true =>
    obtain ⟨ad, rfl, hc⟩ := map_head ha hm
    have hl := (mapB_true hm).1
    rw [hm] at HM
    have hpos : 0 < zs.length := by omega
    have hpi : (0 : Int) < (zs.length : Int) := by omega
    have HC := Lib.hid (show chrC zs = if zs.getD 0 0 = 1 then 0 else 5 by simp [chrC, hm])
    rw [HC.out]
    clear hm ha hl
    generalize zs.getD 0 0 = z at *
    by_cases hz : z = 1
    · have hd : (z != 1) = false := by simp [hz]
      rw [if_pos hz]
      clear hz HC
      go_enter Tryz.func74, Tryz.ntmps74
      go_wp2_with (go_at_call 85; refine HM.out.mono ?_; rintro e w' ⟨rfl, rfl⟩)
      go_ret
      exact ⟨rfl, rfl⟩
    · have hd : (z != 1) = true := by simp [hz]
      rw [if_neg hz]
      clear hz HC
      go_enter Tryz.func74, Tryz.ntmps74
      go_wp2_with (go_at_call 85; refine HM.out.mono ?_; rintro e w' ⟨rfl, rfl⟩)
      go_ret
      exact ⟨rfl, rfl⟩

set_option maxHeartbeats 800000 in
/-- the reference's check of one character -/
theorem s_l07Code1 (w : World) (v : Value) (zs : List Int) (ha : Ints w v zs) : Calls Tryz.prog 76 #[v, v] w fun e w' => e = .returned (.int .i64 (chrC zs)) ∧ w = w' := by
  have HM := Lib.hid (s_l07Is w v zs ha)
  obtain ⟨A, c, rfl, -, -, -⟩ := ha.open_
  cases hm : mapB zs with
  | false =>
    rw [hm] at HM
    rw [show chrC zs = 1 by simp [chrC, hm]]
    clear hm ha
    go_enter Tryz.func76, Tryz.ntmps76
    go_wp2_with (go_at_call 129; refine HM.out.mono ?_; rintro e w' ⟨rfl, rfl⟩)
    go_ret
    exact ⟨rfl, rfl⟩
  | true =>
    obtain ⟨ad, rfl, hc⟩ := map_head ha hm
    have hl := (mapB_true hm).1
    rw [hm] at HM
    have hpos : 0 < zs.length := by omega
    have hpi : (0 : Int) < (zs.length : Int) := by omega
    have HC := Lib.hid (show chrC zs = if zs.getD 0 0 = 1 then 0 else 5 by simp [chrC, hm])
    rw [HC.out]
    clear hm ha hl
    generalize zs.getD 0 0 = z at *
    by_cases hz : z = 1
    · have hd : (z != 1) = false := by simp [hz]
      rw [if_pos hz]
      clear hz HC
      go_enter Tryz.func76, Tryz.ntmps76
      go_wp2_with (go_at_call 129; refine HM.out.mono ?_; rintro e w' ⟨rfl, rfl⟩)
      go_ret
      exact ⟨rfl, rfl⟩
    · have hd : (z != 1) = true := by simp [hz]
      rw [if_neg hz]
      clear hz HC
      go_enter Tryz.func76, Tryz.ntmps76
      go_wp2_with (go_at_call 129; refine HM.out.mono ?_; rintro e w' ⟨rfl, rfl⟩)
      go_ret
      exact ⟨rfl, rfl⟩

set_option maxHeartbeats 800000 in
/-- the reference's check of one infinitesimal map -/
theorem s_l08Code1 (w : World) (v : Value) (zs : List Int) (ha : Ints w v zs) : Calls Tryz.prog 68 #[v, v] w fun e w' => e = .returned (.int .i64 (infC zs)) ∧ w = w' := by
  have HM := Lib.hid (s_l07Is w v zs ha)
  obtain ⟨A, c, rfl, -, -, -⟩ := ha.open_
  cases hm : mapB zs with
  | false =>
    rw [hm] at HM
    rw [show infC zs = 1 by simp [infC, hm]]
    clear hm ha
    go_enter Tryz.func68, Tryz.ntmps68
    go_wp2_with (go_at_call 129; refine HM.out.mono ?_; rintro e w' ⟨rfl, rfl⟩)
    go_ret
    exact ⟨rfl, rfl⟩
  | true =>
    obtain ⟨ad, rfl, hc⟩ := map_head ha hm
    have hl := (mapB_true hm).1
    rw [hm] at HM
    have hpos : 0 < zs.length := by omega
    have hpi : (0 : Int) < (zs.length : Int) := by omega
    have HC := Lib.hid (show infC zs = if zs.getD 0 0 = 0 then 0 else 5 by simp [infC, hm])
    rw [HC.out]
    clear hm ha hl
    generalize zs.getD 0 0 = z at *
    by_cases hz : z = 0
    · have hd : (z != 0) = false := by simp [hz]
      rw [if_pos hz]
      clear hz HC
      go_enter Tryz.func68, Tryz.ntmps68
      go_wp2_with (go_at_call 129; refine HM.out.mono ?_; rintro e w' ⟨rfl, rfl⟩)
      go_ret
      exact ⟨rfl, rfl⟩
    · have hd : (z != 0) = true := by simp [hz]
      rw [if_neg hz]
      clear hz HC
      go_enter Tryz.func68, Tryz.ntmps68
      go_wp2_with (go_at_call 129; refine HM.out.mono ?_; rintro e w' ⟨rfl, rfl⟩)
      go_ret
      exact ⟨rfl, rfl⟩

def infA (b : List Int) (oss : List (List Int)) : Int := if (oss ++ [b]).all mapB then (if b.getD 0 0 = 0 then 0 else 5) else 1
theorem infA_nil (b : List Int) : infA b [] = infC b := by simp [infA, infC]
set_option maxHeartbeats 2000000 in
theorem i_checkInfinitesimal (w : World) (vb vo : Value) (Bo : Nat) (us : List Value) (b : List Int) (oss : List (List Int)) (ho : Own w Bo tL vo us) (hl : us.length = oss.length) (hn : us.length ≤ 10) (hBo : Bo ≤ w.heap.size)
    (hb : ∀ W, w.grownBy W vo.ownBlock → Ints W vb b) (hr : ∀ (k : Nat) (u : Value) (zs : List Int) (W : World), us[k]? = some u → oss[k]? = some zs → w.grownBy W vo.ownBlock → Ints W u zs) :
    Calls Tryz.prog 63 #[vb, vo] w fun e w' => e = .returned (.int .i64 (infA b oss)) ∧ w.grownBy w' vo.ownBlock := by
  have HB := Lib.hid hb
  have HO := Lib.hid ho
  have hb0 := hb w (World.grownBy.refl _ _)
  obtain ⟨A, c, rfl, -, -, -⟩ := hb0.open_
  obtain ⟨Ao, co, rfl, -, -⟩ := ho.cells.open_
  have HL := Lib.hid (show us.length + 1 = (oss ++ [b]).length from by rw [List.length_append, hl]; rfl)
  have HR := Lib.hid (show ∀ (k : Nat) (u : Value) (zs : List Int) (W : World), (us ++ [.slice A b.length c])[k]? = some u → (oss ++ [b])[k]? = some zs → w.grownBy W (Value.slice Ao us.length co).ownBlock → Ints W u zs from fun k u zs W hu hz hg => by
    by_cases hlt : k < us.length
    · rw [List.getElem?_append_left hlt] at hu
      rw [List.getElem?_append_left (by rw [← hl]; exact hlt)] at hz
      exact hr k u zs W hu hz hg
    · have hkl := (List.getElem?_eq_some_iff.1 hu).1
      simp at hkl
      have hk : k = us.length := by omega
      rw [hk] at hu
      rw [hk, hl] at hz
      simp at hu hz
      subst hu hz
      exact hb W hg)
  clear ho hl hb hr hb0
  go_enter Tryz.func63, Tryz.ntmps63
  go_wp2_with (at_builtin; go_loud (refine wpList_app1 T_row HO.out (by omega) hBo (by cases A <;> rfl) rfl (by rfl) (by rfl) (by rfl) ?_; intro v1 w1 hown1 hgr1; obtain ⟨A1, c1, hv1, -, -⟩ := hown1.cells.open_; rw [List.length_append, List.length_singleton] at hv1; subst hv1; have HN := Lib.hid hown1; have HG := Lib.hid hgr1.1; clear hown1 hgr1))
  go_loopw [12] (fun x wr => ∃ k : Nat, k ≤ us.length + 1 ∧ x = .int .i64 k ∧ Hid (∀ (i : Nat) (y : List Int), i < k → (oss ++ [b])[i]? = some y → mapB y = true) ∧ wr = w1) (fun x _ => us.length + 1 - (intOf x).toNat)
  case atStart => exact ⟨0, Nat.zero_le _, rfl, fun i y hi => by omega, rfl⟩
  case round =>
    obtain ⟨k, hk, rfl, hI, rfl⟩ := hrel
    by_cases hlt : k < us.length + 1
    · obtain ⟨u, hu⟩ : ∃ u, (us ++ [Value.slice A b.length c])[k]? = some u := ⟨_, List.getElem?_eq_getElem (by rw [List.length_append]; exact hlt)⟩
      obtain ⟨zs, hz⟩ : ∃ zs, (oss ++ [b])[k]? = some zs := ⟨_, List.getElem?_eq_getElem (by rw [← HL.out]; exact hlt)⟩
      obtain ⟨ad, n', c', he, hcell⟩ := HN.out.cells.at_ hu
      simp only [Value.slice.injEq] at he
      obtain ⟨rfl, -, -⟩ := he
      have HM := Lib.hid (i_IsMap wr u zs (HR.out k u zs wr hu hz HG.out))
      have hkk : (k : Int) < (us.length : Int) + 1 := by omega
      cases hm : mapB zs with
      | true =>
        rw [hm] at HM
        have HI2 := Lib.hid (show ∀ (i : Nat) (y : List Int), i < k + 1 → (oss ++ [b])[i]? = some y → mapB y = true from fun i y hi hy => by
          by_cases e : i = k
          · subst e; rw [hz] at hy; injection hy with hy; subst hy; exact hm
          · exact hI i y (by omega) hy)
        clear hI hu hz hm
        go_wp2_with (go_at_call 85; refine HM.out.mono ?_; rintro e w2 ⟨rfl, rfl⟩)
        go_roundw
        case rel => exact ⟨k + 1, by omega, by go_num, HI2.out, by first | rfl | trivial⟩
        case measure => simp [intOf]; omega
      | false =>
        rw [hm] at HM
        have HI := Lib.hid (show infA b oss = 1 from by
          unfold infA
          rw [if_neg]
          intro h
          rw [List.all_eq_true] at h
          have := h zs (List.mem_of_getElem? hz)
          rw [hm] at this; cases this)
        clear hI hu hz hm
        go_wp2_with (go_at_call 85; refine HM.out.mono ?_; rintro e w2 ⟨rfl, rfl⟩)
        go_ret
        exact ⟨ret_i64 HI.out.symm, HG.out⟩
    · have hall : (oss ++ [b]).all mapB = true := by
        rw [List.all_eq_true]
        intro y hy
        obtain ⟨i, hi, rfl⟩ := List.getElem_of_mem hy
        exact hI i _ (by have := HL.out; omega) (List.getElem?_eq_getElem hi)
      have hmb : mapB b = true := by
        rw [List.all_eq_true] at hall
        exact hall b (by simp)
      have hbl := (mapB_true hmb).1
      obtain ⟨ad, rfl, hc⟩ := map_head (HB.out wr HG.out) hmb
      have hpos : 0 < b.length := by omega
      have hpi : (0 : Int) < (b.length : Int) := by omega
      have HI := Lib.hid (show infA b oss = if b.getD 0 0 = 0 then 0 else 5 from by unfold infA; rw [if_pos hall])
      clear hI hall hmb hbl
      generalize b.getD 0 0 = z at *
      by_cases hz : z = 0
      · have hd : (z != 0) = false := by simp [hz]
        have HZ := Lib.hid (show infA b oss = 0 from by rw [HI.out, if_pos hz])
        clear hz HI
        go_wp2_with fail
        go_ret
        exact ⟨ret_i64 HZ.out.symm, HG.out⟩
      · have hd : (z != 0) = true := by simp [hz]
        have HZ := Lib.hid (show infA b oss = 5 from by rw [HI.out, if_neg hz])
        clear hz HI
        go_wp2_with fail
        go_ret
        exact ⟨ret_i64 HZ.out.symm, HG.out⟩
/-- the check of one infinitesimal map -/
theorem i_checkInf1 (w : World) (v : Value) (zs : List Int) (ha : Ints w v zs) : Calls Tryz.prog 63 #[v, .slice none 0 0] w fun e w' => e = .returned (.int .i64 (infC zs)) ∧ Below w.heap.size w w' := by
  have h := i_checkInfinitesimal w v (.slice none 0 0) w.heap.size [] zs [] (Own.nil _ _ _) rfl (by simp) (Nat.le_refl _) (fun W hg => ha.of_old fun k hk _ => hg.block k hk (by simp [Value.ownBlock])) (fun k u zs W hu => by simp at hu)
  rw [infA_nil] at h
  exact h.mono fun e w' ⟨he, hg⟩ => ⟨he, ⟨hg.os, hg.tape, hg.output, hg.size, fun k hk => hg.block k hk (by simp [Value.ownBlock])⟩⟩
end Go.Proofs.YtdjhfeaimmpmhaaGreat

