/- Walks: l03Before, l03Sort, l16Skeleton of the reference. | Lists of lists of one's own whose rows can be read and lie apart from one another. | Walk: l03Sort of the reference. | Walks: slices.Clone at numbers; the columns of both. -/
import Derived.Test.YtbjeibcombjfgaaQf5
import Derived.Test.YtbjeibcombjfgaaQf8
import Derived.Test.YtbjeibcombjfgaaQf10
import Derived.Test.YtbjeibcombjfgaaQf6
import Derived.Test.YtbjeibcombjfgaaQf3
import Derived.Deep.QuietTactic
import Derived.BigQuiet
import Derived.Deep.RegionLaw
import Derived.Test.YtbjeibcombjfgaaQf2
import Derived.WalkSpells
set_option maxRecDepth 100000
set_option linter.unusedVariables false
set_option linter.unusedSimpArgs false
namespace Go.Proofs.Ytbjeibcombjfgaa
open Go.RowKit

theorem s_l03Before (w : World) (v v' : Value) (a b : List Nat) (ha : Ints w v (up a)) (hb : Ints w v' (up b)) :
    Calls Try.prog 198 #[v, v'] w fun e w' => e = .returned (.bool (befN a b)) ∧ ∃ n, w' = w.drewN n := by
  have HA := Lib.hid ha
  have HB := Lib.hid hb
  obtain ⟨A, c, rfl, -, -, -⟩ := ha.open_
  obtain ⟨A', c', rfl, -, -, -⟩ := hb.open_
  rw [up_len] at HA ⊢
  rw [up_len] at HB ⊢
  clear ha hb
  by_cases h : a.length = b.length
  · have HE := Lib.hid (show befN a b = ltN b a by rw [befN, h, Nat.beq_refl]; rfl)
    rw [HE.out]
    have hd : ((a.length : Int) != (b.length : Int)) = false := by simp [h]
    clear h
    go_enter Try.func198, Try.ntmps198
    go_wp2_with (go_at_call 155; refine (s_l01Less _ _ _ (up b) (up a) HB.out HA.out).mono ?_; rintro e w1 ⟨rfl, n, rfl⟩; rw [lessL_up])
    go_ret
    exact ⟨rfl, _, rfl⟩
  · have HE := Lib.hid (show befN a b = decide ((a.length : Int) < (b.length : Int)) by
      have hb : Nat.beq a.length b.length = false := by
        cases hb : Nat.beq a.length b.length with
        | true => exact absurd (Nat.eq_of_beq_eq_true hb) h
        | false => rfl
      rw [befN, hb]
      simp only [cond_false]
      by_cases h2 : a.length < b.length
      · rw [(blt_iff _ _).2 h2]; exact (decide_eq_true (by omega)).symm
      · have : Nat.blt a.length b.length = false := by
          cases hh : Nat.blt a.length b.length with
          | true => exact absurd ((blt_iff _ _).1 hh) h2
          | false => rfl
        rw [this]; exact (decide_eq_false (by omega)).symm)
    rw [HE.out]
    have hd : ((a.length : Int) != (b.length : Int)) = true := by simp; omega
    clear h
    go_enter Try.func198, Try.ntmps198
    go_wp2_with fail
    all_goals (go_ret; exact ⟨ret_bool (by first | rfl | simp_all | (simp; omega)), 0, rfl⟩)

/-- what lies before a node's tops -/
def skF (t : List Nat) (m : Nat) (i : Nat) : Nat := 1 + wayN t m 9 (parN t (t.getD i 0) i)
def skTo (t : List Nat) (m : Nat) (n : Nat) : List Nat := 0 :: (cutsN m n 1).map (skF t m)
theorem cutsN_succ (m : Nat) : ∀ (n i : Nat), cutsN m (n + 1) i = cutsN m n i ++ (if m.testBit (i + n) then [i + n] else [])
  | 0, i => by
    rw [cutsN, cutsN]
    cases m.testBit i <;> simp [cutsN, *]
  | n + 1, i => by
    rw [cutsN, cutsN_succ m n (i + 1), cutsN]
    rw [show i + 1 + n = i + (n + 1) by omega]
    cases m.testBit i <;> simp
theorem skTo_succ (t : List Nat) (m n : Nat) : skTo t m (n + 1) = skTo t m n ++ (if m.testBit (n + 1) then [skF t m (n + 1)] else []) := by
  unfold skTo
  rw [cutsN_succ, Nat.add_comm 1 n]
  cases m.testBit (n + 1) <;> simp
theorem wayN_le (t : List Nat) (m : Nat) : ∀ (f q : Nat), wayN t m f q ≤ f
  | 0, q => by rw [wayN]; exact Nat.le_refl _
  | f + 1, 0 => by rw [wayN]; omega
  | f + 1, 1 => by rw [wayN]; omega
  | f + 1, k + 2 => by
    rw [wayN]
    have := wayN_le t m f (parN t (t.getD (k + 1) 0) (k + 1))
    cases m.testBit (k + 1) <;> simp only [cond_true, cond_false] <;> omega

theorem bit64 (m j : Nat) (hm : m < 256) : (bits BinOp.and IntKind.i64 ((m : Int) / 2 ^ j) 1 == 0) = !m.testBit j ∧ (bits BinOp.and IntKind.i64 ((m : Int) / 2 ^ j) 1 == 1) = m.testBit j := by
  rw [cut_bit m j hm]
  cases m.testBit j <;> simp

set_option maxHeartbeats 4000000 in
theorem s_l16Skeleton (w : World) (v : Value) (t : List Nat) (m : Nat) (r : List Nat) (ha : Ints w v (up t)) (h8 : t.length ≤ 8) (h0 : 0 < t.length) (hm : m < 256) (hl : ∀ l ∈ t, l ≤ 1000000) (hr : canO 9 (sklN t m) = some r) :
    Calls Try.prog 94 #[v, .int .i64 m] w fun e w' => ∃ x, e = .returned x ∧ OwnInts w' w.heap.size tI x (up r) ∧ Below w.heap.size w w' := by
  have HA := Lib.hid ha
  have HL := Lib.hid hl
  have HR := Lib.hid hr
  have HM := Lib.hid hm
  obtain ⟨A, c, rfl, l1, l2, -⟩ := ha.open_
  rw [up_len] at l1 HA ⊢
  have OL := Lib.hid (show OwnInts (w.alloc (.cells #[.int .i64 0] tI)) w.heap.size tI (.slice (some ⟨w.heap.size, 0, none⟩) 1 1) (up (skTo t m 0)) from ⟨own_lit w tI [.int .i64 0] (by simp [maxLen]), fun z hz => by simp [skTo, cutsN, up] at hz; subst hz; unfold In64; omega⟩)
  clear ha hl hr hm
  go_enter Try.func94, Try.ntmps94
  go_wp2_with fail
  go_loopw [5, 6] (fun o x wr => ∃ i : Nat, i + 1 ≤ t.length ∧ x = .int .i64 ((i : Int) + 1) ∧ OwnInts wr w.heap.size tI o (up (skTo t m i)) ∧ Below w.heap.size w wr) (fun _ x _ => t.length - (intOf x).toNat)
  case atStart => exact ⟨0, by omega, rfl, OL.out, below1 _ _⟩
  case round =>
    obtain ⟨i, hi, rfl, ho, hb⟩ := hrel
    clear OL
    have HO := Lib.hid ho
    have HB := Lib.hid hb
    clear ho hb
    by_cases hlt : i + 1 < t.length
    · have hii : (i : Int) + 1 < (t.length : Int) := by omega
      have hi0 : (0 : Int) ≤ (i : Int) + 1 := by omega
      have hi64 : (i : Int) + 1 ≤ 64 := by omega
      have hwu : IntKind.u64.wrap ((i : Int) + 1) = (i : Int) + 1 := IntWalk.u64_in _ (by omega)
      have HSK := Lib.hid (skTo_succ t m i)
      obtain ⟨hb0, hb1⟩ := bit64 m (i + 1) HM.out
      have htn : ((i : Int) + 1).toNat = i + 1 := by omega
      have hw1 : IntKind.i64.wrap ((i : Int) + 1 + 1) = (i : Int) + 1 + 1 := IntWalk.i64_in _ (by omega)
      cases hbt : m.testBit (i + 1) with
      | false =>
        rw [hbt] at hb0 hb1
        have HBT := Lib.hid hbt
        clear hbt
        simp only [Bool.not_false] at hb0
        go_wp2_with fail
        go_roundw
        case rel =>
          refine ⟨i + 1, by omega, by go_num, ?_, HB.out⟩
          rw [HSK.out, HBT.out]
          simpa using HO.out
        case measure => simp [intOf]; omega
      | true =>
        rw [hbt] at hb0 hb1
        have HBT := Lib.hid hbt
        clear hbt
        simp only [Bool.not_true] at hb0
        have hp1 := fun W (h : Ints W (.slice A t.length c) (up t)) => s_l16Parent W _ t (i + 1) h hlt HL.out
        have hpl := parN_le t (t.getD (i + 1) 0) (i + 1)
        have hf : skF t m (i + 1) = 1 + wayN t m 9 (parN t (t.getD (i + 1) 0) (i + 1)) := rfl
        generalize parN t (t.getD (i + 1) 0) (i + 1) = p0 at hp1 hpl hf
        have HSF := Lib.hid (show skF t m (i + 1) ≤ 10 from by rw [hf]; have := wayN_le t m 9 p0; omega)
        generalize skF t m (i + 1) = tot at hf HSF HSK
        have HP1 := Lib.hid hp1
        have HPL := Lib.hid hpl
        have HF := Lib.hid (show 1 + wayN t m 9 p0 = tot from hf.symm)
        clear hp1 hpl hf
        go_wp2_with (go_at_call 153; refine (HP1.out _ (HA.out.below HB.out)).mono ?_; rintro e w2 ⟨rfl, n2, rfl⟩)
        obtain ⟨wo, rfl⟩ : ∃ wo : World, wo = wr := ⟨_, rfl⟩
        go_loopw [7, 8] (fun lv x wi => ∃ q f lev n : Nat, x = .int .i64 ((q : Int) - 1) ∧ lv = .int .i64 lev ∧ q ≤ f ∧ q ≤ i + 1 ∧ f ≤ 9 ∧ lev ≤ 10 ∧ Hid (lev + wayN t m f q = tot) ∧ wi = wo.drewN n) (fun _ x _ => (intOf x + 1).toNat)
        case atStart => exact ⟨p0, 9, 1, n2, rfl, rfl, by have := HPL.out; omega, HPL.out, Nat.le_refl _, by omega, HF.out, rfl⟩
        case round =>
          obtain ⟨q, f, lev, n, rfl, rfl, hqf, hqi, hf9, hl10, HT, rfl⟩ := hrel
          by_cases hq2 : 2 ≤ q
          · obtain ⟨k, rfl⟩ : ∃ k, q = k + 2 := ⟨q - 2, by omega⟩
            obtain ⟨f', rfl⟩ : ∃ f', f = f' + 1 := ⟨f - 1, by omega⟩
            have hk1 : ((k + 2 : Nat) : Int) - 1 = (k : Int) + 1 := by omega
            rw [hk1]
            have hkp : (0 : Int) < (k : Int) + 1 := by omega
            have hk64 : (k : Int) + 1 ≤ 64 := by omega
            have hk0 : (0 : Int) ≤ (k : Int) + 1 := by omega
            have hwk : IntKind.u64.wrap ((k : Int) + 1) = (k : Int) + 1 := IntWalk.u64_in _ (by omega)
            have hkn : ((k : Int) + 1).toNat = k + 1 := by omega
            have hkt : k + 1 < t.length := by omega
            have hp2 := fun W (h : Ints W (.slice A t.length c) (up t)) => s_l16Parent W _ t (k + 1) h hkt HL.out
            have hpl2 := parN_le t (t.getD (k + 1) 0) (k + 1)
            obtain ⟨hc0, hc1⟩ := bit64 m (k + 1) HM.out
            have ht2 := HT.out
            rw [wayN] at ht2
            generalize parN t (t.getD (k + 1) 0) (k + 1) = p2 at hp2 hpl2 ht2
            have HP2 := Lib.hid hp2
            have HPL2 := Lib.hid hpl2
            have HT2 := Lib.hid ht2
            clear hp2 hpl2 ht2
            clear hk1 HT
            cases hbk : m.testBit (k + 1) with
            | false =>
              rw [hbk] at hc0 hc1 HT2
              simp only [cond_false, Nat.zero_add] at HT2
              clear hbk hc0 hb0 hb1
              go_wp2_with (go_at_call 153; refine (HP2.out _ ((HA.out.below HB.out).drewN n)).mono ?_; rintro e w3 ⟨rfl, n3, rfl⟩)
              go_roundw
              case rel => exact ⟨p2, f', lev, n + n3, rfl, rfl, by have := HPL2.out; omega, by have := HPL2.out; omega, by omega, hl10, HT2.out, rfl⟩
              case measure => have := HPL2.out; simp [intOf]; omega
            | true =>
              rw [hbk] at hc0 hc1 HT2
              simp only [cond_true] at HT2
              have hwl : IntKind.i64.wrap ((lev : Int) + 1) = (lev : Int) + 1 := IntWalk.i64_in _ (by omega)
              have hl9 : lev + 1 ≤ 10 := by have h1 := HT2.out; have h2 := HSF.out; omega
              clear hbk hc0 hb0 hb1
              go_wp2_with (go_at_call 153; refine (HP2.out _ ((HA.out.below HB.out).drewN n)).mono ?_; rintro e w3 ⟨rfl, n3, rfl⟩)
              go_roundw
              case rel => exact ⟨p2, f', lev + 1, n + n3, rfl, by go_num, by have := HPL2.out; omega, by have := HPL2.out; omega, by omega, hl9, by have h1 := HT2.out; show lev + 1 + _ = _; omega, rfl⟩
              case measure => have := HPL2.out; simp [intOf]; omega
          · have HLV := Lib.hid (show lev = tot from by
              have h1 := HT.out
              have h2 : wayN t m f q = 0 := by
                have : q = 0 ∨ q = 1 := by omega
                cases f with
                | zero => rfl
                | succ f => rcases this with rfl | rfl <;> rfl
              omega)
            have hkp : ¬ ((0 : Int) < (q : Int) - 1) := by omega
            have hl64 : In64 (lev : Int) := by unfold In64; omega
            have hlen : (skTo t m i).length ≤ 1000 := by
              unfold skTo
              have : ∀ n i, (cutsN m n i).length ≤ n := by
                intro n
                induction n with
                | zero => intro i; exact Nat.le_refl _
                | succ n ih => intro i; rw [cutsN]; cases m.testBit i <;> simp <;> have := ih (i + 1) <;> omega
              have := this i 1
              simp; omega
            clear HT hb0 hb1
            go_wp2_with (at_builtin; refine wpList_app1 T_int (B := w.heap.size) (HO.out.1.drewN n) (by rw [ints_len, up_len]; omega) (show w.heap.size ≤ (wo.drewN n).heap.size from HB.out.size) (by rfl) rfl (by rfl) (by rfl) (by rfl) ?_; intro v1 w5 hown1 hgr1; have HN1 := Lib.hid hown1; have HB5 := Lib.hid (hgr1.below (below_drewN HB.out n) (show w.heap.size ≤ (wo.drewN n).heap.size from HB.out.size) HO.out.1.ge); clear hown1 hgr1)
            go_roundw
            case rel =>
              refine ⟨i + 1, by omega, by go_num, ?_, HB5.out⟩
              rw [HSK.out, HBT.out, if_pos rfl, up_append]
              have e : up [tot] = [(lev : Int)] := by rw [← HLV.out]; rfl
              rw [e]
              exact ⟨by simpa [ints] using HN1.out, fun y hy => by rcases List.mem_append.1 hy with hy | hy; exact HO.out.2 y hy; simp at hy; subst hy; exact hl64⟩
            case measure => simp [intOf]; omega
    · have hin : i = t.length - 1 := by omega
      have HE := Lib.hid (show skTo t m i = sklN t m from by rw [hin]; rfl)
      rw [HE.out] at HO
      have HKL := Lib.hid (show (sklN t m).length ≤ 8 ∧ ∀ l ∈ sklN t m, l ≤ 1000000 from by
        refine ⟨?_, fun l hl => ?_⟩
        · have : ∀ n i, (cutsN m n i).length ≤ n := by
            intro n
            induction n with
            | zero => intro i; exact Nat.le_refl _
            | succ n ih => intro i; rw [cutsN]; cases m.testBit i <;> simp <;> have := ih (i + 1) <;> omega
          have := this (t.length - 1) 1
          unfold sklN
          simp; omega
        · unfold sklN at hl
          rcases List.mem_cons.1 hl with rfl | hl
          · omega
          · obtain ⟨x, hx, rfl⟩ := List.mem_map.1 hl
            have := wayN_le t m 9 (parN t (t.getD x 0) x)
            omega)
      have hlt' : ¬ ((i : Int) + 1 < (t.length : Int)) := by omega
      obtain ⟨A5, c5, ho5, -, -, -⟩ := HO.out.ints.open_
      rw [up_len] at ho5
      subst ho5
      clear hin
      go_wp2_with (go_at_call 95; refine (s_l03Canon 9 _ _ (sklN t m) r HO.out.ints HR.out (by have := HKL.out.1; omega) HKL.out.2).mono ?_; rintro e w6 ⟨x6, rfl, hx6, hb6⟩; have HX6 := Lib.hid hx6; have HB6 := Lib.hid hb6; clear hx6 hb6)
      go_ret
      exact ⟨_, rfl, HX6.out.mono HB.out.size, HB.out.trans (HB6.out.mono HB.out.size)⟩
end Go.Proofs.Ytbjeibcombjfgaa

set_option maxRecDepth 100000
set_option linter.unusedVariables false
set_option linter.unusedSimpArgs false
namespace Go.Proofs.Ytbjeibcombjfgaa
open Go.RowKit

theorem pairApart_perm {vs vs' : List Value} (h : vs.Pairwise Apart) (hp : vs'.Perm vs) : vs'.Pairwise Apart := (hp.pairwise_iff fun h => h.symm).2 h
theorem pairApart_cons {vs : List Value} {u : Value} (h : vs.Pairwise Apart) (hu : ∀ x ∈ vs, Apart x u) : (u :: vs).Pairwise Apart := List.pairwise_cons.2 ⟨fun x hx => (hu x hx).symm, h⟩
theorem pairApart_snoc {vs : List Value} {u : Value} (h : vs.Pairwise Apart) (hu : ∀ x ∈ vs, Apart x u) : (vs ++ [u]).Pairwise Apart := pairApart_perm (pairApart_cons h hu) (List.perm_append_singleton u vs)
theorem pairApart_ins {vs : List Value} {u : Value} (h : vs.Pairwise Apart) (hu : ∀ x ∈ vs, Apart x u) (a : Nat) : ([] ++ vs.take a ++ ([u] ++ vs.drop a)).Pairwise Apart := by
  refine pairApart_perm (pairApart_cons h hu) ?_
  have h1 : ([] ++ vs.take a ++ ([u] ++ vs.drop a)).Perm (u :: (vs.take a ++ vs.drop a)) := by
    rw [List.nil_append, List.singleton_append]
    exact List.perm_middle
  rwa [List.take_append_drop] at h1
/-- a row that has just been made lies apart from rows that were there -/
theorem RR.fresh {w : World} {B M : Nat} {vs : List Value} {xss : List (List Int)} {u : Value} (h : RR w B vs xss) (hM : w.heap.size ≤ M) (hu : ∀ b, u.ownBlock = some b → M ≤ b) : ∀ x ∈ vs, Apart x u := by
  intro x hx
  obtain ⟨k, hk, rfl⟩ := List.getElem_of_mem hx
  have hz : xss[k]? = some (xss[k]'(by rw [← h.1]; exact hk)) := List.getElem?_eq_getElem _
  exact apart_of_lt (fun b hb => Nat.lt_of_lt_of_le ((h.2 k _ _ (List.getElem?_eq_getElem hk) hz).1.lt b hb) hM) hu

def LA (w : World) (B : Nat) (v : Value) (xss : List (List Int)) : Prop := ∃ vs, Own w B tL v vs ∧ RR w B vs xss ∧ vs.Pairwise Apart
section
variable {w w' : World} {B : Nat} {v : Value} {xss : List (List Int)}
theorem LA.ll (h : LA w B v xss) : LL w B v xss := by obtain ⟨vs, h1, h2, -⟩ := h; exact ⟨vs, h1, h2⟩
theorem LA.below (h : LA w B v xss) (hb : Below w.heap.size w w') : LA w' B v xss := by obtain ⟨vs, h1, h2, h3⟩ := h; exact ⟨vs, h1.below hb, h2.below hb, h3⟩
theorem LA.mono {B' : Nat} (h : LA w B v xss) (hB : B' ≤ B) : LA w B' v xss := by obtain ⟨vs, h1, h2, h3⟩ := h; exact ⟨vs, h1.mono hB, h2.mono hB, h3⟩
theorem LA.rows (h : LA w B v xss) : Rows w v xss := h.ll.rows
theorem LA.nil (w : World) (B : Nat) : LA w B (.slice none 0 0) [] := ⟨[], Own.nil _ _ _, RR.nil _ _, List.Pairwise.nil⟩
theorem LA.or (h : LA w B v xss) : OR w B w.heap.size tL tI v xss := by
  obtain ⟨vs, h1, h2, h3⟩ := h
  refine ⟨vs, h1, h1.lt, h2.1, fun k u zs hu hz => OI.of (h2.2 k u zs hu hz), fun i j u u' hij hu hu' => ?_⟩
  have hi := (List.getElem?_eq_some_iff.1 hu).1
  have hj := (List.getElem?_eq_some_iff.1 hu').1
  have := List.pairwise_iff_getElem.1 h3 i j hi hj hij
  rw [(List.getElem?_eq_some_iff.1 hu).2, (List.getElem?_eq_some_iff.1 hu').2] at this
  exact this
end
end Go.Proofs.Ytbjeibcombjfgaa

set_option maxRecDepth 100000
set_option linter.unusedVariables false
set_option linter.unusedSimpArgs false
namespace Go.Proofs.Ytbjeibcombjfgaa
open Go.RowKit

theorem ints_oneT (zs : List Int) : ∀ u ∈ ints zs, u.oneCell' = true := by
  intro u hu
  obtain ⟨z, _, rfl⟩ := List.mem_map.1 hu
  rfl
theorem s_l01OwnT (w : World) (v : Value) (zs : List Int) (ha : Ints w v zs) (hn : zs.length ≤ 4294967296) :
    Calls Try.prog 125 #[v] w fun e w' => ∃ r, e = .returned r ∧ OwnInts w' w.heap.size tI r zs ∧ Below w.heap.size w w' := by
  obtain ⟨A, c, rfl, l1, l2, h3⟩ := ha.open_
  have HA := Lib.hid ha
  clear h3 ha
  have OL := Lib.hid (own_lit w tI [] (by simp [maxLen]))
  have B1 := Lib.hid (below1 w (.cells #[] tI))
  go_enter Try.func125, Try.ntmps125
  go_wp2_with (at_builtin; refine wpList_appN T_int OL.out (HA.out.below B1.out).1 (by rw [ints_len]; simp; omega) B1.out.size (ints_oneT _) rfl (by rfl) (by rfl) (by rfl) ?_; intro v1 w2 hown1 hgr1)
  go_ret
  exact ⟨_, rfl, ⟨by simpa using hown1, HA.out.2⟩, hgr1.below B1.out (by simp) OL.out.ge⟩

theorem quiet_more0 {P : Program} {f : FuncId} {args : Array Value} {w : World} {n : Nat} {v : Value}
    (h : Calls P f args (w.drewN n) fun e w' => e = .returned v ∧ ∃ m, w' = (w.drewN n).drewN m) :
    Calls P f args (w.drewN n) fun e w'' => e = .returned v ∧ ∃ m, w'' = w.drewN m :=
  h.mono fun _ _ ⟨he, m, hm⟩ => ⟨he, n + m, by rw [hm, World.drewN_drewN]⟩

set_option maxHeartbeats 8000000 in
theorem s_l03Sort (w : World) (v : Value) (bs : List (List Nat)) (ha : Rows w v (bs.map up)) (hn : bs.length ≤ 1000) (hl : ∀ b ∈ bs, b.length ≤ 1000) :
    Calls Try.prog 165 #[v] w fun e w' => ∃ x, e = .returned x ∧ LA w' w.heap.size x ((srtB bs).map up) ∧ Below w.heap.size w w' := by
  have HL := Lib.hid hl
  obtain ⟨A, c, rfl, l1, l2, h3⟩ := ha.open_
  rw [List.length_map] at l1 h3 ⊢
  have H3 := Lib.hid h3
  have OL := Lib.hid (show Own (w.alloc (.cells #[] tL)) w.heap.size tL (.slice (some ⟨w.heap.size, 0, none⟩) 0 0) [] from own_lit w tL [] (by simp [maxLen]))
  clear ha hl h3
  go_enter Try.func165, Try.ntmps165
  go_wp2_with fail
  go_loopw [3, 4] (fun sv i wr => ∃ (j : Nat) (vs : List Value), j ≤ bs.length ∧ i = .int .i64 j ∧ Own wr w.heap.size tL sv vs ∧ RR wr w.heap.size vs ((srtBF [] (bs.take j)).map up) ∧ vs.Pairwise Apart ∧ Below w.heap.size w wr) (fun _ i _ => bs.length - (intOf i).toNat)
  case atStart => exact ⟨0, [], Nat.zero_le _, rfl, OL.out, RR.nil _ _, List.Pairwise.nil, below1 _ _⟩
  case round =>
    obtain ⟨j, vs, hj, rfl, hown, hrr, hap, hbw⟩ := hrel
    clear OL
    have HAP := Lib.hid hap
    clear hap
    have hsl : (srtBF [] (bs.take j)).length = j := by have := (srtBF_perm [] (bs.take j)).length_eq; rw [this]; simp; omega
    have hvl : vs.length = j := by rw [hrr.1, List.length_map, hsl]
    obtain ⟨A2, c2, rfl, k1, k2⟩ := hown.cells.open_
    have HO := Lib.hid hown
    have HRR := Lib.hid hrr
    have HBW := Lib.hid hbw
    have HVL := Lib.hid hvl
    rw [hvl] at HO k1 ⊢
    by_cases hlt : j < bs.length
    · obtain ⟨ad, u, zs, rfl, hz, hu, hc0⟩ := H3.out j hlt
      have hc : wr.cell? (ad.add j) = some u := by
        rw [HBW.out.cell (by rw [block_add]; have := World.block_lt_of_cell? w _ hc0; rwa [block_add] at this)]; exact hc0
      have hbj : bs[j]? = some (bs[j]'hlt) := List.getElem?_eq_getElem _
      have hzb : zs = up (bs[j]'hlt) := by rw [List.getElem?_map, hbj] at hz; injection hz with hz; exact hz.symm
      subst hzb
      have HPL := Lib.hid (HL.out _ (List.mem_of_getElem? hbj))
      have HSN := Lib.hid (show srtBF [] (bs.take (j + 1)) = insB (bs[j]'hlt) (srtBF [] (bs.take j)) by rw [List.take_add_one, hbj]; exact srtBF_snoc _ _ _)
      have hu2 := hu.below hbw
      obtain ⟨Au, cu, hue, -, -, -⟩ := hu2.open_
      rw [up_len] at hue
      subst hue
      have HU := Lib.hid hu2
      have hji : (j : Int) < (bs.length : Int) := by omega
      have hj1 : j ≤ 1000 := by omega
      generalize hss : srtBF [] (bs.take j) = ss at HRR HSN hsl
      have HSL := Lib.hid hsl
      generalize bs[j]'hlt = p at HU HPL HSN hc hc0
      have HIN := Lib.hid (insB_at p ss)
      have HST := Lib.hid (insBAt_step p ss)
      have HAL := Lib.hid (show insBAt p ss ≤ j from by have := insBAt_le p ss; omega)
      have HONE := Lib.hid HRR.out.oneCell
      generalize insBAt p ss = a at HIN HST HAL
      clear hown hrr hbw hz hu hu2 hbj hss hc0 hvl hsl
      go_wp2_with fail
      obtain ⟨wo, rfl⟩ : ∃ wo : World, wo = wr := ⟨_, rfl⟩
      go_loopw [5] (fun i wi => ∃ (k n : Nat), k ≤ a ∧ i = .int .i64 k ∧ wi = wo.drewN n) (fun i _ => a - (intOf i).toNat)
      case atStart => exact ⟨0, 0, Nat.zero_le _, rfl, rfl⟩
      case round =>
        obtain ⟨k, n, hk, rfl, rfl⟩ := hrel
        have hrow : k < j → ∃ ad' u' q, A2 = some ad' ∧ wo.cell? (ad'.add k) = some u' ∧ Ints wo u' (up q) ∧ ss[k]? = some q := by
          intro hkj
          have hu' : vs[k]? = some (vs[k]'(by rw [HVL.out]; exact hkj)) := List.getElem?_eq_getElem _
          have hq : ss[k]? = some (ss[k]'(by rw [HSL.out]; exact hkj)) := List.getElem?_eq_getElem _
          have hi := HRR.out.2 k _ _ hu' (by rw [List.getElem?_map, hq]; rfl)
          obtain ⟨ad', n', c', he, hc'⟩ := HO.out.cells.at_ hu'
          simp only [Value.slice.injEq] at he
          exact ⟨ad', _, _, he.1, hc', hi.ints, hq⟩
        by_cases hlt2 : k < a
        · obtain ⟨ad', u', q, rfl, hc', hq1, hq2⟩ := hrow (by have := HAL.out; omega)
          have hless : befN p q = false := by
            rcases HST.out k q (by omega) hq2 with ⟨_, h⟩ | ⟨h, _⟩
            · omega
            · exact h
          have hbf := fun n => s_l03Before (wo.drewN n) _ _ p q (HU.out.drewN n) (hq1.drewN n)
          rw [hless] at hbf
          have HBF := Lib.hid hbf
          have hkj : (k : Int) < (j : Int) := by have := HAL.out; omega
          have hd : decide ((k : Int) < (j : Int)) = true := by simp; omega
          clear hq1 hq2 hrow hless hbf
          go_wp2_with fail
          go_quiet ((go_at_call 198; first | exact quiet_more (HBF.out _) | exact quiet_more0 (HBF.out _)))
          go_wp2_with fail
          go_roundw
          case rel => exact ⟨k + 1, _, by omega, by go_num, rfl⟩
          case measure => simp [intOf]; omega
        · have hka : a = k := by omega
          subst hka
          have haj := HAL.out
          obtain ⟨y1, hy1, hcy1⟩ := cells_from HO.out.cells HVL.out.symm a (by rw [HVL.out]; exact haj)
          obtain ⟨y2, hy2, hcy2⟩ := cells_to HO.out.cells k1 HVL.out.symm a (by rw [HVL.out]; exact haj)
          have HCY1 := Lib.hid (fun W (h : Below wo.heap.size wo W) => hcy1.below h)
          have HCY2 := Lib.hid (fun W (h : Below wo.heap.size wo W) => hcy2.below h)
          have hex : ∃ n', True := ⟨0, trivial⟩
          have hcase : (∃ ad' u' q, A2 = some ad' ∧ wo.cell? (ad'.add a) = some u' ∧ Ints wo u' (up q) ∧ befN p q = true ∧ (a : Int) < (j : Int)) ∨ j = a := by
            by_cases h : a < j
            · obtain ⟨ad', u', q, h1, h2, h3, h4⟩ := hrow h
              refine .inl ⟨ad', u', q, h1, h2, h3, ?_, by omega⟩
              rcases HST.out a q (Nat.le_refl _) h4 with ⟨h, _⟩ | ⟨_, h⟩
              · exact h
              · omega
            · exact .inr (by omega)
          clear hcy1 hcy2 hrow hlt2 hk hex
          rcases hcase with ⟨ad', u', q, rfl, hc', hq1, hless, hkj⟩ | hja
          · have hbf := fun n => s_l03Before (wo.drewN n) _ _ p q (HU.out.drewN n) (hq1.drewN n)
            rw [hless] at hbf
            have HBF := Lib.hid hbf
            have hd : decide ((a : Int) < (j : Int)) = true := by simp; omega
            clear hq1 hless hbf
            go_wp2_with fail
            go_quiet ((go_at_call 198; first | exact quiet_more (HBF.out _) | exact quiet_more0 (HBF.out _)))
            go_wp2_with fail
            rw [World.drewN_drewN]
            have HB1 := Lib.hid (below_drewN (Below.refl wo.heap.size wo) (n + nq))
            have hc1 : (wo.drewN (n + nq)).cell? (ad.add j) = some (.slice Au p.length cu) := hc
            have HU1 := Lib.hid (HU.out.drewN (n + nq))
            have hsz1 : wo.heap.size = (wo.drewN (n + nq)).heap.size := rfl
            generalize (wo.drewN (n + nq)) = w1 at HB1 hc1 HU1 hsz1 ⊢
            clear hc
            go_region_law (first
              | (go_simp; go_at_call 125; refine (s_l01OwnT _ _ (up p) (by exact HU1.out.drewN _) (by rw [up_len]; have := HPL.out; omega)).mono ?_; rintro e w2 ⟨r2, rfl, ho2, hb2⟩; obtain ⟨A5, c5, he5, -, -, -⟩ := ho2.ints.open_; rw [up_len] at he5; subst he5)
              | (refine stp_appN T_row (W := w2.alloc (.cells #[.slice A5 p.length c5] tL)) (B := w2.heap.size) (v := .slice (some ⟨w2.heap.size, 0, none⟩) 1 1) (vs := [.slice A5 p.length c5]) (y := y1) (us := vs.drop a) (own_lit w2 tL [.slice A5 p.length c5] (by simp [maxLen])) (HCY1.out _ (HB1.out.trans (((below_of_drew hb2).trans ((below1 w2 _).mono (by exact (below_of_drew hb2).size))).mono HB1.out.size))) (by have h := HVL.out; simp only [List.length_drop, List.length_cons, List.length_nil, h]; omega) (by simp) (fun u hu => HONE.out u (List.mem_of_mem_drop hu)) (by rfl) rfl (by rfl) (by rfl) ?_; intro v1 w3 hown1 hgr1))
            all_goals
              have HB2 := Lib.hid (below_of_drew hb2)
              have HAF := Lib.hid (HRR.out.fresh (M := w1.heap.size) HB1.out.size (fun b hb => ho2.1.ge b hb))
              have HO2 := Lib.hid ho2
              have HB3 := Lib.hid (hgr1.below (below1 w2 _) (below1 w2 _).size (fun b hb => by simp [Value.ownBlock] at hb; omega))
              clear hgr1 hb2 ho2 hc1
              go_wp2_with (first
                | (at_builtin; refine wpList_appN T_row (B := w3.heap.size) (v := .slice (some ⟨w3.heap.size, 0, none⟩) 0 0) (vs := []) (own_lit w3 tL [] (by simp [maxLen])) ((HCY2.out _ (HB1.out.trans ((HB2.out.trans (HB3.out.mono HB2.out.size)).mono HB1.out.size))).below (below1 w3 _)) (by have h := HVL.out; simp only [List.length_take, List.length_nil, h]; omega) (by simp) (fun u hu => HONE.out u (List.mem_of_mem_take hu)) (by rfl) rfl (by rfl) (by rfl) ?_; intro v2 w4 hown2 hgr2; have HB4 := Lib.hid (hgr2.below (below1 w3 _) (below1 w3 _).size (fun b hb => by simp [Value.ownBlock] at hb; omega)); clear hgr2)
                | (at_builtin; refine wpList_appN T_row (B := w3.heap.size) (v := v2) hown2 (hown1.below HB4.out).cells (by have h := HVL.out; simp only [List.length_append, List.length_take, List.length_drop, List.length_cons, List.length_nil, h]; omega) HB4.out.size (fun u hu => by rcases List.mem_append.1 hu with hu | hu; (simp at hu; subst hu; exact (RR.one HO2.out).oneCell _ (by simp)); exact HONE.out u (List.mem_of_mem_drop hu)) (by rfl) rfl (by rfl) (by rfl) ?_; intro v3 w5 hown3 hgr3; have HB5 := Lib.hid (hgr3.below HB4.out HB4.out.size hown2.ge); clear hgr3))
              go_roundw
              case rel =>
                have b25 := HB3.out.trans (HB5.out.mono HB3.out.size)
                have b15 := HB2.out.trans (b25.mono HB2.out.size)
                have bw5 := HB1.out.trans (b15.mono HB1.out.size)
                have hs1 := HB1.out.size
                have hs2 := HB2.out.size
                have hs3 := HB3.out.size
                refine ⟨j + 1, _, by omega, by go_num, hown3.mono (Nat.le_trans HBW.out.size (by omega)), ?_, pairApart_ins HAP.out HAF.out _, HBW.out.trans (bw5.mono HBW.out.size)⟩
                rw [HSN.out, HIN.out, List.map_append, List.map_cons, List.map_take, List.map_drop]
                exact (HRR.out.below bw5).insert ((HO2.out.below b25).mono (Nat.le_trans HBW.out.size hs1)) _
              case measure => simp [intOf]; omega
          · have hd : decide ((a : Int) < (j : Int)) = false := by simp; omega
            have hd' : ¬ ((a : Int) < (j : Int)) := by omega
            have hd2 : ¬ (a < j) := by omega
            have hd3 : decide (a < j) = false := by simp; omega
            clear hja
            go_wp2_with fail
            go_quiet (fail)
            go_wp2_with fail
            rw [World.drewN_drewN]
            have HB1 := Lib.hid (below_drewN (Below.refl wo.heap.size wo) (n + nq))
            have hc1 : (wo.drewN (n + nq)).cell? (ad.add j) = some (.slice Au p.length cu) := hc
            have HU1 := Lib.hid (HU.out.drewN (n + nq))
            have hsz1 : wo.heap.size = (wo.drewN (n + nq)).heap.size := rfl
            generalize (wo.drewN (n + nq)) = w1 at HB1 hc1 HU1 hsz1 ⊢
            clear hc
            go_region_law (first
              | (go_simp; go_at_call 125; refine (s_l01OwnT _ _ (up p) (by exact HU1.out.drewN _) (by rw [up_len]; have := HPL.out; omega)).mono ?_; rintro e w2 ⟨r2, rfl, ho2, hb2⟩; obtain ⟨A5, c5, he5, -, -, -⟩ := ho2.ints.open_; rw [up_len] at he5; subst he5)
              | (refine stp_appN T_row (W := w2.alloc (.cells #[.slice A5 p.length c5] tL)) (B := w2.heap.size) (v := .slice (some ⟨w2.heap.size, 0, none⟩) 1 1) (vs := [.slice A5 p.length c5]) (y := y1) (us := vs.drop a) (own_lit w2 tL [.slice A5 p.length c5] (by simp [maxLen])) (HCY1.out _ (HB1.out.trans (((below_of_drew hb2).trans ((below1 w2 _).mono (by exact (below_of_drew hb2).size))).mono HB1.out.size))) (by have h := HVL.out; simp only [List.length_drop, List.length_cons, List.length_nil, h]; omega) (by simp) (fun u hu => HONE.out u (List.mem_of_mem_drop hu)) (by rfl) rfl (by rfl) (by rfl) ?_; intro v1 w3 hown1 hgr1))
            all_goals
              have HB2 := Lib.hid (below_of_drew hb2)
              have HAF := Lib.hid (HRR.out.fresh (M := w1.heap.size) HB1.out.size (fun b hb => ho2.1.ge b hb))
              have HO2 := Lib.hid ho2
              have HB3 := Lib.hid (hgr1.below (below1 w2 _) (below1 w2 _).size (fun b hb => by simp [Value.ownBlock] at hb; omega))
              clear hgr1 hb2 ho2 hc1
              go_wp2_with (first
                | (at_builtin; refine wpList_appN T_row (B := w3.heap.size) (v := .slice (some ⟨w3.heap.size, 0, none⟩) 0 0) (vs := []) (own_lit w3 tL [] (by simp [maxLen])) ((HCY2.out _ (HB1.out.trans ((HB2.out.trans (HB3.out.mono HB2.out.size)).mono HB1.out.size))).below (below1 w3 _)) (by have h := HVL.out; simp only [List.length_take, List.length_nil, h]; omega) (by simp) (fun u hu => HONE.out u (List.mem_of_mem_take hu)) (by rfl) rfl (by rfl) (by rfl) ?_; intro v2 w4 hown2 hgr2; have HB4 := Lib.hid (hgr2.below (below1 w3 _) (below1 w3 _).size (fun b hb => by simp [Value.ownBlock] at hb; omega)); clear hgr2)
                | (at_builtin; refine wpList_appN T_row (B := w3.heap.size) (v := v2) hown2 (hown1.below HB4.out).cells (by have h := HVL.out; simp only [List.length_append, List.length_take, List.length_drop, List.length_cons, List.length_nil, h]; omega) HB4.out.size (fun u hu => by rcases List.mem_append.1 hu with hu | hu; (simp at hu; subst hu; exact (RR.one HO2.out).oneCell _ (by simp)); exact HONE.out u (List.mem_of_mem_drop hu)) (by rfl) rfl (by rfl) (by rfl) ?_; intro v3 w5 hown3 hgr3; have HB5 := Lib.hid (hgr3.below HB4.out HB4.out.size hown2.ge); clear hgr3))
              go_roundw
              case rel =>
                have b25 := HB3.out.trans (HB5.out.mono HB3.out.size)
                have b15 := HB2.out.trans (b25.mono HB2.out.size)
                have bw5 := HB1.out.trans (b15.mono HB1.out.size)
                have hs1 := HB1.out.size
                have hs2 := HB2.out.size
                have hs3 := HB3.out.size
                refine ⟨j + 1, _, by omega, by go_num, hown3.mono (Nat.le_trans HBW.out.size (by omega)), ?_, pairApart_ins HAP.out HAF.out _, HBW.out.trans (bw5.mono HBW.out.size)⟩
                rw [HSN.out, HIN.out, List.map_append, List.map_cons, List.map_take, List.map_drop]
                exact (HRR.out.below bw5).insert ((HO2.out.below b25).mono (Nat.le_trans HBW.out.size hs1)) _
              case measure => simp [intOf]; omega
    · have : j = bs.length := by omega
      subst this
      rw [List.take_length] at HRR
      go_wp2_with fail
      go_ret
      exact ⟨_, rfl, ⟨vs, HO.out, HRR.out, HAP.out⟩, HBW.out⟩
end Go.Proofs.Ytbjeibcombjfgaa

set_option maxRecDepth 100000
set_option linter.unusedVariables false
set_option linter.unusedSimpArgs false
namespace Go.Proofs.Ytbjeibcombjfgaa
open Go.RowKit

theorem ints_oneV (zs : List Int) : ∀ u ∈ ints zs, u.oneCell' = true := by
  intro u hu
  obtain ⟨z, _, rfl⟩ := List.mem_map.1 hu
  rfl

set_option maxHeartbeats 1000000 in
theorem lib_Clone (w : World) (v : Value) (zs : List Int) (ha : Ints w v zs) (hn : zs.length ≤ 4294967296) :
    Calls Try.prog 151 #[v] w fun e w' => ∃ r, e = .returned r ∧ OwnInts w' w.heap.size tI r zs ∧ Below w.heap.size w w' := by
  obtain ⟨A, c, rfl, l1, l2, h3⟩ := ha.open_
  have HA := Lib.hid ha
  clear h3 ha
  have OL := Lib.hid (own_lit w tI [] (by simp [maxLen]))
  have B1 := Lib.hid (below1 w (.cells #[] tI))
  have en := fun (W : World) (a : Option Addr) (n c : Nat) => Lib.run_eql_slice_nil (P := Try.prog) W 25 2 a n c 0 0 Try.underlying25
  go_enter Try.func151, Try.ntmps151
  cases A with
  | none =>
    have HZ := Lib.hid (show zs = [] by
      obtain ⟨A, c', hv, -, -, h3⟩ := HA.out.open_
      simp only [Value.slice.injEq] at hv
      obtain ⟨rfl, -, -⟩ := hv
      cases zs with
      | nil => rfl
      | cons z r => obtain ⟨ad, _, hA, _⟩ := h3 0 (by simp); cases hA)
    go_wp2_with fail
    go_ret
    refine ⟨_, rfl, ?_, Below.refl _ _⟩
    rw [HZ.out]
    exact OwnInts.nil _ _ _
  | some ad =>
    go_wp2_with (at_builtin; refine wpList_appN T_int OL.out (HA.out.below B1.out).1 (by rw [ints_len]; simp; omega) B1.out.size (ints_oneV _) rfl (by rfl) (by rfl) (by rfl) ?_; intro v1 w2 hown1 hgr1)
    go_ret
    exact ⟨_, rfl, ⟨by simpa using hown1, HA.out.2⟩, hgr1.below B1.out (by simp) OL.out.ge⟩

end Go.Proofs.Ytbjeibcombjfgaa

