/- Walks: nodesIn, compareTrunks, compareForests, the comparison of cuts; slices.SortFunc at cuts. | Walks: the comparison of cuts; slices.SortFunc at cuts. | Words: lists of structs that are stored into; equal ones in a list in order gathered with their numbers. No program in sight. | A region that draws its order, whose operations yield one value each in every world of a class S, and leave a world of S: one walk in the order of the text. No program in sight. | Walks: masks: l16Mask of the reference, isCutMask of the program. | Walks: isCutMask, checkCutMask of the program; l16Code of the reference. | Plain: a canonical tree cut up above the nodes of a mask: the program's pieces and skeleton and the reference's are made from the same lists. | Walks: isCutMask, checkCutMask of the program. | Plain: what holds of the program's state while it cuts a tree up. | A region that draws its order and stores at its end what it has loaded: those loads may be taken first. No program in sight. | Steps in a region that draws: append of one element, of a list, make. No program in sight. | Walks: l03Before, l03Sort, l16Skeleton of the reference. | Walk: l03Sort of the reference. | Plain: all trees with n nodes, from a canonical list to the next smaller one. -/
import Derived.Test.YtdjhfeaimmpmhaaGreatZc9
import Derived.Shelf.SlGeneric
import Derived.Ground.SlsfProg
import Derived.BigQuiet
import Derived.Below
import Derived.Test.YtdjhfeaimmpmhaaGreatZc7
import Derived.Test.YtdjhfeaimmpmhaaGreatZc8
import Derived.OrdersHeld
import Derived.RegionTactic
import Derived.Deep.RegionHeld
import Derived.Test.YtdjhfeaimmpmhaaGreatZc5
import Derived.Test.YtdjhfeaimmpmhaaGreatZc6
import Derived.Deep.QuietTactic
import Derived.Deep.RegionLaw
set_option maxRecDepth 100000
set_option linter.unusedVariables false
set_option linter.unusedSimpArgs false
namespace Go.Proofs
open Go.Shelf Go.RowKit Go.Lib Go.Sort
def Tryz.ssort_ren : Go.Shelf.Ren := ⟨fun | 6 => 212 | 15 => 230 | 14 => 235 | 28 => 249 | 29 => 250 | 20 => 252 | 21 => 253 | 22 => 254 | 23 => 255 | 24 => 256 | 25 => 257 | 26 => 258 | 27 => 259 | 46 => 271 | 47 => 266 | 48 => 267 | 49 => 272 | 50 => 273 | 57 => 276 | n => n, fun | 22 => 141 | 24 => 145 | 25 => 161 | 3 => 3 | 39 => 102 | 0 => 0 | 53 => 189 | 55 => 34 | 4 => 4 | 46 => 183 | 45 => 182 | 50 => 104 | 5 => 5 | 9 => 9 | 66 => 204 | 70 => 208 | 76 => 212 | 77 => 213 | n => n, fun | n => n⟩
theorem Tryz.ssort : Go.Proofs.SlLaysF0.n6 Tryz.prog Tryz.ssort_ren := {
  mixed := by kernel_rfl
  f6 := ⟨Tryz.f212.name, by decide, Tryz.func212.trans (congrArg some (by kernel_rfl))⟩
  f14 := ⟨Tryz.f235.name, by decide, Tryz.func235.trans (congrArg some (by kernel_rfl))⟩
  f15 := Tryz.func230.trans (congrArg some (by kernel_rfl))
  f20 := ⟨Tryz.f252.name, by decide, Tryz.func252.trans (congrArg some (by kernel_rfl))⟩
  f21 := ⟨Tryz.f253.name, by decide, Tryz.func253.trans (congrArg some (by kernel_rfl))⟩
  f22 := ⟨Tryz.f254.name, by decide, Tryz.func254.trans (congrArg some (by kernel_rfl))⟩
  f23 := ⟨Tryz.f255.name, by decide, Tryz.func255.trans (congrArg some (by kernel_rfl))⟩
  f24 := ⟨Tryz.f256.name, by decide, Tryz.func256.trans (congrArg some (by kernel_rfl))⟩
  f25 := ⟨Tryz.f257.name, by decide, Tryz.func257.trans (congrArg some (by kernel_rfl))⟩
  f26 := ⟨Tryz.f258.name, by decide, Tryz.func258.trans (congrArg some (by kernel_rfl))⟩
  f27 := ⟨Tryz.f259.name, by decide, Tryz.func259.trans (congrArg some (by kernel_rfl))⟩
  f28 := Tryz.func249.trans (congrArg some (by kernel_rfl))
  f29 := Tryz.func250.trans (congrArg some (by kernel_rfl))
  f46 := ⟨Tryz.f271.name, by decide, Tryz.func271.trans (congrArg some (by kernel_rfl))⟩
  f47 := Tryz.func266.trans (congrArg some (by kernel_rfl))
  f48 := Tryz.func267.trans (congrArg some (by kernel_rfl))
  f49 := ⟨Tryz.f272.name, by decide, Tryz.func272.trans (congrArg some (by kernel_rfl))⟩
  f50 := ⟨Tryz.f273.name, by decide, Tryz.func273.trans (congrArg some (by kernel_rfl))⟩
  f57 := ⟨Tryz.f276.name, by decide, Tryz.func276.trans (congrArg some (by kernel_rfl))⟩
  t0 := Tryz.underlying0
  a0 := Tryz.isAgg0
  z0 := Tryz.sizeOf0
  v0 := Tryz.zeroValue0
  t3 := Tryz.underlying3
  a3 := Tryz.isAgg3
  z3 := Tryz.sizeOf3
  v3 := Tryz.zeroValue3
  t4 := Tryz.underlying4
  a4 := Tryz.isAgg4
  z4 := Tryz.sizeOf4
  v4 := Tryz.zeroValue4
  t5 := Tryz.underlying5
  a5 := Tryz.isAgg5
  z5 := Tryz.sizeOf5
  v5 := Tryz.zeroValue5
  t9 := Tryz.underlying9
  a9 := Tryz.isAgg9
  z9 := Tryz.sizeOf9
  v9 := Tryz.zeroValue9
  t22 := Tryz.underlying141
  a22 := Tryz.isAgg141
  z22 := Tryz.sizeOf141
  v22 := Tryz.zeroValue141
  t25 := Tryz.underlying161
  a25 := Tryz.isAgg161
  z25 := Tryz.sizeOf161
  v25 := Tryz.zeroValue161
  t39 := Tryz.underlying102
  a39 := Tryz.isAgg102
  z39 := Tryz.sizeOf102
  v39 := Tryz.zeroValue102
  t45 := Tryz.underlying182
  a45 := Tryz.isAgg182
  z45 := Tryz.sizeOf182
  v45 := Tryz.zeroValue182
  t46 := Tryz.underlying183
  a46 := Tryz.isAgg183
  z46 := Tryz.sizeOf183
  v46 := Tryz.zeroValue183
  t50 := Tryz.underlying104
  a50 := Tryz.isAgg104
  z50 := Tryz.sizeOf104
  v50 := Tryz.zeroValue104
  t53 := Tryz.underlying189
  a53 := Tryz.isAgg189
  z53 := Tryz.sizeOf189
  v53 := Tryz.zeroValue189
  t55 := Tryz.underlying34
  a55 := Tryz.isAgg34
  z55 := Tryz.sizeOf34
  v55 := Tryz.zeroValue34
  t66 := Tryz.underlying204
  a66 := Tryz.isAgg204
  z66 := Tryz.sizeOf204
  v66 := Tryz.zeroValue204
  t70 := Tryz.underlying208
  a70 := Tryz.isAgg208
  z70 := Tryz.sizeOf208
  v70 := Tryz.zeroValue208
  t76 := Tryz.underlying212
  a76 := Tryz.isAgg212
  z76 := Tryz.sizeOf212
  v76 := Tryz.zeroValue212
  t77 := Tryz.underlying213
  a77 := Tryz.isAgg213
  z77 := Tryz.sizeOf213
  v77 := Tryz.zeroValue213 }
end Go.Proofs
namespace Go.Proofs.YtdjhfeaimmpmhaaGreat
open Go.RowKit Go.Sort Go.Shelf

abbrev tSp : TypeId := 145
theorem lex_lt {α β : Type} {l1 : α → α → Bool} {l2 : β → β → Bool} (h1 : STO l1) {a b : α} {a' b' : β} {c1 c2 : Int} (e1 : decide (c1 < 0) = l1 a b) (z1 : c1 = 0 ↔ a = b) (e2 : decide (c2 < 0) = l2 a' b') : decide ((if c1 = 0 then c2 else c1) < 0) = lexP l1 l2 (a, a') (b, b') := by
  by_cases h : c1 = 0
  · have := z1.1 h
    subst this
    rw [if_pos h, lexP_eq h1, e2]
  · rw [if_neg h]
    cases h2 : l1 a b with
    | true => rw [lexP_tt (a := (a, a')) (b := (b, b')) h2, e1, h2]
    | false =>
      have h3 : l1 b a = true := by
        cases h4 : l1 b a with
        | true => rfl
        | false => exact absurd (z1.2 (h1.tri h2 h4)) h
      rw [e1, h2]
      simp [lexP, h2, h3]
theorem lex_zero {α β : Type} {a b : α} {a' b' : β} {c1 c2 : Int} (z1 : c1 = 0 ↔ a = b) (z2 : c2 = 0 ↔ a' = b') : (if c1 = 0 then c2 else c1) = 0 ↔ (a, a') = (b, b') := by
  by_cases h : c1 = 0
  · rw [if_pos h, z2, z1.1 h]; simp
  · rw [if_neg h]
    constructor
    · intro h'; exact absurd h' h
    · intro h'; injection h' with h1 _; exact absurd (z1.2 h1) h
theorem nat_lt (m n : Nat) : decide (((m : Int) - (n : Int)) < 0) = Nat.blt m n := by
  cases h : Nat.blt m n with
  | true => have := (blt_iff _ _).1 h; exact decide_eq_true (by omega)
  | false =>
    have : ¬ m < n := fun h2 => by rw [(blt_iff _ _).2 h2] at h; cases h
    exact decide_eq_false (by omega)
theorem nat_zero (m n : Nat) : ((m : Int) - (n : Int)) = 0 ↔ m = n := by omega
def cmpK (f g : List (List Nat)) : Int := if (f.length : Int) - (g.length : Int) = 0 then cmpFL f g else (f.length : Int) - (g.length : Int)
theorem cmpK_lt (f g : List (List Nat)) : decide (cmpK f g < 0) = ltK f g := lex_lt STO.nat (nat_lt _ _) (nat_zero _ _) (cmpFL_lt f g)
theorem cmpK_zero (f g : List (List Nat)) : cmpK f g = 0 ↔ f = g := by
  unfold cmpK
  rw [lex_zero (nat_zero _ _) (cmpFL_zero f g)]
  constructor
  · intro h; injection h
  · rintro rfl; rfl
def cmpW (f g : List (List Nat)) : Int := if (ndN f : Int) - (ndN g : Int) = 0 then cmpK f g else (ndN f : Int) - (ndN g : Int)
theorem cmpW_lt (f g : List (List Nat)) : decide (cmpW f g < 0) = ltW f g := lex_lt STO.nat (nat_lt _ _) (nat_zero _ _) (cmpK_lt f g)
theorem cmpW_zero (f g : List (List Nat)) : cmpW f g = 0 ↔ f = g := by
  unfold cmpW
  rw [lex_zero (nat_zero _ _) (cmpK_zero f g)]
  constructor
  · intro h; injection h
  · rintro rfl; rfl
def cmpS (x y : SP) : Int := if cmpW x.1 y.1 = 0 then cmpK x.2 y.2 else cmpW x.1 y.1
theorem cmpS_lt (x y : SP) : decide (cmpS x y < 0) = ltS x y := lex_lt STO.ltW (cmpW_lt _ _) (cmpW_zero _ _) (cmpK_lt x.2 y.2)
theorem ndN_snoc (f : List (List Nat)) (t : List Nat) : ndN (f ++ [t]) = ndN f + t.length := by
  induction f with
  | nil => simp [ndN]
  | cons x xs ih => simp [ndN, ih]; omega
theorem ndN_take (f : List (List Nat)) : ∀ k, ndN (f.take k) ≤ ndN f := by
  induction f with
  | nil => simp [ndN]
  | cons x xs ih =>
    intro k
    cases k with
    | zero => simp [ndN]
    | succ k => simp only [List.take_succ_cons, ndN]; have := ih k; omega
set_option maxHeartbeats 4000000 in
theorem i_nodesIn (w : World) (v : Value) (f : List (List Nat)) (ha : Rows w v (f.map up)) (hn : ndN f ≤ 1000000) :
    Calls Tryz.prog 233 #[v] w fun e w' => e = .returned (.int .i64 (ndN f : Nat)) ∧ w = w' := by
  obtain ⟨A, c, rfl, l1, l2, h3⟩ := rowsAt ha
  have H3 := Lib.hid h3
  have HNT := Lib.hid (ndN_take f)
  clear ha h3
  go_enter Tryz.func233, Tryz.ntmps233
  go_wp2_with fail
  go_loopw [3, 8] (fun s i wr => ∃ k : Nat, k ≤ f.length ∧ i = .int .i64 k ∧ s = .int .i64 (ndN (f.take k) : Nat) ∧ w = wr) (fun _ i _ => f.length - (intOf i).toNat)
  case atStart => exact ⟨0, Nat.zero_le _, rfl, by simp [ndN], rfl⟩
  case round =>
    obtain ⟨k, hk, rfl, rfl, rfl⟩ := hrel
    have hnt := HNT.out k
    by_cases hlt : k < f.length
    · obtain ⟨ad, q, A5, c5, rfl, hq, hiq, hcq⟩ := H3.out k hlt
      have HS := Lib.hid (show ndN (f.take (k + 1)) = ndN (f.take k) + q.length from by rw [List.take_add_one, hq]; exact ndN_snoc _ _)
      have hnt1 := HNT.out (k + 1)
      have hnt2 : ndN (f.take k) + q.length ≤ 1000000 := by rw [← HS.out]; omega
      have hki : (k : Int) < (f.length : Int) := by omega
      clear hq hiq hnt1
      generalize ndN (f.take k) = s at *
      have hw1 : IntKind.i64.wrap ((s : Int) + (q.length : Int)) = (s : Int) + (q.length : Int) := IntWalk.i64_in _ (by omega)
      go_wp2_with fail
      go_roundw
      case rel => clear hw1; exact ⟨k + 1, by omega, by go_num, by rw [HS.out]; congr 1, by first | rfl | trivial⟩
      case measure => clear hw1; simp [intOf]; omega
    · have hkl : k = f.length := by omega
      have HS := Lib.hid (show ndN (f.take k) = ndN f from by rw [hkl, List.take_length])
      rw [HS.out]
      go_wp2_with fail
      go_ret
      exact ⟨rfl, rfl⟩

set_option maxHeartbeats 4000000 in
theorem i_compareTrunks (w : World) (v v' : Value) (f g : List (List Nat)) (ha : Rows w v (f.map up)) (hb : Rows w v' (g.map up)) (hf : f.length ≤ 1000000) (hg : g.length ≤ 1000000) :
    Calls Tryz.prog 211 #[v, v'] w fun e w' => e = .returned (.int .i64 (cmpK f g)) ∧ w = w' := by
  have HC := Lib.hid (lib_CompareTrees w v v' f g ha hb)
  obtain ⟨A, c, rfl, l1, l2, -⟩ := rowsAt ha
  obtain ⟨B, d, rfl, m1, m2, -⟩ := rowsAt hb
  clear ha hb
  by_cases h : f.length = g.length
  · have HE := Lib.hid (show cmpK f g = cmpFL f g from by unfold cmpK; rw [h]; simp)
    rw [HE.out]
    have hd : ((f.length : Int) != (g.length : Int)) = false := by simp [h]
    clear h
    go_enter Tryz.func211, Tryz.ntmps211
    go_wp2_with (go_at_call 234; refine HC.out.mono ?_; rintro e w1 ⟨rfl, rfl⟩)
    go_ret
    exact ⟨rfl, rfl⟩
  · have HE := Lib.hid (show cmpK f g = (f.length : Int) - (g.length : Int) from by unfold cmpK; rw [if_neg (by omega)])
    rw [HE.out]
    have hd : ((f.length : Int) != (g.length : Int)) = true := by simp; omega
    have hw1 : IntKind.i64.wrap ((f.length : Int) - (g.length : Int)) = (f.length : Int) - (g.length : Int) := IntWalk.i64_in _ (by omega)
    clear h
    go_enter Tryz.func211, Tryz.ntmps211
    go_wp2_with fail
    go_ret
    exact ⟨rfl, rfl⟩

set_option maxHeartbeats 4000000 in
theorem i_compareForests (w : World) (v v' : Value) (f g : List (List Nat)) (ha : Rows w v (f.map up)) (hb : Rows w v' (g.map up)) (hf : f.length ≤ 1000000) (hg : g.length ≤ 1000000) (hnf : ndN f ≤ 1000000) (hng : ndN g ≤ 1000000) :
    Calls Tryz.prog 210 #[v, v'] w fun e w' => e = .returned (.int .i64 (cmpW f g)) ∧ w = w' := by
  have HC := Lib.hid (i_compareTrunks w v v' f g ha hb hf hg)
  have HN1 := Lib.hid (i_nodesIn w v f ha hnf)
  have HN2 := Lib.hid (i_nodesIn w v' g hb hng)
  obtain ⟨R, hR⟩ : ∃ R, R = cmpW f g := ⟨_, rfl⟩
  rw [← hR]
  unfold cmpW at hR
  generalize ndN f = m at hnf HN1 hR
  generalize ndN g = n at hng HN2 hR
  clear ha hb
  have hw1 : IntKind.i64.wrap ((m : Int) - (n : Int)) = (m : Int) - (n : Int) := IntWalk.i64_in _ (by omega)
  by_cases h : m = n
  · have HE := Lib.hid (show R = cmpK f g from by rw [hR, if_pos (by omega)])
    have hd : ((m : Int) - (n : Int) != 0) = false := by simp; omega
    have hd2 : (m : Int) - (n : Int) = 0 := by omega
    clear h hR
    go_enter Tryz.func210, Tryz.ntmps210
    go_wp2_with (first
      | (go_at_call 233; (with_reducible refine HN1.out.mono ?_); rintro e w1 ⟨rfl, rfl⟩)
      | (go_at_call 233; (with_reducible refine HN2.out.mono ?_); rintro e w1 ⟨rfl, rfl⟩)
      | (go_at_call 211; refine HC.out.mono ?_; rintro e w1 ⟨rfl, rfl⟩))
    go_ret
    exact ⟨ret_i64 HE.out.symm, rfl⟩
  · have HE := Lib.hid (show R = (m : Int) - (n : Int) from by rw [hR, if_neg (by omega)])
    have hd : ((m : Int) - (n : Int) != 0) = true := by simp; omega
    have hd2 : ¬ ((m : Int) - (n : Int) = 0) := by omega
    clear h hR
    go_enter Tryz.func210, Tryz.ntmps210
    go_wp2_with (first
      | (go_at_call 233; (with_reducible refine HN1.out.mono ?_); rintro e w1 ⟨rfl, rfl⟩)
      | (go_at_call 233; (with_reducible refine HN2.out.mono ?_); rintro e w1 ⟨rfl, rfl⟩))
    go_ret
    exact ⟨ret_i64 HE.out.symm, rfl⟩
end Go.Proofs.YtdjhfeaimmpmhaaGreat

set_option maxRecDepth 100000
set_option linter.unusedVariables false
set_option linter.unusedSimpArgs false
namespace Go.Proofs.YtdjhfeaimmpmhaaGreat
open Go.RowKit Go.Sort Go.Shelf

theorem LL.keptE {w w' : World} {B : Nat} {u v : Value} {e : TypeId} {xss : List (List Int)} (h : LL w B u xss) (hg : w.grownBy w' v.ownBlock) (hb : BT w e v) (h1 : tI ≠ e) (h2 : tL ≠ e) : LL w' B u xss := by
  obtain ⟨vs, a, b⟩ := h
  exact ⟨vs, a.kept hg (a.bt.ne hb h2), ⟨b.1, fun k u zs hu hz => (b.2 k u zs hu hz).kept hg ((b.2 k u zs hu hz).1.bt.ne hb h1)⟩⟩
/-- a forest that may be looked at: not too many nodes -/
def fldF : Fld (List (List Nat)) where
  P w B u x := LL w B u (x.map up) ∧ x.length ≤ 1000000 ∧ ndN x ≤ 1000000
  one h := by
    obtain ⟨A, c, rfl, -⟩ := h.1.rows.open_
    cases A <;> rfl
  below h hb := ⟨h.1.below hb, h.2⟩
  mono h hB := ⟨h.1.mono hB, h.2⟩
  kept h hg hb h1 h2 := ⟨h.1.keptE hg hb h1 h2, h.2⟩
abbrev eSp (n : Nat) : Elt SP := elt2 fldF fldF n
abbrev eSc : Elt (SP × Nat) := elt3 fldF fldF

set_option maxHeartbeats 4000000 in
theorem i_cmpSplit (W : World) (B B' : Nat) (c c' : List Value) (x y : SP) (n m : Nat) (hx : eSc.D W B c (x, n)) (hy : eSc.D W B' c' (y, m)) :
    Calls Tryz.prog 209 #[.agg c.toArray, .agg c'.toArray] W fun e w' => e = .returned (.int .i64 (cmpS x y)) ∧ ∃ q os, w' = grow (W.drewN q) os := by
  obtain ⟨u, s, rfl, hu0, hs0⟩ := hx
  obtain ⟨u', s', rfl, hu0', hs0'⟩ := hy
  have hu1 : LL W B u (x.1.map up) ∧ x.1.length ≤ 1000000 ∧ ndN x.1 ≤ 1000000 := hu0
  have hu1' : LL W B' u' (y.1.map up) ∧ y.1.length ≤ 1000000 ∧ ndN y.1 ≤ 1000000 := hu0'
  have hs1 : LL W B s (x.2.map up) ∧ x.2.length ≤ 1000000 ∧ ndN x.2 ≤ 1000000 := hs0
  have hs1' : LL W B' s' (y.2.map up) ∧ y.2.length ≤ 1000000 ∧ ndN y.2 ≤ 1000000 := hs0'
  clear hu0 hu0' hs0 hs0'
  have hu := hu1.1.rows
  have hu' := hu1'.1.rows
  have hs := hs1.1.rows
  have hs' := hs1'.1.rows
  have HU := Lib.hid hu
  have HU' := Lib.hid hu'
  have HS := Lib.hid hs
  have HS' := Lib.hid hs'
  obtain ⟨A1, c1, rfl, -, -, -⟩ := hu.open_
  obtain ⟨A2, c2, rfl, -, -, -⟩ := hu'.open_
  obtain ⟨A3, c3, rfl, -, -, -⟩ := hs.open_
  obtain ⟨A4, c4, rfl, -, -, -⟩ := hs'.open_
  simp only [List.length_map] at HU HU' HS HS' ⊢
  obtain ⟨R, hR⟩ : ∃ R, R = cmpS x y := ⟨_, rfl⟩
  rw [← hR]
  have hR2 : R = if cmpW x.1 y.1 = 0 then cmpK x.2 y.2 else cmpW x.1 y.1 := hR
  have hct := fun W h h' => i_compareForests W (.slice A1 x.1.length c1) (.slice A2 y.1.length c2) x.1 y.1 h h' hu1.2.1 hu1'.2.1 hu1.2.2 hu1'.2.2
  have hfl := fun W h h' => i_compareTrunks W (.slice A3 x.2.length c3) (.slice A4 y.2.length c4) x.2 y.2 h h' hs1.2.1 hs1'.2.1
  generalize cmpW x.1 y.1 = z at hR2 hct
  generalize cmpK x.2 y.2 = z2 at hR2 hfl
  have HCT := Lib.hid hct
  have HFL := Lib.hid hfl
  clear hu hu' hs hs' hct hfl hR hu1 hu1' hs1 hs1'
  have HBB := Lib.hid (fun o o' => show Below W.heap.size W ((W.alloc o).alloc o') from ((Below.refl W.heap.size W).alloc (Nat.le_refl _) _).alloc (by simp) _)
  by_cases hz : z = 0
  · subst hz
    rw [if_pos rfl] at hR2
    have HR := Lib.hid hR2
    clear hR2
    go_enter Tryz.func209, Tryz.ntmps209
    go_wp2_with (first
      | (go_at_call 210; go_loud (refine (HCT.out _ (HU.out.below (HBB.out _ _)) (HU'.out.below (HBB.out _ _))).mono ?_; rintro e w1 ⟨rfl, rfl⟩))
      | (go_at_call 211; go_loud (refine (HFL.out _ (HS.out.below (HBB.out _ _)) (HS'.out.below (HBB.out _ _))).mono ?_; rintro e w2 ⟨rfl, rfl⟩)))
    go_ret
    exact ⟨ret_i64 HR.out.symm, 0, _, by rw [alloc_eq_grow, alloc_eq_grow, grow_grow]; rfl⟩
  · rw [if_neg hz] at hR2
    have HR := Lib.hid hR2
    have hz2 : (z != 0) = true := by simpa using hz
    clear hR2
    go_enter Tryz.func209, Tryz.ntmps209
    go_wp2_with (first
      | (go_at_call 210; go_loud (refine (HCT.out _ (HU.out.below (HBB.out _ _)) (HU'.out.below (HBB.out _ _))).mono ?_; rintro e w1 ⟨rfl, rfl⟩)))
    go_ret
    exact ⟨ret_i64 HR.out.symm, 0, _, by rw [alloc_eq_grow, alloc_eq_grow, grow_grow]; rfl⟩

theorem lib_SortSplit (w : World) (B cap : Nat) (A : Option Addr) (css : List (List Value)) (xs : List SP) (h : OwnK w B tSp 3 (.slice A css.length cap) css) (hr : Elts (eSp 1) w B css xs) (hn : css.length ≤ 1000000) :
    Calls Tryz.prog 212 #[.slice A css.length cap, .func (.func 209) #[] #[]] w fun e w' => e = .returned (.tuple #[]) ∧
      ∃ css', css'.length = css.length ∧ OwnK w' B tSp 3 (.slice A css.length cap) css' ∧ Elts (eSp 1) w' B css' (srtS ltS xs) ∧ w.grownBy w' (Value.ownBlock (.slice A css.length cap)) := by
  have aE : ∀ w, (isAgg tSp).run Tryz.prog w = .ok true w := fun w => by kernel_rfl
  have zE : ∀ w, (Go.sizeOf tSp).run Tryz.prog w = .ok 3 w := fun w => by kernel_rfl
  have eg : ∀ args w, (callFunc 209 args).run Tryz.prog w = .ok (.enter 209 args) w := enters_of Tryz.func209 (by kernel_rfl) rfl
  exact sort_elts Tryz.ssort (eSp 1) (e := tSp) aE zE ltS STO.ltS cmpS cmpS_lt 209 eg (by decide) (by decide) (fun W B c c' x y hx hy => i_cmpSplit W B B c c' x y 1 1 hx hy) w B cap A css xs h hr hn
end Go.Proofs.YtdjhfeaimmpmhaaGreat

set_option maxRecDepth 100000
set_option linter.unusedVariables false
set_option linter.unusedSimpArgs false
namespace Go.Proofs.YtdjhfeaimmpmhaaGreat
open Go.RowKit

theorem keepCellG {w w' : World} {ad : Addr} {v : Value} (hb : Below w.heap.size w w') (h : w.cell? ad = some v) : w'.cell? ad = some v := by rw [hb.cell (World.block_lt_of_cell? w _ h)]; exact h
theorem grownBy_trans {w w1 w2 : World} {b : Option Nat} (h : w.grownBy w1 b) (h' : w1.grownBy w2 b) : w.grownBy w2 b :=
  ⟨h'.os.trans h.os, h'.tape.trans h.tape, h'.output.trans h.output, Nat.le_trans h.size h'.size, fun k hk hne => (h'.block k (Nat.lt_of_lt_of_le hk h.size) hne).trans (h.block k hk hne)⟩
/-- a struct of three cells stored over element i -/
theorem OwnK.store3 {w : World} {B : Nat} {e : TypeId} {g n cap i : Nat} {css : List (List Value)} {a b c : Value} (h : OwnK w B e 3 (.slice (some ⟨g, 0, none⟩) n cap) css) (hc : css[i]? = some [a, b, c]) (x y z : Value) :
    ∃ q0 q1 q2, w.cell? ⟨g, i * 3, none⟩ = some q0 ∧ w.frozen? ⟨g, i * 3, none⟩ = false ∧
      (w.setCell ⟨g, i * 3, none⟩ x).cell? ⟨g, i * 3 + 1, none⟩ = some q1 ∧ (w.setCell ⟨g, i * 3, none⟩ x).frozen? ⟨g, i * 3 + 1, none⟩ = false ∧
      ((w.setCell ⟨g, i * 3, none⟩ x).setCell ⟨g, i * 3 + 1, none⟩ y).cell? ⟨g, i * 3 + 2, none⟩ = some q2 ∧ ((w.setCell ⟨g, i * 3, none⟩ x).setCell ⟨g, i * 3 + 1, none⟩ y).frozen? ⟨g, i * 3 + 2, none⟩ = false ∧
      OwnK (((w.setCell ⟨g, i * 3, none⟩ x).setCell ⟨g, i * 3 + 1, none⟩ y).setCell ⟨g, i * 3 + 2, none⟩ z) B e 3 (.slice (some ⟨g, 0, none⟩) n cap) (css.set i [x, y, z]) ∧
      w.grownBy (((w.setCell ⟨g, i * 3, none⟩ x).setCell ⟨g, i * 3 + 1, none⟩ y).setCell ⟨g, i * 3 + 2, none⟩ z) (some g) := by
  have hi := (List.getElem?_eq_some_iff.1 hc).1
  obtain ⟨⟨q0, h0⟩, f0, -, o1, g1⟩ := h.storeAt (j := 0) hc (by omega) x
  have hc1 : (css.set i ([a, b, c].set 0 x))[i]? = some [x, b, c] := by rw [List.getElem?_set_self hi]; rfl
  obtain ⟨⟨q1, h1⟩, f1, -, o2, g2⟩ := o1.storeAt (j := 1) hc1 (by omega) y
  have hc2 : ((css.set i ([a, b, c].set 0 x)).set i ([x, b, c].set 1 y))[i]? = some [x, y, c] := by rw [List.getElem?_set_self (by simpa using hi)]; rfl
  obtain ⟨⟨q2, h2⟩, f2, -, o3, g3⟩ := o2.storeAt (j := 2) hc2 (by omega) z
  have e : ((css.set i ([a, b, c].set 0 x)).set i ([x, b, c].set 1 y)).set i ([x, y, c].set 2 z) = css.set i [x, y, z] := by simp [List.set_set]
  rw [e] at o3
  exact ⟨q0, q1, q2, h0, f0, h1, f1, h2, f2, o3, grownBy_trans (grownBy_trans g1 g2) g3⟩

theorem below_growE (w : World) (os : Array Obj) : Below w.heap.size w (Go.Sort.grow w os) := ⟨rfl, rfl, rfl, by simp [Go.Sort.grow], fun k hk => Go.Sort.heap_grow_old _ _ hk⟩
/-- equal ones once, with their numbers: one more -/
def grpS {α : Type} (cmp : α → α → Int) (out : List (α × Nat)) (s : α) : List (α × Nat) := match out.getLast? with
  | none => [(s, 1)]
  | some (r, n) => if cmp r s = 0 then out.set (out.length - 1) (r, n + 1) else out ++ [(s, 1)]
def grpL {α : Type} (cmp : α → α → Int) (l : List α) : List (α × Nat) := l.foldl (grpS cmp) []
theorem grpL_snoc {α : Type} (cmp : α → α → Int) (l : List α) (s : α) : grpL cmp (l ++ [s]) = grpS cmp (grpL cmp l) s := by simp [grpL]
/-- is the last one equal? -/
def lastEq {α : Type} (cmp : α → α → Int) (L : List (α × Nat)) (y : α) : Bool := match L.getLast? with
  | none => false
  | some (r, _) => decide (cmp r y = 0)
theorem grp_false {α : Type} {cmp : α → α → Int} {L : List (α × Nat)} {y : α} (h : lastEq cmp L y = false) : grpS cmp L y = L ++ [(y, 1)] := by
  unfold grpS
  unfold lastEq at h
  cases hl : L.getLast? with
  | none => rw [List.getLast?_eq_none_iff.1 hl]; rfl
  | some x =>
    obtain ⟨r, n⟩ := x
    rw [hl] at h
    simp only at h ⊢
    rw [if_neg (of_decide_eq_false h)]
theorem grp_true {α : Type} {cmp : α → α → Int} {L : List (α × Nat)} {y : α} (h : lastEq cmp L y = true) : ∃ m r n, L.length = m + 1 ∧ L[m]? = some (r, n) ∧ grpS cmp L y = L.set m (r, n + 1) := by
  unfold lastEq at h
  cases hl : L.getLast? with
  | none => rw [hl] at h; cases h
  | some x =>
    obtain ⟨r, n⟩ := x
    rw [hl] at h
    have hne : L ≠ [] := fun e => by rw [e] at hl; cases hl
    have hpos : 0 < L.length := List.length_pos_iff.2 hne
    refine ⟨L.length - 1, r, n, by omega, by rw [← List.getLast?_eq_getElem?]; exact hl, ?_⟩
    unfold grpS
    rw [hl]
    simp only
    rw [if_pos (of_decide_eq_true h)]
theorem grpS_len {α : Type} (cmp : α → α → Int) (out : List (α × Nat)) (s : α) : (grpS cmp out s).length ≤ out.length + 1 := by
  unfold grpS
  split
  · simp
  · split <;> simp
theorem grpL_len {α : Type} (cmp : α → α → Int) (l : List α) : ∀ k, k ≤ l.length → (grpL cmp (l.take k)).length ≤ k ∧ ∀ x ∈ grpL cmp (l.take k), x.2 ≤ k := by
  intro k
  induction k with
  | zero => intro _; simp [grpL]
  | succ k ih =>
    intro hk
    have ih := ih (by omega)
    rw [List.take_add_one, List.getElem?_eq_getElem (by omega)]
    show (grpL cmp (l.take k ++ [l[k]])).length ≤ k + 1 ∧ ∀ x ∈ grpL cmp (l.take k ++ [l[k]]), x.2 ≤ k + 1
    rw [grpL_snoc]
    refine ⟨by have := grpS_len cmp (grpL cmp (l.take k)) l[k]; omega, fun x hx => ?_⟩
    unfold grpS at hx
    split at hx
    · simp at hx; subst hx; simp
    · rename_i r n hl
      have hn := ih.2 _ (List.mem_of_getLast? hl)
      split at hx
      · rcases List.mem_or_eq_of_mem_set hx with hx | hx
        · have := ih.2 x hx; omega
        · subst hx; simp at hn ⊢; omega
      · rcases List.mem_append.1 hx with hx | hx
        · have := ih.2 x hx; omega
        · simp at hx; subst hx; simp
end Go.Proofs.YtdjhfeaimmpmhaaGreat

set_option linter.unusedVariables false
set_option linter.unusedSimpArgs false
namespace Go.Proofs.YtdjhfeaimmpmhaaGreat
open Go Go.RowKit

/-- a world of the class -/
structure GW (S : World → Prop) where
  w : World
  h : S w

theorem wp_region_grow {P : Program} {id : Nat} {Q : Exit → Act → World → Prop} {a : Act} {w : World} {l : List Oper} (S : World → Prop) (hm : P.follows .mixedOrders = true) (hB : Region.lexB .any l.toArray = true) (hC : S w.drew)
    (h : Nonempty (GW S) → wpQuiet P l.toArray (fun w' => ∃ x : GW S, w' = x.w) (fun a' => ∀ w', (∃ x : GW S, w' = x.w) → Q .normal a' w') l a) : (Code.region id l.toArray true).wp P Q a w :=
  wp_region_quiet (C := fun w' => ∃ x : GW S, w' = x.w) hm hB ⟨⟨_, hC⟩, rfl⟩ (by simpa using h ⟨⟨_, hC⟩⟩)

/-- a callee that leaves a world of the class -/
theorem grow_call {P : Program} {f : FuncId} {args : Array Value} {w : World} {v : Value} {S : World → Prop} (h : Calls P f args w fun e w' => e = .returned v ∧ S w') : Calls P f args w fun e w'' => e = .returned v ∧ ∃ x : GW S, w'' = x.w :=
  h.mono fun _ w' ⟨he, hw⟩ => ⟨he, ⟨w', hw⟩, rfl⟩
end Go.Proofs.YtdjhfeaimmpmhaaGreat

set_option maxRecDepth 100000
set_option linter.unusedVariables false
set_option linter.unusedSimpArgs false
namespace Go.Proofs.YtdjhfeaimmpmhaaGreat
open Go.RowKit

end Go.Proofs.YtdjhfeaimmpmhaaGreat

set_option maxRecDepth 100000
set_option linter.unusedVariables false
set_option linter.unusedSimpArgs false
namespace Go.Proofs.YtdjhfeaimmpmhaaGreat
open Go.RowKit

end Go.Proofs.YtdjhfeaimmpmhaaGreat

set_option linter.unusedVariables false
set_option linter.unusedSimpArgs false
set_option maxRecDepth 100000
namespace Go.Proofs.YtdjhfeaimmpmhaaGreat

/-- what the program knows of the nodes so far: the neighbours in the pieces, the piece of each node, the pieces' roots, the joints -/
structure CutS where
  near : List (List Nat)
  top : List Nat
  tops : List Nat
  bet : List (Nat × Nat)
def cutStep (mask : Nat) (s : CutS) (i p : Nat) : CutS :=
  match p with
  | 0 => ⟨s.near, s.top.set i s.tops.length, s.tops ++ [i], s.bet⟩
  | k + 1 => bif mask.testBit i then ⟨s.near, s.top.set i s.tops.length, s.tops ++ [i], s.bet ++ [(s.top.getD k 0, s.tops.length)]⟩
    else ⟨addAt i k (addAt k i s.near), s.top.set i (s.top.getD k 0), s.tops, s.bet⟩
/-- the nodes of a piece of the reference's: whether each is in it, and its list -/
def pieF (t : List Nat) (mask root : Nat) : List Nat → Nat → List Bool → List Nat → List Nat
  | [], _, _, out => out
  | l :: ls, i, inn, out =>
    let p := parN t l i
    bif Nat.blt root p && (inn.getD (p - 1) false && !mask.testBit i) then pieF t mask root ls (i + 1) (inn.set i true) (out ++ [l - t.getD root 0])
    else pieF t mask root ls (i + 1) inn out
def pieN (t : List Nat) (mask root : Nat) : List Nat := pieF t mask root (t.drop (root + 1)) (root + 1) ((List.replicate t.length false).set root true) [0]
/-- the nodes at which the reference cuts -/
def cutsN (mask : Nat) : Nat → Nat → List Nat
  | 0, _ => []
  | n + 1, i => bif mask.testBit i then i :: cutsN mask n (i + 1) else cutsN mask n (i + 1)
/-- the number of nodes with a cut on the way from a node (by one more than its place) to the root -/
def wayN (t : List Nat) (mask : Nat) : Nat → Nat → Nat
  | 0, _ => 0
  | f + 1, 0 => 0
  | f + 1, 1 => 0
  | f + 1, k + 2 => (bif mask.testBit (k + 1) then 1 else 0) + wayN t mask f (parN t (t.getD (k + 1) 0) (k + 1))
def sklN (t : List Nat) (mask : Nat) : List Nat := 0 :: (cutsN mask (t.length - 1) 1).map fun i => 1 + wayN t mask 9 (parN t (t.getD i 0) i)

end Go.Proofs.YtdjhfeaimmpmhaaGreat

set_option maxRecDepth 100000
set_option linter.unusedVariables false
set_option linter.unusedSimpArgs false
namespace Go.Proofs.YtdjhfeaimmpmhaaGreat
open Go.RowKit

end Go.Proofs.YtdjhfeaimmpmhaaGreat

set_option linter.unusedVariables false
set_option linter.unusedSimpArgs false
namespace Go.Proofs.YtdjhfeaimmpmhaaGreat

structure CI (n j : Nat) (s : CutS) : Prop where
  near : NB s.near (2 * j) n
  top : s.top.length = n ∧ ∀ x ∈ s.top, x ≤ s.tops.length
  tops : s.tops.length ≤ j ∧ ∀ x ∈ s.tops, x < n
  bet : s.bet.length ≤ j ∧ ∀ p ∈ s.bet, p.1 < s.tops.length ∧ p.2 < s.tops.length
theorem CI.topLe {n j : Nat} {s : CutS} (h : CI n j s) (k : Nat) : s.top.getD k 0 ≤ s.tops.length := by
  cases hx : s.top[k]? with
  | none => simp [List.getD, hx]
  | some x => have := h.top.2 x (List.mem_of_getElem? hx); simpa [List.getD, hx] using this
theorem CI.step {n j P mask : Nat} {s : CutS} (h : CI n j s) (hj : j < n) (hP : P ≤ j) : CI n (j + 1) (cutStep mask s j P) := by
  have hnew : ∀ x ∈ s.top.set j s.tops.length, x ≤ (s.tops ++ [j]).length := by
    intro x hx
    rcases List.mem_or_eq_of_mem_set hx with hx | hx
    · have := h.top.2 x hx; simp; omega
    · simp [hx]
  have htops : (s.tops ++ [j]).length ≤ j + 1 ∧ ∀ x ∈ s.tops ++ [j], x < n := by
    refine ⟨by have := h.tops.1; simp; omega, fun x hx => ?_⟩
    rcases List.mem_append.1 hx with hx | hx
    · exact h.tops.2 x hx
    · simp at hx; omega
  cases P with
  | zero =>
    exact ⟨h.near.mono (by omega), ⟨by simp [cutStep, h.top.1], hnew⟩, htops, ⟨by have := h.bet.1; show s.bet.length ≤ _; omega, fun p hp => by have := h.bet.2 p hp; simp [cutStep]; omega⟩⟩
  | succ k =>
    rw [cutStep]
    cases mask.testBit j with
    | true =>
      refine ⟨h.near.mono (by omega), ⟨by simp [h.top.1], hnew⟩, htops, ⟨by have := h.bet.1; simp; omega, fun p hp => ?_⟩⟩
      simp only [cond_true, List.length_append, List.length_singleton] at hp ⊢
      rcases List.mem_append.1 hp with hp | hp
      · have := h.bet.2 p hp; omega
      · simp at hp
        have := h.topLe k
        subst hp
        simp only [List.getD_eq_getElem?_getD] at this
        exact ⟨by simpa using Nat.lt_succ_of_le this, by simp⟩
    | false =>
      refine ⟨((h.near.add (x := k) (i := j) (by omega)).add (x := j) (i := k) hj).mono (by omega), ⟨by simp [h.top.1], fun x hx => ?_⟩, ⟨by have := h.tops.1; simp; omega, h.tops.2⟩, ⟨by have := h.bet.1; simp; omega, h.bet.2⟩⟩
      rcases List.mem_or_eq_of_mem_set hx with hx | hx
      · exact h.top.2 x hx
      · rw [hx]; exact h.topLe k
end Go.Proofs.YtdjhfeaimmpmhaaGreat

set_option linter.unusedVariables false
set_option linter.unusedSimpArgs false
namespace Go.Proofs.YtdjhfeaimmpmhaaGreat
open Go

section
variable {P : Program} {ops : Array Oper} {Q : Exit → Act → World → Prop} {md : Region.Mode} {S : Bool → World → Prop} {k : Nat}

/-- whatever order comes: 'S false' holds of the worlds ahead of operation k, 'S true' of those behind it -/
def AnyT (P : Program) (md : Region.Mode) (ops : Array Oper) (Q : Exit → Act → World → Prop) (S : Bool → World → Prop) (k : Nat) : Nat → Array Bool → Act → World → Prop
  | 0, L, a, w => Region.ready md ops L = [] ∧ Q .normal a w
  | f + 1, L, a, w => (Region.ready md ops L = [] → Q .normal a w) ∧
      ∀ i ∈ Region.ready md ops L, wpOp P ops Q i (fun a' w' => S ((L.setIfInBounds i true).getD k true) w' ∧ AnyT P md ops Q S k f (L.setIfInBounds i true) a' w') a w

theorem AnyT.any : ∀ (f : Nat) (L : Array Bool) (a : Act) (w : World), AnyT P md ops Q S k f L a w → wpAny P md ops Q f L a w
  | 0, _, _, _, h => h
  | f + 1, _, _, _, h => ⟨h.1, fun i hi => wpOp_mono (fun a' w' h' => AnyT.any f _ a' w' h'.2) (h.2 i hi)⟩

theorem AnyT.first {i : Nat} {oi : Oper} {v : Value} {U : World → Prop} {G : Array Bool → Prop} (hi : ops[i]? = some oi)
    (hsel : ∀ (j : Nat) (o : Oper) cs b, ops[j]? = some o → o.op ≠ .select cs b)
    (hQ : ∀ c a w, Q (.panic c) (a.put oi.dst v) w → Q (.panic c) a w) (hik : i ≠ k)
    (hG : ∀ (L : Array Bool) (j : Nat), G L → i ∈ Region.ready md ops L → j ∈ Region.ready md ops L → j ≠ i → G (L.setIfInBounds j true))
    (hU : ∀ (L : Array Bool) (w : World), G L → S (L.getD k true) w → U w) :
    ∀ (f : Nat) (L : Array Bool) (a : Act) (w : World),
      (∀ j oj, ops[j]? = some oj → j ≠ i → L.getD j true = false → (∀ e ∈ oj.after, Region.binds md e = true → e.on ≠ i) → oi.apart ops oj = true) →
      i ∈ Region.ready md ops L → G L → YieldsIf P ops U oi v a → S (L.getD k true) w →
      AnyT P md ops Q S k f (L.setIfInBounds i true) (a.put oi.dst v) w → AnyT P md ops Q S k (f + 1) L a w := by
  have hkeep : ∀ (L : Array Bool), (L.setIfInBounds i true).getD k true = L.getD k true := fun L => getD_set_ne true hik
  intro f
  induction f with
  | zero =>
    intro L a w _ hr g hy hS H
    refine ⟨fun h => (by rw [h] at hr; cases hr), fun j hj => ?_⟩
    by_cases hji : j = i
    · subst hji
      exact hy.wpOp hi (hU L w g hS) ⟨by rw [hkeep]; exact hS, H⟩
    · have h1 := ready_mono hj hji
      rw [H.1] at h1
      cases h1
  | succ f ih =>
    intro L a w hfree hr g hy hS H
    refine ⟨fun h => (by rw [h] at hr; cases hr), fun j hj => ?_⟩
    by_cases hji : j = i
    · subst hji
      exact hy.wpOp hi (hU L w g hS) ⟨by rw [hkeep]; exact hS, H⟩
    · obtain ⟨hjun, oj, hoj, hall⟩ := mem_ready.1 hj
      have hiun := (mem_ready.1 hr).1
      have hnot : ∀ e ∈ oj.after, Region.binds md e = true → e.on ≠ i := fun e he hb heq => by
        have h1 := hall e he hb
        rw [heq] at h1
        rcases Nat.lt_or_ge i L.size with h' | h'
        · simp [h'] at hiun h1; rw [hiun] at h1; cases h1
        · simp [Array.getElem?_eq_none h'] at h1
      have h2 := wpOp_putIf hoj (hfree j oj hoj hji hjun hnot) (fun cs b => hsel i oi cs b hi) (fun cs b => hsel j oj cs b hoj) hQ hy (H.2 j (ready_mono hj hji))
      refine wpOp_mono (fun a' w' h3 => ?_) h2
      have e : (L.setIfInBounds i true).setIfInBounds j true = (L.setIfInBounds j true).setIfInBounds i true := Array.setIfInBounds_comm _ _ (Ne.symm hji)
      obtain ⟨hy', hS', H'⟩ := h3
      rw [e] at H'
      rw [e, hkeep] at hS'
      refine ⟨hS', ih (L.setIfInBounds j true) a' w' (fun m om hm hmi hun hno => hfree m om hm hmi ?_ hno) (ready_mono hr (Ne.symm hji)) (hG L j g hr hj hji) hy' hS' H'⟩
      by_cases hjm : j = m
      · subst hjm; exact hjun
      · rw [getD_set_ne true hjm] at hun; exact hun

/-- operation i, which yields in every world that meets S, may be taken first -/
theorem AnyT.take0 {i : Nat} {oi : Oper} {v : Value} {f : Nat} {L : Array Bool} {a : Act} {w : World} (hi : ops[i]? = some oi)
    (hs : Region.noSelect ops = true) (hf : Region.free md ops L i = true) (hr : (Region.ready md ops L).contains i = true) (hik : i ≠ k)
    (hQ : ∀ c a w, Q (.panic c) (a.put oi.dst v) w → Q (.panic c) a w) (hS : S (L.getD k true) w) (hy : YieldsIf P ops (fun w => ∃ b, S b w) oi v a)
    (h : AnyT P md ops Q S k f (L.setIfInBounds i true) (a.put oi.dst v) w) : AnyT P md ops Q S k (f + 1) L a w :=
  AnyT.first (G := fun _ => True) (U := fun w => ∃ b, S b w) hi (Region.noSelect_spec hs) hQ hik (fun _ _ _ _ _ _ => trivial) (fun L w _ h => ⟨_, h⟩) f L a w (Region.free_spec hi hf) (by simpa using hr) trivial hy hS h

/-- does operation k wait for i? -/
def waitsB (md : Region.Mode) (ops : Array Oper) (k i : Nat) : Bool := ((ops[k]?).map fun o => o.after.any fun e => Region.binds md e && e.on == i).getD false

/-- operation i, for which k waits, and which yields in every world ahead of k, may be taken first -/
theorem AnyT.take1 {i : Nat} {oi : Oper} {v : Value} {f : Nat} {L : Array Bool} {a : Act} {w : World} (hi : ops[i]? = some oi)
    (hs : Region.noSelect ops = true) (hf : Region.free md ops L i = true) (hr : (Region.ready md ops L).contains i = true) (hik : i ≠ k)
    (hk : waitsB md ops k i = true) (hkL : L.getD k true = false)
    (hQ : ∀ c a w, Q (.panic c) (a.put oi.dst v) w → Q (.panic c) a w) (hS : S (L.getD k true) w) (hy : YieldsIf P ops (S false) oi v a)
    (h : AnyT P md ops Q S k f (L.setIfInBounds i true) (a.put oi.dst v) w) : AnyT P md ops Q S k (f + 1) L a w := by
  refine AnyT.first (G := fun L => L.getD k true = false) (U := S false) hi (Region.noSelect_spec hs) hQ hik (fun L j g hr hj hji => ?_) (fun L w g h => by rw [g] at h; exact h) f L a w (Region.free_spec hi hf) (by simpa using hr) hkL hy hS h
  have hne : j ≠ k := by
    rintro rfl
    obtain ⟨-, oj, hoj, hall⟩ := mem_ready.1 hj
    have hiun := (mem_ready.1 hr).1
    unfold waitsB at hk
    rw [hoj] at hk
    simp only [Option.map_some, Option.getD_some, Array.any_eq_true', Bool.and_eq_true, beq_iff_eq] at hk
    obtain ⟨e, he, hb, hon⟩ := hk
    have h1 := hall e he hb
    rw [hon] at h1
    rcases Nat.lt_or_ge i L.size with h' | h'
    · simp [h'] at hiun h1; rw [hiun] at h1; cases h1
    · simp [Array.getElem?_eq_none h'] at h1
  rw [getD_set_ne true hne]
  exact g

/-- each of the operations rs comes next -/
def AllT (P : Program) (md : Region.Mode) (ops : Array Oper) (Q : Exit → Act → World → Prop) (S : Bool → World → Prop) (k : Nat) (f : Nat) (L : Array Bool) (a : Act) (w : World) (rs : List Nat) : Prop :=
  ∀ i ∈ rs, wpOp P ops Q i (fun a' w' => S ((L.setIfInBounds i true).getD k true) w' ∧ AnyT P md ops Q S k f (L.setIfInBounds i true) a' w') a w
theorem AllT.nil {f : Nat} {L : Array Bool} {a : Act} {w : World} : AllT P md ops Q S k f L a w [] := fun _ h => by cases h
theorem AllT.cons {f : Nat} {L : Array Bool} {a : Act} {w : World} {i : Nat} {o : Oper} {rs : List Nat} (ho : ops[i]? = some o)
    (h : ∀ K' : Act → World → Prop, Shut (∀ a w, S ((L.setIfInBounds i true).getD k true) w → (S ((L.setIfInBounds i true).getD k true) w → AnyT P md ops Q S k f (L.setIfInBounds i true) a w) → K' a w) →
      if Region.wanted o (yielded ops a.tmps) = true then Oper.wp P o a w K' Q else K' (a.put o.dst undef) w)
    (hs : AllT P md ops Q S k f L a w rs) : AllT P md ops Q S k f L a w (i :: rs) := fun j hj => by
  rcases List.mem_cons.1 hj with rfl | hj
  · exact wpOp_step ho (fun K' hK => h K' (fun a w hS hW => hK a w ⟨hS, hW hS⟩))
  · exact hs j hj
theorem AnyT.go {rs : List Nat} {f : Nat} {L : Array Bool} {a : Act} {w : World} (hr : Region.ready md ops L = rs) (hne : rs ≠ []) (h : AllT P md ops Q S k f L a w rs) : AnyT P md ops Q S k (f + 1) L a w :=
  ⟨fun h0 => absurd (hr ▸ h0) hne, hr ▸ h⟩
theorem AnyT.done {L : Array Bool} {a : Act} {w : World} (hr : Region.ready md ops L = []) (h : Q .normal a w) : ∀ f, AnyT P md ops Q S k f L a w
  | 0 => ⟨hr, h⟩
  | _ + 1 => ⟨fun _ => h, by rw [hr]; simp⟩
theorem AnyT.begin {id : Nat} {a : Act} {w : World} (hm : P.follows .mixedOrders = true) (h : AnyT P .any ops Q S k ops.size (Array.replicate ops.size false) a w.drew) : (Code.region id ops true).wp P Q a w :=
  wp_region_any hm (AnyT.any _ _ _ _ h)
end
end Go.Proofs.YtdjhfeaimmpmhaaGreat

set_option maxRecDepth 100000
set_option linter.unusedVariables false
set_option linter.unusedSimpArgs false
namespace Go.Proofs.YtdjhfeaimmpmhaaGreat
open Go.RowKit

end Go.Proofs.YtdjhfeaimmpmhaaGreat

set_option maxRecDepth 100000
set_option linter.unusedVariables false
set_option linter.unusedSimpArgs false
namespace Go.Proofs.YtdjhfeaimmpmhaaGreat
open Go.RowKit

end Go.Proofs.YtdjhfeaimmpmhaaGreat

set_option maxRecDepth 100000
set_option linter.unusedVariables false
set_option linter.unusedSimpArgs false
namespace Go.Proofs.YtdjhfeaimmpmhaaGreat
open Go.RowKit

end Go.Proofs.YtdjhfeaimmpmhaaGreat

set_option linter.unusedVariables false
set_option linter.unusedSimpArgs false
set_option maxRecDepth 100000
namespace Go.Proofs.YtdjhfeaimmpmhaaGreat

/-- one more than the last place below k with a level of more than 1; 0 if there is none -/
def pN (t : List Nat) : Nat → Nat
  | 0 => 0
  | k + 1 => bif Nat.ble (t.getD k 0) 1 then pN t k else k + 1
def fillF (t : List Nat) (d : Nat) : Nat → Nat → List Nat
  | 0, _ => t
  | m + 1, i => fillF (t.set i (t.getD (i - d) 0)) d m (i + 1)
/-- the next smaller list -/
def succT (t : List Nat) : Option (List Nat) := match pN t t.length with
  | 0 => none
  | p + 1 => some (fillF t (p - (parN t (t.getD p 0) p - 1)) (t.length - p) p)
def treesF : Nat → List Nat → List (List Nat)
  | 0, _ => []
  | f + 1, t => t :: match succT t with
    | none => []
    | some t' => treesF f t'
/-- all trees with n nodes, in order -/
def treesN (n : Nat) : List (List Nat) := treesF 200 (List.range n)

def okT (n : Nat) : Bool := Nat.ble (treesN n).length 115 && (treesN n).all fun t => Nat.beq t.length n && (lvl t && (match canO 9 t with | none => false | some r => eqN r t) &&
  match pN t t.length with
    | 0 => true
    | p + 1 => Nat.blt 0 (parN t (t.getD p 0) p))
theorem okT_8 : (List.range 8).all (fun n => okT (n + 1)) = true := by decide +kernel
theorem treesN_at {n : Nat} (h1 : 1 ≤ n) (h8 : n ≤ 8) : (treesN n).length ≤ 115 ∧ ∀ t ∈ treesN n, t.length = n ∧ lvl t = true ∧ canO 9 t = some t ∧ ∀ p, pN t t.length = p + 1 → 0 < parN t (t.getD p 0) p := by
  have h := okT_8
  rw [List.all_eq_true] at h
  have h2 := h (n - 1) (List.mem_range.2 (by omega))
  rw [show n - 1 + 1 = n by omega, okT] at h2
  simp only [Bool.and_eq_true, List.all_eq_true] at h2
  refine ⟨Nat.le_of_ble_eq_true h2.1, fun t ht => ?_⟩
  obtain ⟨a, ⟨b, c⟩, d⟩ := h2.2 t ht
  refine ⟨Nat.eq_of_beq_eq_true a, b, ?_, fun p hp => ?_⟩
  · cases hc : canO 9 t with
    | none => rw [hc] at c; cases c
    | some r => rw [hc] at c; rw [eqN_iff.1 c]
  · rw [hp] at d
    simpa using d
end Go.Proofs.YtdjhfeaimmpmhaaGreat

