/- Walk: checkCutMask of the program. | Walks: SkeletonOf of both. -/
import Derived.Test.YtbjeibcombjfgaaQf10
import Derived.Test.YtbjeibcombjfgaaQf21
import Derived.Test.YtbjeibcombjfgaaQf22
set_option maxRecDepth 100000
set_option linter.unusedVariables false
set_option linter.unusedSimpArgs false
namespace Go.Proofs.Ytbjeibcombjfgaa
open Go.RowKit

theorem i_checkCutMask (w : World) (v : Value) (zs : List Int) (m : Int) (ha : Ints w v zs) :
    Calls Try.prog 96 #[v, .int .i64 m] w fun e w' => e = .returned (.int .i64 (maskC zs m)) ∧ w = w' := by
  have HA := Lib.hid ha
  obtain ⟨A, c, rfl, l1, l2, -⟩ := ha.open_
  clear ha
  go_enter Try.func96, Try.ntmps96
  cases ht : isT zs with
  | false =>
    have HC := Lib.hid (show maskC zs m = 1 by simp [maskC, ht])
    rw [HC.out]
    go_wp2_with (go_at_call 89; refine (i_IsLevels _ _ zs HA.out).mono ?_; rintro e w1 ⟨rfl, rfl⟩; rw [ht])
    go_ret
    exact ⟨rfl, rfl⟩
  | true =>
    have h8 := (isT_parts ht).1
    cases hb : maskB zs.length m with
    | false =>
      have HC := Lib.hid (show maskC zs m = 2 by simp [maskC, ht, hb])
      rw [HC.out]
      go_wp2_with (first | (go_at_call 89; refine (i_IsLevels _ _ zs HA.out).mono ?_; rintro e w1 ⟨rfl, rfl⟩; rw [ht]) | (go_at_call 156; refine (i_isCutMask _ _ zs m HA.out h8).mono ?_; rintro e w2 ⟨rfl, rfl⟩; rw [hb]))
      go_ret
      exact ⟨rfl, rfl⟩
    | true =>
      have HC := Lib.hid (show maskC zs m = 0 by simp [maskC, ht, hb])
      rw [HC.out]
      go_wp2_with (first | (go_at_call 89; refine (i_IsLevels _ _ zs HA.out).mono ?_; rintro e w1 ⟨rfl, rfl⟩; rw [ht]) | (go_at_call 156; refine (i_isCutMask _ _ zs m HA.out h8).mono ?_; rintro e w2 ⟨rfl, rfl⟩; rw [hb]))
      go_ret
      exact ⟨rfl, rfl⟩
end Go.Proofs.Ytbjeibcombjfgaa

set_option maxRecDepth 100000
set_option linter.unusedVariables false
set_option linter.unusedSimpArgs false
namespace Go.Proofs.Ytbjeibcombjfgaa
open Go.RowKit

def canN (n : List Nat) : List Nat := (canO 9 n).getD []
def toN (zs : List Int) : List Nat := zs.map Int.toNat
theorem toN_up (n : List Nat) : toN (up n) = n := by
  simp only [toN, up, List.map_map]
  have : (Int.toNat ∘ fun n : Nat => (n : Int)) = id := by funext n; simp
  rw [this, List.map_id]
theorem lvlF_le' : ∀ {p : Nat} {t : List Nat}, lvlF p t = true → ∀ l ∈ t, l ≤ p + t.length
  | p, [], _, l, h => by simp at h
  | p, x :: t, h, l, hl => by
    rw [lvlF] at h
    cases h1 : Nat.ble 1 x with
    | false => rw [h1] at h; cases h
    | true =>
      cases h2 : Nat.ble x (p + 1) with
      | false => rw [h1, h2] at h; cases h
      | true =>
        rw [h1, h2] at h
        have hx := Nat.le_of_ble_eq_true h2
        rcases List.mem_cons.1 hl with rfl | hl
        · simp; omega
        · have := lvlF_le' h l hl; simp; omega
theorem lvl_le {t : List Nat} (h : lvl t = true) : ∀ l ∈ t, l ≤ t.length := by
  obtain ⟨c, rfl, hc⟩ := lvl_cons h
  intro l hl
  rcases List.mem_cons.1 hl with rfl | hl
  · omega
  · have := lvlF_le' hc l hl; simp; omega

/-- a tree and a mask that are taken -/
structure Taken (zs : List Int) (m : Int) (n t : List Nat) (k : Nat) : Prop where
  zs : zs = up n
  m : m = (k : Int)
  lv : lvl n = true
  n8 : n.length ≤ 8
  can : canO 9 n = some t
  len : t.length = n.length
  tlv : lvl t = true
  t8 : t.length ≤ 8
  t0 : 0 < t.length
  tcan : canO 9 t = some t
  k2 : k < 2 ^ t.length
  ke : k % 2 = 0
  k256 : k < 256
  nl : ∀ l ∈ n, l ≤ 1000000
  tl : ∀ l ∈ t, l ≤ 1000000
theorem taken {zs : List Int} {m : Int} (h : maskC zs m = 0) : ∃ n t k, Taken zs m n t k := by
  unfold maskC at h
  cases ht : isT zs with
  | false => rw [ht] at h; simp at h
  | true =>
    rw [ht, if_pos rfl] at h
    cases hm : maskB zs.length m with
    | false => rw [hm] at h; simp at h
    | true =>
      obtain ⟨n, rfl, hlv, h8⟩ := isT_up ht
      obtain ⟨t, hc, htl, htc⟩ := canO_8 hlv h8
      have hlen := canO_len hc
      have hpos : 0 < n.length := by obtain ⟨c, rfl, -⟩ := lvl_cons hlv; simp
      unfold maskB at hm
      simp only [Bool.and_eq_true, decide_eq_true_eq, beq_iff_eq] at hm
      obtain ⟨h0, h1, h2⟩ := hm
      rw [up_len] at h1
      have hk : m = ((m.toNat : Nat) : Int) := by omega
      have hk2 : m.toNat < 2 ^ t.length := by
        rw [hlen]
        have e : ((2 : Int) ^ n.length) = ((2 ^ n.length : Nat) : Int) := by simp
        rw [e] at h1
        omega
      have hle : 2 ^ t.length ≤ 2 ^ 8 := Nat.pow_le_pow_right (by omega) (by omega)
      exact ⟨n, t, m.toNat, ⟨rfl, hk, hlv, h8, hc, hlen, htl, by omega, by omega, htc, hk2, by omega, by omega, fun l hl => by have := lvl_le hlv l hl; omega, fun l hl => by have := lvl_le htl l hl; omega⟩⟩

/-- what SkeletonOf answers -/
def skOf (zs : List Int) (m : Int) : List Int := if maskC zs m = 0 then up (canN (sklN (canN (toN zs)) m.toNat)) else []
theorem skOf_eq {zs : List Int} {m : Int} {n t r : List Nat} {k : Nat} (h : Taken zs m n t k) (hc : maskC zs m = 0) (hr : canO 9 (sklN t k) = some r) : skOf zs m = up r := by
  unfold skOf
  rw [if_pos hc, h.zs, toN_up, h.m, Int.toNat_natCast]
  simp only [canN, h.can, Option.getD_some, hr]

theorem s_SkeletonOf (w : World) (v : Value) (zs : List Int) (m : Int) (ha : Ints w v zs) :
    Calls Try.prog 38 #[v, .int .i64 m] w fun e w' => ∃ x, e = .returned (.tuple #[x, .int .i64 (maskC zs m)]) ∧ OI w' w.heap.size w'.heap.size tI x (skOf zs m) ∧ Below w.heap.size w w' := by
  have HA := Lib.hid ha
  obtain ⟨A, c, rfl, l1, l2, -⟩ := ha.open_
  clear ha
  by_cases hc : maskC zs m = 0
  · obtain ⟨n, t, k, T⟩ := taken hc
    have hok := cut_parts (cut_ok T.tlv T.t8 T.tcan T.k2 T.ke)
    obtain ⟨r, hr, -, -⟩ := canO_8 hok.2.2.1 hok.2.2.2.1
    have HSK := Lib.hid (skOf_eq T hc hr)
    have HR := Lib.hid hr
    have HT := Lib.hid T
    have HC := Lib.hid hc
    have HM := Lib.hid T.m
    have HZ := Lib.hid T.zs
    have hzl : zs.length = n.length := by rw [T.zs, up_len]
    rw [hc, HSK.out]
    rw [T.zs, up_len] at HA
    rw [hzl] at l1 ⊢
    have hcode : maskC (up n) (k : Int) = 0 := by rw [← T.zs, ← T.m]; exact hc
    have hco := s_l16Code w _ (up n) k HA.out
    rw [hcode] at hco
    have HCO := Lib.hid hco
    rw [T.m]
    clear hok hr T hc hzl hcode hco
    go_enter Try.func38, Try.ntmps38
    go_wp2_with (first
      | (go_at_call 93; refine HCO.out.mono ?_; rintro e w1 ⟨rfl, n1, rfl⟩)
      | (go_at_call 95; refine (s_l03Canon 9 _ _ n t (by exact HA.out.drewN n1) HT.out.can (by have := HT.out.n8; omega) HT.out.nl).mono ?_; rintro e w2 ⟨x2, rfl, hx2, hb2⟩; obtain ⟨A5, c5, he5, -, -, -⟩ := hx2.ints.open_; rw [up_len] at he5; subst he5; have HX2 := Lib.hid hx2; have HB2 := Lib.hid hb2; clear hx2 hb2)
      | (go_at_call 94; refine (s_l16Skeleton _ _ t k r HX2.out.ints HT.out.t8 HT.out.t0 HT.out.k256 HT.out.tl HR.out).mono ?_; rintro e w3 ⟨x3, rfl, hx3, hb3⟩; have HX3 := Lib.hid hx3; have HB3 := Lib.hid hb3; clear hx3 hb3))
    go_ret2
    have hb2 : Below w.heap.size w w2 := (below_drewN (Below.refl _ _) n1).trans HB2.out
    exact ⟨_, rfl, OI.of (HX3.out.mono hb2.size), hb2.trans (HB3.out.mono hb2.size)⟩
  · have HSK := Lib.hid (show skOf zs m = [] by unfold skOf; rw [if_neg hc])
    have hd : (maskC zs m != 0) = true := by simp [hc]
    rw [HSK.out]
    generalize hq : maskC zs m = q at hc hd ⊢
    have HQ := Lib.hid hq
    clear hq hc
    go_enter Try.func38, Try.ntmps38
    go_wp2_with (go_at_call 93; refine (s_l16Code _ _ zs m HA.out).mono ?_; rintro e w1 ⟨rfl, n1, rfl⟩; rw [HQ.out])
    go_ret2
    exact ⟨_, rfl, OI.of (OwnInts.nil _ _ _), below_drewN (Below.refl _ _) n1⟩

theorem i_SkeletonOf (w : World) (v : Value) (zs : List Int) (m : Int) (ha : Ints w v zs) :
    Calls Try.prog 40 #[v, .int .i64 m] w fun e w' => ∃ x, e = .returned (.tuple #[x, .int .i64 (maskC zs m)]) ∧ OI w' w.heap.size w'.heap.size tI x (skOf zs m) ∧ Below w.heap.size w w' := by
  have HA := Lib.hid ha
  obtain ⟨A, c, rfl, l1, l2, -⟩ := ha.open_
  clear ha
  by_cases hc : maskC zs m = 0
  · obtain ⟨n, t, k, T⟩ := taken hc
    have hok := cut_parts (cut_ok T.tlv T.t8 T.tcan T.k2 T.ke)
    obtain ⟨r0, hr, -, -⟩ := canO_8 hok.2.2.1 hok.2.2.2.1
    have HSK := Lib.hid (skOf_eq T hc hr)
    have HR := Lib.hid hr
    have HT := Lib.hid T
    have HC := Lib.hid hc
    have HM := Lib.hid T.m
    have HZ := Lib.hid T.zs
    have hzl : zs.length = n.length := by rw [T.zs, up_len]
    rw [hc, HSK.out]
    rw [T.zs, up_len] at HA
    rw [hzl] at l1 ⊢
    have hcode : maskC (up n) (k : Int) = 0 := by rw [← T.zs, ← T.m]; exact hc
    have hco := i_checkCutMask w _ (up n) k HA.out
    rw [hcode] at hco
    have HCO := Lib.hid hco
    rw [T.m]
    clear hok hr T hc hzl hcode hco
    go_enter Try.func40, Try.ntmps40
    go_wp2_with (first
      | (go_at_call 96; refine HCO.out.mono ?_; rintro e w1 ⟨rfl, rfl⟩)
      | (go_at_call 98; refine (i_canonical 9 _ _ n t (by exact HA.out) HT.out.can (by have := HT.out.n8; omega) HT.out.nl).mono ?_; rintro e w2 ⟨x2, rfl, hx2, hb2⟩; obtain ⟨A5, c5, he5, -, -, -⟩ := hx2.ints.open_; rw [up_len] at he5; subst he5; have HX2 := Lib.hid hx2; have HB2 := Lib.hid hb2; clear hx2 hb2)
      | (go_at_call 97; refine (i_cutUp _ _ t k HX2.out.ints HT.out.tlv HT.out.t8 HT.out.tcan HT.out.k2 HT.out.ke HT.out.tl).mono ?_; rintro e w3 ⟨x3, y3, pcs, r, rfl, hpc, hr3, hx3, hy3, hb3⟩; have HY3 := Lib.hid hy3; have HR3 := Lib.hid hr3; have HB3 := Lib.hid hb3; clear hx3 hy3 hb3 hpc hr3))
    go_ret2
    have hb2 := HB2.out
    have e : r = r0 := by have h1 := HR3.out; rw [HR.out] at h1; injection h1 with h1; exact h1.symm
    rw [← e]
    exact ⟨_, rfl, OI.of (HY3.out.mono hb2.size), hb2.trans (HB3.out.mono hb2.size)⟩
  · have HSK := Lib.hid (show skOf zs m = [] by unfold skOf; rw [if_neg hc])
    have hd : (maskC zs m != 0) = true := by simp [hc]
    rw [HSK.out]
    generalize hq : maskC zs m = q at hc hd ⊢
    have HQ := Lib.hid hq
    clear hq hc
    go_enter Try.func40, Try.ntmps40
    go_wp2_with (go_at_call 96; refine (i_checkCutMask _ _ zs m HA.out).mono ?_; rintro e w1 ⟨rfl, rfl⟩; rw [HQ.out])
    go_ret2
    exact ⟨_, rfl, OI.of (OwnInts.nil _ _ _), Below.refl _ _⟩
end Go.Proofs.Ytbjeibcombjfgaa

