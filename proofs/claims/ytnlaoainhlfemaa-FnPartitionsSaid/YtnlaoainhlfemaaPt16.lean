/- Plain: the list of partitions: pieces and skeletons, the numbers of masks. No walk. | Walks: PartitionsOf of both. | Walks: numbers that are drawn (laws.dice): any numbers in their ranges; what the source holds is not told. | Walks: numbers that are drawn (spec.l01Source). (printed by drwgen.py) | Walks: what is drawn out of the source: picks, numbers, lists. | Walks: lists of numbers that are drawn: l01List of the reference, list5 of the laws. | Walks: rows and squares of fractions (l09Row, l09Square of the reference). | Walk: tableaus by name (l09Named of the reference). | Walk: tableaus by name (l09Named of the reference). | One round of 'z.A = append(z.A, row)', in plain words of memory. No program in sight. | One round of 'z.A = append(z.A, row); z.B = append(z.B, x)', in plain words of memory. No program in sight. | Rows and numbers that grow side by side, in plain words of memory. No program in sight. -/
import Derived.Test.YtnlaoainhlfemaaPt13
import Derived.Test.YtnlaoainhlfemaaPt6
import Derived.Test.YtnlaoainhlfemaaPt15
import Derived.Test.YtnlaoainhlfemaaPt7
import Derived.Test.YtnlaoainhlfemaaRows
import Derived.Test.YtnlaoainhlfemaaPt1
import Derived.Test.YtnlaoainhlfemaaPt2
import Derived.Test.YtnlaoainhlfemaaPt3
import Derived.BigQuiet
import Derived.Deep.RegionLaw
import Derived.WalkSmall
import Derived.IntWalk
import Derived.Deep.CutRange
import Derived.Deep.CutBlock
import Derived.Deep.DeepCutAuto
import Derived.Deep.QuietTactic
import Derived.WalkLawsBesides
import Derived.Deep.RegionHeld3
import Derived.Test.YtnlaoainhlfemaaPt4
set_option linter.unusedVariables false
set_option linter.unusedSimpArgs false
namespace Go.Proofs.Ytnlaoainhlfemaa

def lenS : List (List Nat) → Nat
  | [] => 0
  | x :: xs => x.length + lenS xs
theorem lenS_perm {a b : List (List Nat)} (h : a.Perm b) : lenS a = lenS b := by
  induction h with
  | nil => rfl
  | cons x h ih => simp only [lenS, ih]
  | swap x y l => simp only [lenS]; omega
  | trans h1 h2 i1 i2 => rw [i1, i2]
theorem lenS_mapO {t : List Nat} {m : Nat} : ∀ {R : List Nat} {ys : List (List Nat)}, mapO (fun i => canO 9 (pieN t m i)) R = some ys → lenS ys = sumN (R.map fun r => (pieN t m r).length)
  | [], ys, h => by
    have : ys = [] := by have := mapO_len h; exact List.eq_nil_of_length_eq_zero this
    rw [this]; rfl
  | r :: R, ys, h => by
    obtain ⟨y, ys', rfl, h1, h2⟩ := mapO_cons h
    show y.length + lenS ys' = (pieN t m r).length + sumN _
    rw [canO_len h1, lenS_mapO h2]
structure PrtF (t : List Nat) (x : PK) : Prop where
  sum : lenS x.1 = t.length
  len : x.1.length = x.2.length
theorem prtN_F {t : List Nat} (ht : lvl t = true) (hl : t.length ≤ 8) (hc : canO 9 t = some t) {m : Nat} (hm : m < 2 ^ t.length) (h2 : m % 2 = 0) : PrtF t (prtN t m) := by
  obtain ⟨h1, h3, h4, h5, -⟩ := cut_parts (cut_ok ht hl hc hm h2)
  rw [h1] at h3
  obtain ⟨ys, hy⟩ : ∃ ys, mapO (fun i => canO 9 (pieN t m i)) (0 :: cutsN m (t.length - 1) 1) = some ys := mapO_ex fun i hi => by
    obtain ⟨a1, a2, -⟩ := h3 i hi
    obtain ⟨r, hr, -⟩ := canO_8 a1 a2
    exact ⟨r, hr⟩
  obtain ⟨r, hr, -⟩ := canO_8 h4 h5
  have e : prtN t m = (srtB ys, r) := by unfold prtN; rw [hy, hr]; rfl
  rw [e]
  refine ⟨?_, ?_⟩
  · show lenS (srtB ys) = _
    rw [lenS_perm (srtB_perm ys), lenS_mapO hy, pieces_total ht hl]
  · show (srtB ys).length = r.length
    rw [(srtB_perm ys).length_eq, mapO_len hy, canO_len hr]
    unfold sklN
    rw [List.length_cons, List.length_cons, List.length_map]
/-- the partitions, equal ones once -/
def prG (t : List Nat) : List (PK × Nat) := grpL cmpP (srtS ltP (prtL t (2 ^ (t.length - 1))))
theorem prt_mem {t : List Nat} {k : Nat} {y : PK} : y ∈ srtS ltP (prtL t k) ↔ ∃ i, i < k ∧ y = prtN t (2 * i) := by
  have hp := srtSF_perm (lt := ltP) [] (prtL t k)
  have : y ∈ srtS ltP (prtL t k) ↔ y ∈ prtL t k := hp.mem_iff
  rw [this]
  unfold prtL
  rw [List.mem_map]
  constructor
  · rintro ⟨i, hi, rfl⟩
    exact ⟨i, List.mem_range.1 hi, rfl⟩
  · rintro ⟨i, hi, rfl⟩
    exact ⟨i, List.mem_range.2 hi, rfl⟩
theorem two_pow {n i : Nat} (h0 : 0 < n) (hi : i < 2 ^ (n - 1)) : 2 * i < 2 ^ n ∧ 2 * i % 2 = 0 := by
  obtain ⟨k, rfl⟩ : ∃ k, n = k + 1 := ⟨n - 1, by omega⟩
  rw [Nat.add_sub_cancel] at hi
  rw [Nat.pow_succ]
  omega
theorem prG_F {t : List Nat} (ht : lvl t = true) (hl : t.length ≤ 8) (hc : canO 9 t = some t) : ∀ x ∈ prG t, PrtF t x.1 := by
  refine grpL_mem cmpP (PrtF t) fun y hy => ?_
  obtain ⟨i, hi, rfl⟩ := prt_mem.1 hy
  have h0 : 0 < t.length := by obtain ⟨c, rfl, -⟩ := lvl_cons ht; simp
  have := two_pow h0 hi
  exact prtN_F ht hl hc this.1 this.2
theorem prG_cnt (t : List Nat) : cntS (prG t) = 2 ^ (t.length - 1) := by
  unfold prG
  rw [grpL_cnt]
  have hp := srtSF_perm (lt := ltP) [] (prtL t (2 ^ (t.length - 1)))
  have : (srtS ltP (prtL t (2 ^ (t.length - 1)))).length = (prtL t (2 ^ (t.length - 1))).length := hp.length_eq
  rw [this]
  unfold prtL
  rw [List.length_map, List.length_range]
theorem prG_all {t : List Nat} {i : Nat} (hi : i < 2 ^ (t.length - 1)) : ∃ x ∈ prG t, x.1 = prtN t (2 * i) :=
  grpL_all (fun a b h => (cmpP_zero a b).1 h) (prt_mem.2 ⟨i, hi, rfl⟩)
end Go.Proofs.Ytnlaoainhlfemaa

set_option maxRecDepth 100000
set_option linter.unusedVariables false
set_option linter.unusedSimpArgs false
namespace Go.Proofs.Ytnlaoainhlfemaa
open Go.RowKit Go.Sort Go.Shelf

/-- what PartitionsOf answers -/
def ptC (zs : List Int) : Int := if isT zs then 0 else 1
def ptR (zs : List Int) : List (PK × Nat) := if isT zs then prG (canN (toN zs)) else []
/-- a tree that is taken -/
structure TakenT (zs : List Int) (n t : List Nat) : Prop where
  zs : zs = up n
  lv : lvl n = true
  n8 : n.length ≤ 8
  can : canO 9 n = some t
  len : t.length = n.length
  tlv : lvl t = true
  t8 : t.length ≤ 8
  t0 : 0 < t.length
  tcan : canO 9 t = some t
  nl : ∀ l ∈ n, l ≤ 1000000
  tl : ∀ l ∈ t, l ≤ 1000000
theorem takenT {zs : List Int} (h : isT zs = true) : ∃ n t, TakenT zs n t := by
  obtain ⟨n, rfl, hlv, h8⟩ := isT_up h
  obtain ⟨t, hc, htl, htc⟩ := canO_8 hlv h8
  have hlen := canO_len hc
  have hpos : 0 < n.length := by obtain ⟨c, rfl, -⟩ := lvl_cons hlv; simp
  exact ⟨n, t, rfl, hlv, h8, hc, hlen, htl, by omega, by omega, htc, fun l hl => by have := lvl_le hlv l hl; omega, fun l hl => by have := lvl_le htl l hl; omega⟩
theorem ptR_eq {zs : List Int} {n t : List Nat} (h : TakenT zs n t) (ht : isT zs = true) : ptR zs = prG t := by
  unfold ptR
  rw [if_pos ht, h.zs, toN_up]
  unfold canN
  rw [h.can]
  rfl
set_option maxHeartbeats 4000000 in
theorem i_PartitionsOf (w : World) (v : Value) (zs : List Int) (ha : Ints w v zs) :
    Calls Try.prog 33 #[v] w fun e w' => ∃ x, e = .returned (.tuple #[x, .int .i64 (ptC zs)]) ∧ SLs ePc tPt w' w.heap.size x (ptR zs) ∧ Below w.heap.size w w' := by
  have HIS := Lib.hid (i_IsLevels w v zs ha)
  have HA := Lib.hid ha
  obtain ⟨A, c, rfl, -, -, -⟩ := ha.open_
  clear ha
  cases ht : isT zs with
  | false =>
    have HC := Lib.hid (show ptC zs = 1 ∧ ptR zs = [] from ⟨by simp [ptC, ht], by simp [ptR, ht]⟩)
    rw [ht] at HIS
    clear ht
    rw [HC.out.1, HC.out.2]
    go_enter Try.func33, Try.ntmps33
    go_wp2_with (go_at_call 76; refine HIS.out.mono ?_; rintro e w1 ⟨rfl, rfl⟩)
    go_ret2
    exact ⟨_, rfl, ⟨[], OwnK.nil _ _ _ _, Elts.nil _ _ _⟩, Below.refl _ _⟩
  | true =>
    obtain ⟨n, t, hT⟩ := takenT ht
    have HT := Lib.hid hT
    have HC := Lib.hid (show ptC zs = 0 ∧ ptR zs = prG t from ⟨by simp [ptC, ht], ptR_eq hT ht⟩)
    rw [ht] at HIS
    have hz := hT.zs
    have HCA := Lib.hid (fun X (h : Ints X (.slice A zs.length c) (up n)) => i_canonical 9 X _ n t h hT.can (by have := hT.n8; omega) hT.nl)
    have HPO := Lib.hid (fun X v (h : Ints X v (up t)) => i_partitionsOf X v t h hT.tlv hT.t8 hT.tcan hT.tl)
    rw [hz] at HA
    rw [HC.out.1, HC.out.2]
    have HAZ := Lib.hid (show Ints w (.slice A zs.length c) (up n) from by rw [hz]; exact HA.out)
    clear ht hT hz HA
    go_enter Try.func33, Try.ntmps33
    go_wp2_with (first
      | (go_at_call 76; refine HIS.out.mono ?_; rintro e w1 ⟨rfl, rfl⟩)
      | (go_at_call 78; go_loud (refine (HCA.out _ HAZ.out).mono ?_; rintro e w2 ⟨x2, rfl, hx2, hb2⟩; have HX2 := Lib.hid hx2; have HB2 := Lib.hid hb2; clear hx2 hb2))
      | (go_at_call 77; go_loud (refine (HPO.out _ _ HX2.out.ints).mono ?_; rintro e w3 ⟨x3, rfl, hx3, hb3⟩; have HX3 := Lib.hid hx3; have HB3 := Lib.hid hb3; clear hx3 hb3)))
    go_ret2
    exact ⟨_, rfl, HX3.out.mono HB2.out.size, HB2.out.trans (HB3.out.mono HB2.out.size)⟩
set_option maxHeartbeats 4000000 in
theorem s_PartitionsOf (w : World) (v : Value) (zs : List Int) (ha : Ints w v zs) :
    Calls Try.prog 34 #[v] w fun e w' => ∃ x, e = .returned (.tuple #[x, .int .i64 (ptC zs)]) ∧ SLs ePc tPt w' w.heap.size x (ptR zs) ∧ Below w.heap.size w w' := by
  have HIS := Lib.hid (s_l03Is w v zs ha)
  have HA := Lib.hid ha
  obtain ⟨A, c, rfl, -, -, -⟩ := ha.open_
  clear ha
  cases ht : isT zs with
  | false =>
    have HC := Lib.hid (show ptC zs = 1 ∧ ptR zs = [] from ⟨by simp [ptC, ht], by simp [ptR, ht]⟩)
    rw [ht] at HIS
    clear ht
    rw [HC.out.1, HC.out.2]
    go_enter Try.func34, Try.ntmps34
    go_wp2_with (go_at_call 79; refine HIS.out.mono ?_; rintro e w1 ⟨rfl, d, rfl⟩)
    go_ret2
    exact ⟨_, rfl, ⟨[], OwnK.nil _ _ _ _, Elts.nil _ _ _⟩, below_drewN (Below.refl _ _) _⟩
  | true =>
    obtain ⟨n, t, hT⟩ := takenT ht
    have HT := Lib.hid hT
    have HC := Lib.hid (show ptC zs = 0 ∧ ptR zs = prG t from ⟨by simp [ptC, ht], ptR_eq hT ht⟩)
    rw [ht] at HIS
    have hz := hT.zs
    have HCA := Lib.hid (fun X (h : Ints X (.slice A zs.length c) (up n)) => s_l03Canon 9 X _ n t h hT.can (by have := hT.n8; omega) hT.nl)
    have HPO := Lib.hid (fun X v (h : Ints X v (up t)) => s_l16Partitions X v t h hT.tlv hT.t8 hT.tcan hT.tl)
    rw [hz] at HA
    rw [HC.out.1, HC.out.2]
    have HAZ := Lib.hid (show Ints w (.slice A zs.length c) (up n) from by rw [hz]; exact HA.out)
    clear ht hT hz HA
    go_enter Try.func34, Try.ntmps34
    go_wp2_with (first
      | (go_at_call 79; refine HIS.out.mono ?_; rintro e w1 ⟨rfl, d, rfl⟩)
      | (go_at_call 81; go_loud (refine (HCA.out _ (HAZ.out.drewN d)).mono ?_; rintro e w2 ⟨x2, rfl, hx2, hb2⟩; have HX2 := Lib.hid hx2; have HB2 := Lib.hid (show Below w.heap.size w w2 from (below_drewN (Below.refl w.heap.size w) d).trans hb2); clear hx2 hb2))
      | (go_at_call 80; go_loud (refine (HPO.out _ _ HX2.out.ints).mono ?_; rintro e w3 ⟨x3, rfl, hx3, hb3⟩; have HX3 := Lib.hid hx3; have HB3 := Lib.hid hb3; clear hx3 hb3)))
    go_ret2
    exact ⟨_, rfl, HX3.out.mono HB2.out.size, HB2.out.trans (HB3.out.mono HB2.out.size)⟩
end Go.Proofs.Ytnlaoainhlfemaa

set_option maxRecDepth 100000
set_option linter.unusedVariables false
set_option linter.unusedSimpArgs false
namespace Go.Proofs.Ytnlaoainhlfemaa
open Go.RowKit

/-- bytes that can be read, in a block below B -/
def ByB (w : World) (B : Nat) (A : Option Addr) (n : Nat) : Prop := ∀ k, k < n → ∃ ad z, A = some ad ∧ ad.block < B ∧ ad.block < w.heap.size ∧ 0 ≤ z ∧ z ≤ 255 ∧ w.cell? (ad.add k) = some (.int .u8 z)
/-- a byte slice that can be read -/
def Bts (w : World) (v : Value) (n : Nat) : Prop := ∃ A c, v = .slice A n c ∧ ByB w w.heap.size A n
/-- a source of numbers in block p: the bytes, the place, the hash -/
def Src (w : World) (B : Nat) (t : TypeId) (p : Nat) : Prop := ∃ (A : Option Addr) (n c k : Nat) (h : Int), Blk w p t #[.slice A n c, .int .i64 k, .int .u64 h] ∧ B ≤ p ∧ ByB w B A n ∧ k ≤ n ∧ n ≤ 1000000 ∧ 0 ≤ h ∧ h < 18446744073709551616
abbrev at0 (p : Nat) : Value := .pointer (some ⟨p, 0, none⟩)
abbrev tDc : TypeId := 99
theorem ByB.grown {w w' : World} {B n p : Nat} {A : Option Addr} (h : ByB w B A n) (hg : w.grownBy w' (some p)) (hp : B ≤ p) : ByB w' B A n := fun k hk => by
  obtain ⟨ad, z, rfl, h1, h2, h3, h4, h5⟩ := h k hk
  refine ⟨ad, z, rfl, h1, Nat.lt_of_lt_of_le h2 hg.size, h3, h4, ?_⟩
  have hb : w'.heap[ad.block]? = w.heap[ad.block]? := hg.block ad.block h2 (fun e => by injection e with e; omega)
  rw [← h5]
  unfold World.cell?
  simp only [block_add]
  rw [hb]
theorem gset (w : World) (g i : Nat) (u : Value) : w.grownBy (w.setCell ⟨g, i, none⟩ u) (some g) := by
  have b := Below.setCell (B := 0) (Below.refl 0 w) (p := ⟨g, i, none⟩) (Nat.zero_le _) u
  exact ⟨b.os, b.tape, b.output, b.size, fun k hk hne => Below.heap_setCell w _ u k (fun e => hne (by rw [e]))⟩
theorem w64_dr (x : Int) (h : -9223372036854775808 ≤ x ∧ x ≤ 9223372036854775807) : wrap64 x = x := by unfold wrap64; omega
theorem u64_bd (x : Int) : 0 ≤ IntKind.u64.wrap x ∧ IntKind.u64.wrap x < 18446744073709551616 := by rw [IntKind.wrap_u64]; omega
theorem bits_bd {x : Int} (h0 : 0 ≤ x) (h1 : x < 18446744073709551616) : 0 ≤ bits BinOp.and IntKind.u64 x 16777215 ∧ bits BinOp.and IntKind.u64 x 16777215 ≤ 16777215 := by
  have h := bits_and_u64_nat x.toNat 16777215 (by omega) (by omega)
  rw [Int.toNat_of_nonneg h0] at h
  have h2 : x.toNat &&& 16777215 ≤ 16777215 := Nat.and_le_right
  rw [show (16777215 : Int) = ((16777215 : Nat) : Int) from rfl, h]
  omega
/-- what one step of the hash gives -/
theorem hash_bd (z : Int) : ∃ x y : Int, x = IntKind.u64.wrap z ∧ 0 ≤ x ∧ x < 18446744073709551616 ∧ y = bits BinOp.and IntKind.u64 (x / 8589934592) 16777215 ∧ wrap64 (bits BinOp.and IntKind.u64 (x / 8589934592) 16777215) = y ∧ 0 ≤ y ∧ y ≤ 16777215 := by
  have h1 := u64_bd z
  have h2 := bits_bd (x := IntKind.u64.wrap z / 8589934592) (by omega) (by omega)
  exact ⟨_, _, rfl, h1.1, h1.2, rfl, w64_dr _ (by omega), h2.1, h2.2⟩
theorem rem_bd {x n : Int} (h0 : 0 ≤ x) (h1 : 1 ≤ n) : 0 ≤ x % n ∧ x % n < n := ⟨Int.emod_nonneg _ (by omega), Int.emod_lt_of_pos _ (by omega)⟩
theorem gtrans {w w1 w2 : World} {b : Option Nat} (h : w.grownBy w1 b) (h' : w1.grownBy w2 b) : w.grownBy w2 b :=
  ⟨h'.os.trans h.os, h'.tape.trans h.tape, h'.output.trans h.output, Nat.le_trans h.size h'.size, fun k hk hne => (h'.block k (Nat.lt_of_lt_of_le hk h.size) hne).trans (h.block k hk hne)⟩
theorem gof {w w' : World} {r : Option Nat} (h : Below w.heap.size w w') : w.grownBy w' r := ⟨h.os, h.tape, h.output, h.size, fun k hk _ => h.block k hk⟩
set_option maxHeartbeats 4000000 in
theorem l_below (w : World) (B p : Nat) (n : Int) (h : Src w B tDc p) (hn : n ≤ 4611686018427387904) (hn0 : 1 ≤ n) :
    Calls Try.prog 38 #[at0 p, .int .i64 n] w fun e w' => ∃ x, e = .returned (.int .i64 x) ∧ 0 ≤ x ∧ x < n ∧ w.grownBy w' (some p) ∧ Src w' B tDc p := by
  obtain ⟨A, m, c, k, hs, hk, hB, hby, hkm, hm, h0, h1⟩ := h
  have HK := Lib.hid hk
  have HBY := Lib.hid hby
  have k2 : w.cell? ⟨p, 2, none⟩ = some (.int .u64 hs) := hk.cell 2
  have f2 : w.frozen? ⟨p, 2, none⟩ = false := hk.frozen 2
  clear hk hby
  go_enter Try.func38, Try.ntmps38
  go_upto_region 5 with fail
  obtain ⟨x, y, hx, x0, x1, hy, hw, y0, y1⟩ := hash_bd (IntKind.u64.wrap (hs * 6364136223846793005) + 1442695040888963407)
  rw [← hx, hw, ← hy]
  clear hx hy hw h0 h1 f2 k2
  have HK1 := Lib.hid (HK.out.set_ 2 (.int .u64 x))
  have HG1 := Lib.hid (gset w p 2 (.int .u64 x))
  generalize w.setCell ⟨p, 2, none⟩ (.int .u64 x) = w1 at HK1 HG1 ⊢
  generalize x / 8589934592 = x9
  generalize IntKind.u64.wrap (hs * 6364136223846793005) = x8
  have HBY1 := Lib.hid (HBY.out.grown HG1.out hB)
  have HK1 := Lib.hid (show Blk w1 p tDc #[.slice A m c, .int .i64 k, .int .u64 x] from HK1.out)
  have k0 : w1.cell? ⟨p, 0, none⟩ = some (.slice A m c) := HK1.out.cell 0
  have k1 : w1.cell? ⟨p, 1, none⟩ = some (.int .i64 k) := HK1.out.cell 1
  have f1 : w1.frozen? ⟨p, 1, none⟩ = false := HK1.out.frozen 1
  clear HK HBY
  by_cases hlt : k < m
  · obtain ⟨ad, z, rfl, a1, a2, z0, z1, hc⟩ := HBY1.out k hlt
    have hkk : (k : Int) < (m : Int) := by omega
    have hw1 : wrap64 (y + z) = y + z := w64_dr _ (by omega)
    have hwk : wrap64 ((k : Int) + 1) = (k : Int) + 1 := w64_dr _ (by omega)
    clear a1 a2
    go_quiet (fail)
    go_upto_region 6 with fail
    rename Nat => nq0
    have k0' : (w1.drewN nq0).cell? ⟨p, 0, none⟩ = some (.slice (some ad) m c) := k0
    have k1' : (w1.drewN nq0).cell? ⟨p, 1, none⟩ = some (.int .i64 k) := k1
    have hc' : (w1.drewN nq0).cell? (ad.add k) = some (.int .u8 z) := hc
    go_quiet (fail)
    go_wp2_with fail
    go_ret
    obtain ⟨r0, r1⟩ := rem_bd (x := y + z) (n := n) (by omega) hn0
    have HB2 : w1.grownBy ((w1.drewN (nq0 + nq)).setCell ⟨p, 1, none⟩ (.int .i64 ((k : Int) + 1))) (some p) := gtrans (gof (below_drewN (Below.refl _ _) _)) (gset _ _ _ _)
    exact ⟨_, rfl, r0, r1, gtrans HG1.out HB2, some ad, m, c, k + 1, x, by simpa using (HK1.out.drewN _).set_ 1 (.int .i64 ((k : Int) + 1)), hB, HBY1.out.grown HB2 hB, hlt, hm, x0, x1⟩
  · have hkk : ¬ ((k : Int) < (m : Int)) := by omega
    go_quiet (fail)
    go_wp2_with fail
    go_ret
    obtain ⟨r0, r1⟩ := rem_bd (x := y) (n := n) (by omega) hn0
    rename Nat => nq0
    have HB2 : w1.grownBy (w1.drewN nq0) (some p) := gof (below_drewN (Below.refl _ _) _)
    exact ⟨_, rfl, r0, r1, gtrans HG1.out HB2, A, m, c, k, x, HK1.out.drewN _, hB, HBY1.out.grown HB2 hB, hkm, hm, x0, x1⟩
/-- the source is kept where others grow -/
theorem Src.kept {w w' : World} {B p : Nat} {t : TypeId} {r : Option Nat} (h : Src w B t p) (hg : w.grownBy w' r) (hne : r ≠ some p) (hr : ∀ b, r = some b → B ≤ b) : Src w' B t p := by
  obtain ⟨A, m, c, k, hs, hk, hB, hby, h1⟩ := h
  refine ⟨A, m, c, k, hs, (hg.block p hk.lt (fun e => hne e.symm)).trans hk, hB, fun j hj => ?_, h1⟩
  obtain ⟨ad, z, rfl, a1, a2, z0, z1, hc⟩ := hby j hj
  refine ⟨ad, z, rfl, a1, Nat.lt_of_lt_of_le a2 hg.size, z0, z1, ?_⟩
  have hb : w'.heap[ad.block]? = w.heap[ad.block]? := hg.block ad.block a2 (fun e => by have := hr _ e.symm; omega)
  rw [← hc]
  unfold World.cell?
  simp only [block_add]
  rw [hb]
theorem Src.below {w w' : World} {B p : Nat} {t : TypeId} (h : Src w B t p) (hg : Below w.heap.size w w') : Src w' B t p := h.kept (r := none) (gof hg) (by simp) (by simp)
theorem Src.ge {w : World} {B p : Nat} {t : TypeId} (h : Src w B t p) : B ≤ p := by obtain ⟨A, m, c, k, hs, hk, hB, -⟩ := h; exact hB
theorem Src.lt {w : World} {B p : Nat} {t : TypeId} (h : Src w B t p) : p < w.heap.size := by obtain ⟨A, m, c, k, hs, hk, hB, -⟩ := h; exact hk.lt
set_option maxHeartbeats 4000000 in
theorem l_roll (w : World) (A : Option Addr) (n c : Nat) (s : Int) (hb : ByB w w.heap.size A n) (hn : n ≤ 1000000) (hs0 : 0 ≤ s) (hs1 : s ≤ 100000) :
    Calls Try.prog 37 #[.slice A n c, .int .u64 s] w fun e w' => ∃ p, e = .returned (at0 p) ∧ Src w' w.heap.size tDc p ∧ Below w.heap.size w w' := by
  have HBY := Lib.hid hb
  have hs2 : 0 ≤ s * 8111 + (n : Int) ∧ s * 8111 + (n : Int) < 18446744073709551616 := by omega
  clear hb
  go_enter Try.func37, Try.ntmps37
  go_wp2_with fail
  obtain ⟨h0, hh0⟩ : ∃ h0, h0 = s * 8111 + (n : Int) := ⟨_, rfl⟩
  rw [← hh0] at hs2 ⊢
  obtain ⟨W, hW⟩ : ∃ W, W = w.alloc (Obj.cells #[Value.slice A n c, Value.int IntKind.i64 0, Value.int IntKind.u64 h0] tDc) := ⟨_, rfl⟩
  have HBW := Lib.hid (show Below w.heap.size w W from by rw [hW]; exact below1 w _)
  have HK := Lib.hid (show Blk W w.heap.size tDc #[Value.slice A n c, Value.int IntKind.i64 0, Value.int IntKind.u64 h0] from by rw [hW]; exact Blk.new _ _ _)
  rw [← hW]
  clear hW hh0
  obtain ⟨g0, g1⟩ := hs2
  go_loopw [6] (fun x wr => ∃ (j : Nat) (h : Int), j ≤ n ∧ x = .int .i64 j ∧ 0 ≤ h ∧ h < 18446744073709551616 ∧ Blk wr w.heap.size tDc #[Value.slice A n c, Value.int IntKind.i64 0, Value.int IntKind.u64 h] ∧ Below w.heap.size w wr) (fun x _ => n - (intOf x).toNat)
  case atStart => exact ⟨0, h0, Nat.zero_le _, rfl, g0, g1, HK.out, HBW.out⟩
  case round =>
    obtain ⟨j, h, hj, rfl, q0, q1, hk, hb⟩ := hrel
    rename World => wq
    clear HK HBW
    have HK := Lib.hid hk
    have HB := Lib.hid hb
    have k2 : wq.cell? ⟨w.heap.size, 2, none⟩ = some (.int .u64 h) := hk.cell 2
    have f2 : wq.frozen? ⟨w.heap.size, 2, none⟩ = false := hk.frozen 2
    clear hk hb
    by_cases hlt : j < n
    · have hjj : (j : Int) < (n : Int) := by omega
      obtain ⟨ad, z, rfl, a1, a2, z0, z1, hc⟩ := HBY.out j hlt
      have hc1 : wq.cell? (ad.add j) = some (.int .u8 z) := by rw [HB.out.cell (by rw [block_add]; exact a1)]; exact hc
      have hjk : wrap64 ((j : Int) + 1) = (j : Int) + 1 := w64_dr _ (by omega)
      clear a1 a2 hc
      go_upto_region 5 with fail
      go_region_law (fail)
      all_goals
        obtain ⟨y, hy⟩ : ∃ y, y = IntKind.u64.wrap (IntKind.u64.wrap (IntKind.u64.wrap (h * 1099511628211) + IntKind.u64.wrap z) + 5) := ⟨_, rfl⟩
        obtain ⟨b0, b1⟩ : 0 ≤ y ∧ y < 18446744073709551616 := by rw [hy]; exact u64_bd _
        rw [← hy]
        clear hy
        go_wp2_with fail
        go_roundw
        case rel =>
          exact ⟨j + 1, _, by omega, by go_num, b0, b1, (HK.out.set_ 2 _).drewN 1, (HB.out.setCell (Nat.le_refl _) _).drew⟩
        case measure => simp [intOf]; omega
    · have hjn : j = n := by omega
      subst hjn
      go_wp2_with fail
      go_ret
      exact ⟨_, rfl, ⟨A, j, c, 0, h, HK.out, Nat.le_refl _, fun k hk => by obtain ⟨ad, z, e, a1, a2, z0, z1, hc⟩ := HBY.out k hk; exact ⟨ad, z, e, a1, Nat.lt_of_lt_of_le a1 HB.out.size, z0, z1, by rw [HB.out.cell (by rw [block_add]; exact a1)]; exact hc⟩, Nat.zero_le _, hn, q0, q1⟩, HB.out⟩
theorem gthen {w w1 w2 : World} {p : Nat} {r : Option Nat} (h : w.grownBy w1 (some p)) (h' : w1.grownBy w2 r) (hr : ∀ b, r = some b → w.heap.size ≤ b) : w.grownBy w2 (some p) :=
  ⟨h'.os.trans h.os, h'.tape.trans h.tape, h'.output.trans h.output, Nat.le_trans h.size h'.size, fun k hk hne => (h'.block k (Nat.lt_of_lt_of_le hk h.size) (fun e => by have := hr _ e.symm; omega)).trans (h.block k hk hne)⟩
theorem Own.src {w w' : World} {C p : Nat} {e : TypeId} {v : Value} {vs : List Value} (h : Own w C e v vs) (hp : p < C) (hg : w.grownBy w' (some p)) : Own w' C e v vs := h.kept hg (by
  cases hb : v.ownBlock with
  | none => exact .inl rfl
  | some b => exact .inr fun e => by injection e with e; have := h.ge b hb; omega)
end Go.Proofs.Ytnlaoainhlfemaa

set_option maxRecDepth 100000
set_option linter.unusedVariables false
set_option linter.unusedSimpArgs false
namespace Go.Proofs.Ytnlaoainhlfemaa
open Go.RowKit

abbrev tSc : TypeId := 106
set_option maxHeartbeats 4000000 in
theorem s_l01Next (w : World) (B p : Nat) (n : Int) (h : Src w B tSc p) (hn : n ≤ 4611686018427387904) (hn0 : 1 ≤ n) :
    Calls Try.prog 88 #[at0 p, .int .i64 n] w fun e w' => ∃ x, e = .returned (.int .i64 x) ∧ 0 ≤ x ∧ x < n ∧ w.grownBy w' (some p) ∧ Src w' B tSc p := by
  obtain ⟨A, m, c, k, hs, hk, hB, hby, hkm, hm, h0, h1⟩ := h
  have HK := Lib.hid hk
  have HBY := Lib.hid hby
  have k2 : w.cell? ⟨p, 2, none⟩ = some (.int .u64 hs) := hk.cell 2
  have f2 : w.frozen? ⟨p, 2, none⟩ = false := hk.frozen 2
  clear hk hby
  go_enter Try.func88, Try.ntmps88
  go_upto_region 5 with fail
  obtain ⟨x, y, hx, x0, x1, hy, hw, y0, y1⟩ := hash_bd (IntKind.u64.wrap (hs * 6364136223846793005) + 1442695040888963407)
  rw [← hx, hw, ← hy]
  clear hx hy hw h0 h1 f2 k2
  have HK1 := Lib.hid (HK.out.set_ 2 (.int .u64 x))
  have HG1 := Lib.hid (gset w p 2 (.int .u64 x))
  generalize w.setCell ⟨p, 2, none⟩ (.int .u64 x) = w1 at HK1 HG1 ⊢
  generalize x / 8589934592 = x9
  generalize IntKind.u64.wrap (hs * 6364136223846793005) = x8
  have HBY1 := Lib.hid (HBY.out.grown HG1.out hB)
  have HK1 := Lib.hid (show Blk w1 p tSc #[.slice A m c, .int .i64 k, .int .u64 x] from HK1.out)
  have k0 : w1.cell? ⟨p, 0, none⟩ = some (.slice A m c) := HK1.out.cell 0
  have k1 : w1.cell? ⟨p, 1, none⟩ = some (.int .i64 k) := HK1.out.cell 1
  have f1 : w1.frozen? ⟨p, 1, none⟩ = false := HK1.out.frozen 1
  clear HK HBY
  by_cases hlt : k < m
  · obtain ⟨ad, z, rfl, a1, a2, z0, z1, hc⟩ := HBY1.out k hlt
    have hkk : (k : Int) < (m : Int) := by omega
    have hw1 : wrap64 (y + z) = y + z := w64_dr _ (by omega)
    have hwk : wrap64 ((k : Int) + 1) = (k : Int) + 1 := w64_dr _ (by omega)
    clear a1 a2
    go_quiet (fail)
    go_upto_region 6 with fail
    rename Nat => nq0
    have k0' : (w1.drewN nq0).cell? ⟨p, 0, none⟩ = some (.slice (some ad) m c) := k0
    have k1' : (w1.drewN nq0).cell? ⟨p, 1, none⟩ = some (.int .i64 k) := k1
    have hc' : (w1.drewN nq0).cell? (ad.add k) = some (.int .u8 z) := hc
    go_quiet (fail)
    go_wp2_with fail
    go_ret
    obtain ⟨r0, r1⟩ := rem_bd (x := y + z) (n := n) (by omega) hn0
    have HB2 : w1.grownBy ((w1.drewN (nq0 + nq)).setCell ⟨p, 1, none⟩ (.int .i64 ((k : Int) + 1))) (some p) := gtrans (gof (below_drewN (Below.refl _ _) _)) (gset _ _ _ _)
    exact ⟨_, rfl, r0, r1, gtrans HG1.out HB2, some ad, m, c, k + 1, x, by simpa using (HK1.out.drewN _).set_ 1 (.int .i64 ((k : Int) + 1)), hB, HBY1.out.grown HB2 hB, hlt, hm, x0, x1⟩
  · have hkk : ¬ ((k : Int) < (m : Int)) := by omega
    go_quiet (fail)
    go_wp2_with fail
    go_ret
    obtain ⟨r0, r1⟩ := rem_bd (x := y) (n := n) (by omega) hn0
    rename Nat => nq0
    have HB2 : w1.grownBy (w1.drewN nq0) (some p) := gof (below_drewN (Below.refl _ _) _)
    exact ⟨_, rfl, r0, r1, gtrans HG1.out HB2, A, m, c, k, x, HK1.out.drewN _, hB, HBY1.out.grown HB2 hB, hkm, hm, x0, x1⟩
set_option maxHeartbeats 4000000 in
theorem s_l01From (w : World) (A : Option Addr) (n c : Nat) (hb : ByB w w.heap.size A n) (hn : n ≤ 4096) :
    Calls Try.prog 47 #[.slice A n c] w fun e w' => ∃ p, e = .returned (at0 p) ∧ Src w' w.heap.size tSc p ∧ Below w.heap.size w w' := by
  have HBY := Lib.hid hb
  have hs2 : 0 ≤ 5381 + (n : Int) ∧ 5381 + (n : Int) < 18446744073709551616 := by omega
  clear hb
  go_enter Try.func47, Try.ntmps47
  go_wp2_with fail
  obtain ⟨h0, hh0⟩ : ∃ h0, h0 = 5381 + (n : Int) := ⟨_, rfl⟩
  rw [← hh0] at hs2 ⊢
  obtain ⟨W, hW⟩ : ∃ W, W = w.alloc (Obj.cells #[Value.slice A n c, Value.int IntKind.i64 0, Value.int IntKind.u64 h0] tSc) := ⟨_, rfl⟩
  have HBW := Lib.hid (show Below w.heap.size w W from by rw [hW]; exact below1 w _)
  have HK := Lib.hid (show Blk W w.heap.size tSc #[Value.slice A n c, Value.int IntKind.i64 0, Value.int IntKind.u64 h0] from by rw [hW]; exact Blk.new _ _ _)
  rw [← hW]
  clear hW hh0
  obtain ⟨g0, g1⟩ := hs2
  go_loopw [4] (fun x wr => ∃ (j : Nat) (h : Int), j ≤ n ∧ x = .int .i64 j ∧ 0 ≤ h ∧ h < 18446744073709551616 ∧ Blk wr w.heap.size tSc #[Value.slice A n c, Value.int IntKind.i64 0, Value.int IntKind.u64 h] ∧ Below w.heap.size w wr) (fun x _ => n - (intOf x).toNat)
  case atStart => exact ⟨0, h0, Nat.zero_le _, rfl, g0, g1, HK.out, HBW.out⟩
  case round =>
    obtain ⟨j, h, hj, rfl, q0, q1, hk, hb⟩ := hrel
    rename World => wq
    clear HK HBW
    have HK := Lib.hid hk
    have HB := Lib.hid hb
    have k2 : wq.cell? ⟨w.heap.size, 2, none⟩ = some (.int .u64 h) := hk.cell 2
    have f2 : wq.frozen? ⟨w.heap.size, 2, none⟩ = false := hk.frozen 2
    clear hk hb
    by_cases hlt : j < n
    · have hj4 : (j : Int) < 4096 := by omega
      have hjj : (j : Int) < (n : Int) := by omega
      obtain ⟨ad, z, rfl, a1, a2, z0, z1, hc⟩ := HBY.out j hlt
      have hc1 : wq.cell? (ad.add j) = some (.int .u8 z) := by rw [HB.out.cell (by rw [block_add]; exact a1)]; exact hc
      have hjk : wrap64 ((j : Int) + 1) = (j : Int) + 1 := w64_dr _ (by omega)
      clear a1 a2 hc
      go_upto_region 5 with fail
      go_region_law (fail)
      all_goals
        obtain ⟨y, hy⟩ : ∃ y, y = IntKind.u64.wrap (IntKind.u64.wrap (IntKind.u64.wrap (h * 1099511628211) + IntKind.u64.wrap z) + 11) := ⟨_, rfl⟩
        obtain ⟨b0, b1⟩ : 0 ≤ y ∧ y < 18446744073709551616 := by rw [hy]; exact u64_bd _
        rw [← hy]
        clear hy
        go_wp2_with fail
        go_roundw
        case rel =>
          exact ⟨j + 1, _, by omega, by go_num, b0, b1, (HK.out.set_ 2 _).drewN 1, (HB.out.setCell (Nat.le_refl _) _).drew⟩
        case measure => simp [intOf]; omega
    · have hjn : j = n := by omega
      subst hjn
      go_wp2_with fail
      go_ret
      exact ⟨_, rfl, ⟨A, j, c, 0, h, HK.out, Nat.le_refl _, fun k hk => by obtain ⟨ad, z, e, a1, a2, z0, z1, hc⟩ := HBY.out k hk; exact ⟨ad, z, e, a1, Nat.lt_of_lt_of_le a1 HB.out.size, z0, z1, by rw [HB.out.cell (by rw [block_add]; exact a1)]; exact hc⟩, Nat.zero_le _, (by omega), q0, q1⟩, HB.out⟩
end Go.Proofs.Ytnlaoainhlfemaa

set_option maxRecDepth 100000
set_option linter.unusedVariables false
set_option linter.unusedSimpArgs false
namespace Go.Proofs.Ytnlaoainhlfemaa
open Go.RowKit

theorem wrap_i64 (x : Int) (h : -9223372036854775808 ≤ x ∧ x ≤ 9223372036854775807) : IntKind.i64.wrap x = x := IntWalk.i64_in _ (by omega)
/-- a literal list of numbers is kept where the source changes -/
theorem lit_keep (w : World) (p : Nat) (zs : List Int) (hz : ∀ z ∈ zs, In64 z) (hl : zs.length ≤ 1000) (hp : p < w.heap.size) :
    ∀ W, (w.alloc (.cells (ints zs).toArray tI)).grownBy W (some p) → Ints W (.slice (some ⟨w.heap.size, 0, none⟩) zs.length zs.length) zs := fun W hg => by
  have h := own_lit w tI (ints zs) (by rw [ints_len]; simp [maxLen]; omega)
  rw [ints_len] at h
  exact ⟨(h.kept hg (.inr (fun e => by simp [Value.ownBlock] at e; omega))).cells, hz⟩
set_option maxHeartbeats 4000000 in
theorem s_l01Pick (w : World) (B p : Nat) (v : Value) (zs : List Int) (h : Src w B tSc p) (hv : ∀ W, w.grownBy W (some p) → Ints W v zs) (h1 : 1 ≤ zs.length) (h2 : zs.length ≤ 1000) :
    Calls Try.prog 89 #[at0 p, v] w fun e w' => ∃ z, e = .returned (.int .i64 z) ∧ z ∈ zs ∧ w.grownBy w' (some p) ∧ Src w' B tSc p := by
  obtain ⟨A, c, rfl, g1, g2, g3⟩ := (hv w (World.grownBy.refl _ _)).open_
  have HV := Lib.hid hv
  have HN := Lib.hid (s_l01Next w B p (zs.length : Nat) h (by omega) (by omega))
  clear g3 h hv
  go_enter Try.func89, Try.ntmps89
  go_wp2_with (go_at_call 88; go_loud (refine HN.out.mono ?_; rintro e w1 ⟨x, rfl, x0, x1, hg, hs⟩; obtain ⟨k, rfl⟩ : ∃ k : Nat, x = k := ⟨x.toNat, by omega⟩; obtain ⟨A', c', he, -, -, g3⟩ := (HV.out w1 hg).open_; (simp only [Value.slice.injEq] at he); obtain ⟨rfl, -, rfl⟩ := he; obtain ⟨ad, z, rfl, hz, hz2, hc⟩ := g3 k (by omega); have HZ := Lib.hid (List.mem_of_getElem? hz); have HG := Lib.hid hg; have HS := Lib.hid hs; have hkl : k < zs.length := (by omega); clear g3 hz hz2 hg hs x0 x1))
  go_ret
  exact ⟨_, rfl, HZ.out, HG.out, HS.out⟩
end Go.Proofs.Ytnlaoainhlfemaa

set_option maxRecDepth 100000
set_option linter.unusedVariables false
set_option linter.unusedSimpArgs false
namespace Go.Proofs.Ytnlaoainhlfemaa
open Go.RowKit

/-! ### the laws' lists -/
end Go.Proofs.Ytnlaoainhlfemaa

set_option maxRecDepth 100000
set_option linter.unusedVariables false
set_option linter.unusedSimpArgs false
namespace Go.Proofs.Ytnlaoainhlfemaa
open Go.RowKit

/-- n numbers -/
def Nl (n : Nat) (zs : List Int) : Prop := zs.length = n ∧ Nums zs
/-- a square of numbers -/
def Sqm (m n : Nat) (xss : List (List Int)) : Prop := xss.length = m ∧ ∀ zs ∈ xss, Nl n zs
theorem Nl.snoc {n : Nat} {zs : List Int} {z : Int} (h : Nl n zs) (hz : 0 ≤ z ∧ z ≤ 10006) : Nl (n + 1) (zs ++ [z]) := by
  refine ⟨by rw [List.length_append, h.1]; rfl, fun y hy => ?_⟩
  rcases List.mem_append.1 hy with hy | hy
  · exact h.2 y hy
  · simp at hy; subst hy; exact hz
theorem Sqm.snoc {m n : Nat} {xss : List (List Int)} {zs : List Int} (h : Sqm m n xss) (hz : Nl n zs) : Sqm (m + 1) n (xss ++ [zs]) := by
  refine ⟨by rw [List.length_append, h.1]; rfl, fun y hy => ?_⟩
  rcases List.mem_append.1 hy with hy | hy
  · exact h.2 y hy
  · simp at hy; subst hy; exact hz
theorem Nl.nil : Nl 0 [] := ⟨rfl, fun z hz => by simp at hz⟩
theorem Sqm.nil (n : Nat) : Sqm 0 n [] := ⟨rfl, fun z hz => by simp at hz⟩
/-- one more row -/
theorem LA.push {w w2 w3 : World} {B : Nat} {v v' r : Value} {xss : List (List Int)} {zs : List Int} {vs : List Value} (h1 : Own w B tL v vs) (h2 : RR w B vs xss) (h3 : vs.Pairwise Apart) (hb : Below w.heap.size w w2) (hr : OwnInts w2 w.heap.size tI r zs) (hB : B ≤ w.heap.size) (ho : Own w3 B tL v' (vs ++ [r])) (hg : w2.grownBy w3 v.ownBlock) :
    RR w3 B (vs ++ [r]) (xss ++ [zs]) ∧ (vs ++ [r]).Pairwise Apart :=
  ⟨LL.snoc (h1.below hb) (h2.below hb) (hr.mono hB) ho hg, pairApart_snoc h3 (h2.fresh (Nat.le_refl _) hr.1.ge)⟩
end Go.Proofs.Ytnlaoainhlfemaa

set_option maxRecDepth 100000
set_option linter.unusedVariables false
set_option linter.unusedSimpArgs false
namespace Go.Proofs.Ytnlaoainhlfemaa
open Go.RowKit

abbrev tTb : TypeId := 27
end Go.Proofs.Ytnlaoainhlfemaa

set_option maxRecDepth 100000
set_option linter.unusedVariables false
set_option linter.unusedSimpArgs false
namespace Go.Proofs.Ytnlaoainhlfemaa
open Go.RowKit

end Go.Proofs.Ytnlaoainhlfemaa

set_option linter.unusedVariables false
set_option linter.unusedSimpArgs false
namespace Go.Proofs.Ytnlaoainhlfemaa
open Go.RowKit

theorem Blk.grow {w w' : World} {g : Nat} {t : TypeId} {cs : Array Value} {v v' : Value} (h : Blk w g t cs) (hg : Grow w w' v v') (hne : v.ownBlock ≠ some g) : Blk w' g t cs :=
  (hg.1.block g h.lt (fun e => hne e.symm)).trans h
theorem Blk.both {w : World} {g : Nat} {t : TypeId} {cs : Array Value} {u : Value} (h : Blk w g t cs) (h0 : cs[0]? = some u) : w.cell? ⟨g, 0, none⟩ = some u ∧ w.frozen? ⟨g, 0, none⟩ = false := ⟨(h.cell 0).trans h0, h.frozen 0⟩

/-- the state of a tableau that is filled: block p holds it, the rows lie behind p, the weights before p -/
structure Fill (w0 w : World) (p : Nat) (va vb : Value) (vs : List Value) (N : Nat) (rows : List (List Int)) (Bs : List Int) : Prop where
  blk : Blk w p 27 #[va, vb]
  own : Own w (p + 1) tL va vs
  rows : RowsOwn w (p + 1) w.heap.size tI vs rows
  ws : OI w N p tI vb Bs
  le : w0.heap.size ≤ N
  below : Below w0.heap.size w0 w

section
variable {w0 wr w2 w3 : World} {p N : Nat} {va vb v1 r : Value} {vs : List Value} {rows : List (List Int)} {zs Bs : List Int}
theorem Fill.lt (h : Fill w0 wr p va vb vs N rows Bs) : p < wr.heap.size := h.blk.lt
theorem Fill.np (h : Fill w0 wr p va vb vs N rows Bs) : va.ownBlock ≠ some p := fun e => by have := h.own.ge p e; omega
theorem Fill.after (h : Fill w0 wr p va vb vs N rows Bs) (hb2 : Below wr.heap.size wr w2) : Blk w2 p 27 #[va, vb] := h.blk.below hb2 h.lt
theorem Fill.next (h : Fill w0 wr p va vb vs N rows Bs) (hp : w0.heap.size ≤ p) (hb2 : Below wr.heap.size wr w2) (ho2 : OwnInts w2 wr.heap.size tI r zs)
    (hown1 : Own w3 (p + 1) tL v1 (vs ++ [r])) (hgr : Grow w2 w3 va v1) :
    Fill w0 (w3.setCell ⟨p, 0, none⟩ v1) p v1 vb (vs ++ [r]) N (rows ++ [zs]) Bs := by
  have hsz : p + 1 ≤ wr.heap.size := h.lt
  have hs2 := hb2.size
  have hs3 := hgr.1.size
  have hO2 := h.own.below hb2
  have hK3 := (h.after hb2).grow hgr h.np
  have hR2 := ((h.rows.below hb2).mono (Nat.le_refl _) hs2).snoc (u := r) (zs := zs) ⟨ho2.mono hsz, ho2.1.lt⟩ (h.rows.apart (M := 0) (fun b hb => .inl (ho2.1.ge b hb)))
  have hR3 := hR2.other hgr.1 (fun j u hu => by
    have hj := (List.getElem?_eq_some_iff.1 hu).1
    have hx : (rows ++ [zs])[j]? = some ((rows ++ [zs])[j]'(by rw [← hR2.1]; exact hj)) := List.getElem?_eq_getElem _
    exact Own.ne_of_type (hR2.2.1 j u _ hu hx).1.1 hO2 (by decide))
  have hc := (Chg.refl p (p + 1) w3).setCell (p := ⟨p, 0, none⟩) (Nat.le_refl _) (by simp) v1
  have hw := h.ws.below hb2
  have hw3 : OI w3 N p tI vb Bs := ⟨hw.1.kept hgr.1 (by
    cases hv : vb.ownBlock with
    | none => exact .inl hv
    | some b => exact .inr fun e => by have h1 := hw.2 b hv; have h2 := hO2.ge b (e.symm.trans hv); omega), hw.2⟩
  have hse : (w3.setCell ⟨p, 0, none⟩ v1).heap.size = w3.heap.size := by simp [World.setCell]
  have hBw : Below w0.heap.size w0 w2 := h.below.trans (hb2.mono (by have := h.below.size; omega))
  refine ⟨?_, ?_, ?_, ?_, h.le, ?_⟩
  · have := hK3.set_ 0 v1
    simpa using this
  · exact hown1.of_block fun b hb => hc.block b (hown1.lt b hb) (.inr (hown1.ge b hb))
  · rw [hse]
    exact (hR3.mono (Nat.le_refl _) hs3).kept hc (.inr (Nat.le_refl _))
  · exact hw3.kept hc (.inl (Nat.le_refl _))
  · exact (hgr.below hBw (by have := h.below.size; omega) (fun b hb => by have := hO2.ge b hb; omega)).setCell (p := ⟨p, 0, none⟩) hp v1
end
end Go.Proofs.Ytnlaoainhlfemaa

set_option linter.unusedVariables false
set_option linter.unusedSimpArgs false
namespace Go.Proofs.Ytnlaoainhlfemaa
open Go.RowKit

/-- the state of a tableau that is filled, rows and weights in turn: block p holds it, all else lies behind p -/
structure Fill2 (w0 w : World) (p : Nat) (va vb : Value) (vs : List Value) (rows : List (List Int)) (Bs : List Int) : Prop where
  blk : Blk w p 27 #[va, vb]
  own : Own w (p + 1) tL va vs
  rows : RowsOwn w (p + 1) w.heap.size tI vs rows
  ws : OwnInts w (p + 1) tI vb Bs
  ap : ∀ (k : Nat) (u : Value), vs[k]? = some u → Apart u vb
  below : Below w0.heap.size w0 w

section
variable {w0 w w' w1 : World} {p : Nat} {va vb v1 r : Value} {vs : List Value} {rows : List (List Int)} {zs Bs : List Int} {z : Int}
theorem Fill2.lt (h : Fill2 w0 w p va vb vs rows Bs) : p < w.heap.size := h.blk.lt
theorem Fill2.npA (h : Fill2 w0 w p va vb vs rows Bs) : va.ownBlock ≠ some p := fun e => by have := h.own.ge p e; omega
theorem Fill2.step (h : Fill2 w0 w p va vb vs rows Bs) (hb : Below w.heap.size w w') : Fill2 w0 w' p va vb vs rows Bs :=
  ⟨h.blk.below hb h.lt, h.own.below hb, (h.rows.below hb).mono (Nat.le_refl _) hb.size, h.ws.below hb, h.ap, h.below.trans (hb.mono h.below.size)⟩
end
end Go.Proofs.Ytnlaoainhlfemaa

set_option linter.unusedVariables false
set_option linter.unusedSimpArgs false
namespace Go.Proofs.Ytnlaoainhlfemaa
open Go.RowKit

/-- rows va and numbers vb of one's own, all made since N -/
structure Two (w : World) (N : Nat) (va vb : Value) (vs : List Value) (rows : List (List Int)) (Bs : List Int) : Prop where
  own : Own w N tL va vs
  rows : RowsOwn w N w.heap.size tI vs rows
  ws : OwnInts w N tI vb Bs
  ap : ∀ (k : Nat) (u : Value), vs[k]? = some u → Apart u vb

section
variable {w w' w1 : World} {N p q : Nat} {va vb v1 r : Value} {vs : List Value} {rows : List (List Int)} {zs Bs : List Int} {z : Int}
theorem Two.nil (w : World) (N : Nat) : Two w N (.slice none 0 0) (.slice none 0 0) [] [] [] :=
  ⟨Own.nil _ _ _, RowsOwn.nil _ _ _ _, OwnInts.nil _ _ _, fun k u hu => by simp at hu⟩
theorem Two.step (h : Two w N va vb vs rows Bs) (hb : Below w.heap.size w w') : Two w' N va vb vs rows Bs :=
  ⟨h.own.below hb, (h.rows.below hb).mono (Nat.le_refl _) hb.size, h.ws.below hb, h.ap⟩
theorem Two.kept (h : Two w N va vb vs rows Bs) (hc : Chg p q w w') (hq : q ≤ N) : Two w' N va vb vs rows Bs :=
  ⟨h.own.of_block fun b hb => hc.block b (h.own.lt b hb) (.inr (Nat.le_trans hq (h.own.ge b hb))), (h.rows.mono (Nat.le_refl _) hc.size).kept hc (.inr hq), ⟨h.ws.1.of_block fun b hb => hc.block b (h.ws.1.lt b hb) (.inr (Nat.le_trans hq (h.ws.1.ge b hb))), h.ws.2⟩, h.ap⟩
/-- the rows grow by a list r of one's own -/
theorem Two.addA (h : Two w N va vb vs rows Bs) (hr : OI w N w.heap.size tI r zs) (hap : ∀ (k : Nat) (u : Value), vs[k]? = some u → Apart u r) (hrb : Apart r vb)
    (hown : Own w1 N tL v1 (vs ++ [r])) (hgr : Grow w w1 va v1) : Two w1 N v1 vb (vs ++ [r]) (rows ++ [zs]) Bs := by
  have hs := hgr.1.size
  have hR := h.rows.snoc hr hap
  have hR3 := hR.other hgr.1 (fun j u hu => by
    have hj := (List.getElem?_eq_some_iff.1 hu).1
    have hx : (rows ++ [zs])[j]? = some ((rows ++ [zs])[j]'(by rw [← hR.1]; exact hj)) := List.getElem?_eq_getElem _
    exact Own.ne_of_type (hR.2.1 j u _ hu hx).1.1 h.own (by decide))
  have hw := h.ws.kept hgr.1 (Own.ne_of_type h.ws.1 h.own (by decide))
  refine ⟨hown, hR3.mono (Nat.le_refl _) hs, hw, ?_⟩
  intro k u hu
  by_cases hk : k < vs.length
  · rw [List.getElem?_append_left hk] at hu
    exact h.ap k u hu
  · have hj := (List.getElem?_eq_some_iff.1 hu).1
    simp at hj
    have : k = vs.length := by omega
    subst this
    simp at hu
    subst hu
    exact hrb
/-- the rows grow by a list that was made after all else -/
theorem Two.addA' (h : Two w N va vb vs rows Bs) (hb : Below w.heap.size w w') (hN : N ≤ w.heap.size) (ho : OwnInts w' w.heap.size tI r zs)
    (hown : Own w1 N tL v1 (vs ++ [r])) (hgr : Grow w' w1 va v1) : Two w1 N v1 vb (vs ++ [r]) (rows ++ [zs]) Bs := by
  refine (h.step hb).addA ⟨ho.mono hN, ho.1.lt⟩ (h.rows.apart (M := 0) (fun b hb => .inl (ho.1.ge b hb))) ?_ hown hgr
  unfold Apart
  cases hr : r.ownBlock with
  | none => exact .inl rfl
  | some b =>
    refine .inr fun e => ?_
    have h1 := ho.1.ge b hr
    have h2 := h.ws.1.lt b e.symm
    omega
theorem Two.npA (h : Two w N va vb vs rows Bs) (hp : p < N) : va.ownBlock ≠ some p := fun e => by have := h.own.ge p e; omega
end
section
variable {w0 w w' w1 : World} {p : Nat} {va vb v1 r : Value} {vs : List Value} {rows : List (List Int)} {zs Bs : List Int}
end
section
variable {w0 w w9 : World} {p : Nat} {va vb v6 v9 : Value} {vs : List Value} {rows : List (List Int)} {Bs : List Int}
theorem Fill2.two (h : Fill2 w0 w p va vb vs rows Bs) : Two w (p + 1) va vb vs rows Bs := ⟨h.own, h.rows, h.ws, h.ap⟩
end
end Go.Proofs.Ytnlaoainhlfemaa

