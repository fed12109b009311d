/- Walks: numbers that are drawn (laws.dice): any numbers in their ranges; what the source holds is not told. | Walks: numbers that are drawn (spec.l01Source). (printed by drwgen.py) | Walks: what is drawn out of the source: picks, numbers, lists. | Walks: rows and squares of fractions (l09Row, l09Square of the reference). | Walk: tableaus by name (l09Named of the reference). | Walk (the tableau gauss, with its two stages; printed out of Drt3): tableaus by name (l09Named of the reference). -/
import Derived.Test.YtnlaoainhlfemaaRows
import Derived.Test.YtnlaoainhlfemaaAs2
import Derived.Test.YtnlaoainhlfemaaAs3
import Derived.Test.YtnlaoainhlfemaaAs1
import Derived.BigQuiet
import Derived.Deep.RegionLaw
import Derived.WalkSmall
import Derived.IntWalk
import Derived.Deep.CutRange
import Derived.Deep.CutBlock
import Derived.Deep.DeepCutAuto
import Derived.Deep.QuietTactic
import Derived.WalkLawsBesides
import Derived.Deep.RegionHeld3
import Derived.Test.YtnlaoainhlfemaaAs4
set_option maxRecDepth 100000
set_option linter.unusedVariables false
set_option linter.unusedSimpArgs false
namespace Go.Proofs.Ytnlaoainhlfemaa
open Go.RowKit

/-- bytes that can be read, in a block below B -/
def ByB (w : World) (B : Nat) (A : Option Addr) (n : Nat) : Prop := ∀ k, k < n → ∃ ad z, A = some ad ∧ ad.block < B ∧ ad.block < w.heap.size ∧ 0 ≤ z ∧ z ≤ 255 ∧ w.cell? (ad.add k) = some (.int .u8 z)
/-- a byte slice that can be read -/
def Bts (w : World) (v : Value) (n : Nat) : Prop := ∃ A c, v = .slice A n c ∧ ByB w w.heap.size A n
/-- a source of numbers in block p: the bytes, the place, the hash -/
def Src (w : World) (B : Nat) (t : TypeId) (p : Nat) : Prop := ∃ (A : Option Addr) (n c k : Nat) (h : Int), Blk w p t #[.slice A n c, .int .i64 k, .int .u64 h] ∧ B ≤ p ∧ ByB w B A n ∧ k ≤ n ∧ n ≤ 1000000 ∧ 0 ≤ h ∧ h < 18446744073709551616
abbrev at0 (p : Nat) : Value := .pointer (some ⟨p, 0, none⟩)
theorem ByB.grown {w w' : World} {B n p : Nat} {A : Option Addr} (h : ByB w B A n) (hg : w.grownBy w' (some p)) (hp : B ≤ p) : ByB w' B A n := fun k hk => by
  obtain ⟨ad, z, rfl, h1, h2, h3, h4, h5⟩ := h k hk
  refine ⟨ad, z, rfl, h1, Nat.lt_of_lt_of_le h2 hg.size, h3, h4, ?_⟩
  have hb : w'.heap[ad.block]? = w.heap[ad.block]? := hg.block ad.block h2 (fun e => by injection e with e; omega)
  rw [← h5]
  unfold World.cell?
  simp only [block_add]
  rw [hb]
theorem gset (w : World) (g i : Nat) (u : Value) : w.grownBy (w.setCell ⟨g, i, none⟩ u) (some g) := by
  have b := Below.setCell (B := 0) (Below.refl 0 w) (p := ⟨g, i, none⟩) (Nat.zero_le _) u
  exact ⟨b.os, b.tape, b.output, b.size, fun k hk hne => Below.heap_setCell w _ u k (fun e => hne (by rw [e]))⟩
theorem w64_dr (x : Int) (h : -9223372036854775808 ≤ x ∧ x ≤ 9223372036854775807) : wrap64 x = x := by unfold wrap64; omega
theorem u64_bd (x : Int) : 0 ≤ IntKind.u64.wrap x ∧ IntKind.u64.wrap x < 18446744073709551616 := by rw [IntKind.wrap_u64]; omega
theorem bits_bd {x : Int} (h0 : 0 ≤ x) (h1 : x < 18446744073709551616) : 0 ≤ bits BinOp.and IntKind.u64 x 16777215 ∧ bits BinOp.and IntKind.u64 x 16777215 ≤ 16777215 := by
  have h := bits_and_u64_nat x.toNat 16777215 (by omega) (by omega)
  rw [Int.toNat_of_nonneg h0] at h
  have h2 : x.toNat &&& 16777215 ≤ 16777215 := Nat.and_le_right
  rw [show (16777215 : Int) = ((16777215 : Nat) : Int) from rfl, h]
  omega
/-- what one step of the hash gives -/
theorem hash_bd (z : Int) : ∃ x y : Int, x = IntKind.u64.wrap z ∧ 0 ≤ x ∧ x < 18446744073709551616 ∧ y = bits BinOp.and IntKind.u64 (x / 8589934592) 16777215 ∧ wrap64 (bits BinOp.and IntKind.u64 (x / 8589934592) 16777215) = y ∧ 0 ≤ y ∧ y ≤ 16777215 := by
  have h1 := u64_bd z
  have h2 := bits_bd (x := IntKind.u64.wrap z / 8589934592) (by omega) (by omega)
  exact ⟨_, _, rfl, h1.1, h1.2, rfl, w64_dr _ (by omega), h2.1, h2.2⟩
theorem rem_bd {x n : Int} (h0 : 0 ≤ x) (h1 : 1 ≤ n) : 0 ≤ x % n ∧ x % n < n := ⟨Int.emod_nonneg _ (by omega), Int.emod_lt_of_pos _ (by omega)⟩
theorem gtrans {w w1 w2 : World} {b : Option Nat} (h : w.grownBy w1 b) (h' : w1.grownBy w2 b) : w.grownBy w2 b :=
  ⟨h'.os.trans h.os, h'.tape.trans h.tape, h'.output.trans h.output, Nat.le_trans h.size h'.size, fun k hk hne => (h'.block k (Nat.lt_of_lt_of_le hk h.size) hne).trans (h.block k hk hne)⟩
theorem gof {w w' : World} {r : Option Nat} (h : Below w.heap.size w w') : w.grownBy w' r := ⟨h.os, h.tape, h.output, h.size, fun k hk _ => h.block k hk⟩
/-- the source is kept where others grow -/
theorem Src.kept {w w' : World} {B p : Nat} {t : TypeId} {r : Option Nat} (h : Src w B t p) (hg : w.grownBy w' r) (hne : r ≠ some p) (hr : ∀ b, r = some b → B ≤ b) : Src w' B t p := by
  obtain ⟨A, m, c, k, hs, hk, hB, hby, h1⟩ := h
  refine ⟨A, m, c, k, hs, (hg.block p hk.lt (fun e => hne e.symm)).trans hk, hB, fun j hj => ?_, h1⟩
  obtain ⟨ad, z, rfl, a1, a2, z0, z1, hc⟩ := hby j hj
  refine ⟨ad, z, rfl, a1, Nat.lt_of_lt_of_le a2 hg.size, z0, z1, ?_⟩
  have hb : w'.heap[ad.block]? = w.heap[ad.block]? := hg.block ad.block a2 (fun e => by have := hr _ e.symm; omega)
  rw [← hc]
  unfold World.cell?
  simp only [block_add]
  rw [hb]
theorem Src.below {w w' : World} {B p : Nat} {t : TypeId} (h : Src w B t p) (hg : Below w.heap.size w w') : Src w' B t p := h.kept (r := none) (gof hg) (by simp) (by simp)
theorem Src.ge {w : World} {B p : Nat} {t : TypeId} (h : Src w B t p) : B ≤ p := by obtain ⟨A, m, c, k, hs, hk, hB, -⟩ := h; exact hB
theorem Src.lt {w : World} {B p : Nat} {t : TypeId} (h : Src w B t p) : p < w.heap.size := by obtain ⟨A, m, c, k, hs, hk, hB, -⟩ := h; exact hk.lt
theorem gthen {w w1 w2 : World} {p : Nat} {r : Option Nat} (h : w.grownBy w1 (some p)) (h' : w1.grownBy w2 r) (hr : ∀ b, r = some b → w.heap.size ≤ b) : w.grownBy w2 (some p) :=
  ⟨h'.os.trans h.os, h'.tape.trans h.tape, h'.output.trans h.output, Nat.le_trans h.size h'.size, fun k hk hne => (h'.block k (Nat.lt_of_lt_of_le hk h.size) (fun e => by have := hr _ e.symm; omega)).trans (h.block k hk hne)⟩
theorem Own.src {w w' : World} {C p : Nat} {e : TypeId} {v : Value} {vs : List Value} (h : Own w C e v vs) (hp : p < C) (hg : w.grownBy w' (some p)) : Own w' C e v vs := h.kept hg (by
  cases hb : v.ownBlock with
  | none => exact .inl rfl
  | some b => exact .inr fun e => by injection e with e; have := h.ge b hb; omega)
end Go.Proofs.Ytnlaoainhlfemaa

set_option maxRecDepth 100000
set_option linter.unusedVariables false
set_option linter.unusedSimpArgs false
namespace Go.Proofs.Ytnlaoainhlfemaa
open Go.RowKit

abbrev tSc : TypeId := 106
set_option maxHeartbeats 4000000 in
theorem s_l01Next (w : World) (B p : Nat) (n : Int) (h : Src w B tSc p) (hn : n ≤ 4611686018427387904) (hn0 : 1 ≤ n) :
    Calls Try.prog 88 #[at0 p, .int .i64 n] w fun e w' => ∃ x, e = .returned (.int .i64 x) ∧ 0 ≤ x ∧ x < n ∧ w.grownBy w' (some p) ∧ Src w' B tSc p := by
  obtain ⟨A, m, c, k, hs, hk, hB, hby, hkm, hm, h0, h1⟩ := h
  have HK := Lib.hid hk
  have HBY := Lib.hid hby
  have k2 : w.cell? ⟨p, 2, none⟩ = some (.int .u64 hs) := hk.cell 2
  have f2 : w.frozen? ⟨p, 2, none⟩ = false := hk.frozen 2
  clear hk hby
  go_enter Try.func88, Try.ntmps88
  go_upto_region 5 with fail
  obtain ⟨x, y, hx, x0, x1, hy, hw, y0, y1⟩ := hash_bd (IntKind.u64.wrap (hs * 6364136223846793005) + 1442695040888963407)
  rw [← hx, hw, ← hy]
  clear hx hy hw h0 h1 f2 k2
  have HK1 := Lib.hid (HK.out.set_ 2 (.int .u64 x))
  have HG1 := Lib.hid (gset w p 2 (.int .u64 x))
  generalize w.setCell ⟨p, 2, none⟩ (.int .u64 x) = w1 at HK1 HG1 ⊢
  generalize x / 8589934592 = x9
  generalize IntKind.u64.wrap (hs * 6364136223846793005) = x8
  have HBY1 := Lib.hid (HBY.out.grown HG1.out hB)
  have HK1 := Lib.hid (show Blk w1 p tSc #[.slice A m c, .int .i64 k, .int .u64 x] from HK1.out)
  have k0 : w1.cell? ⟨p, 0, none⟩ = some (.slice A m c) := HK1.out.cell 0
  have k1 : w1.cell? ⟨p, 1, none⟩ = some (.int .i64 k) := HK1.out.cell 1
  have f1 : w1.frozen? ⟨p, 1, none⟩ = false := HK1.out.frozen 1
  clear HK HBY
  by_cases hlt : k < m
  · obtain ⟨ad, z, rfl, a1, a2, z0, z1, hc⟩ := HBY1.out k hlt
    have hkk : (k : Int) < (m : Int) := by omega
    have hw1 : wrap64 (y + z) = y + z := w64_dr _ (by omega)
    have hwk : wrap64 ((k : Int) + 1) = (k : Int) + 1 := w64_dr _ (by omega)
    clear a1 a2
    go_quiet (fail)
    go_upto_region 6 with fail
    rename Nat => nq0
    have k0' : (w1.drewN nq0).cell? ⟨p, 0, none⟩ = some (.slice (some ad) m c) := k0
    have k1' : (w1.drewN nq0).cell? ⟨p, 1, none⟩ = some (.int .i64 k) := k1
    have hc' : (w1.drewN nq0).cell? (ad.add k) = some (.int .u8 z) := hc
    go_quiet (fail)
    go_wp2_with fail
    go_ret
    obtain ⟨r0, r1⟩ := rem_bd (x := y + z) (n := n) (by omega) hn0
    have HB2 : w1.grownBy ((w1.drewN (nq0 + nq)).setCell ⟨p, 1, none⟩ (.int .i64 ((k : Int) + 1))) (some p) := gtrans (gof (below_drewN (Below.refl _ _) _)) (gset _ _ _ _)
    exact ⟨_, rfl, r0, r1, gtrans HG1.out HB2, some ad, m, c, k + 1, x, by simpa using (HK1.out.drewN _).set_ 1 (.int .i64 ((k : Int) + 1)), hB, HBY1.out.grown HB2 hB, hlt, hm, x0, x1⟩
  · have hkk : ¬ ((k : Int) < (m : Int)) := by omega
    go_quiet (fail)
    go_wp2_with fail
    go_ret
    obtain ⟨r0, r1⟩ := rem_bd (x := y) (n := n) (by omega) hn0
    rename Nat => nq0
    have HB2 : w1.grownBy (w1.drewN nq0) (some p) := gof (below_drewN (Below.refl _ _) _)
    exact ⟨_, rfl, r0, r1, gtrans HG1.out HB2, A, m, c, k, x, HK1.out.drewN _, hB, HBY1.out.grown HB2 hB, hkm, hm, x0, x1⟩
set_option maxHeartbeats 4000000 in
theorem s_l01From (w : World) (A : Option Addr) (n c : Nat) (hb : ByB w w.heap.size A n) (hn : n ≤ 4096) :
    Calls Try.prog 47 #[.slice A n c] w fun e w' => ∃ p, e = .returned (at0 p) ∧ Src w' w.heap.size tSc p ∧ Below w.heap.size w w' := by
  have HBY := Lib.hid hb
  have hs2 : 0 ≤ 5381 + (n : Int) ∧ 5381 + (n : Int) < 18446744073709551616 := by omega
  clear hb
  go_enter Try.func47, Try.ntmps47
  go_wp2_with fail
  obtain ⟨h0, hh0⟩ : ∃ h0, h0 = 5381 + (n : Int) := ⟨_, rfl⟩
  rw [← hh0] at hs2 ⊢
  obtain ⟨W, hW⟩ : ∃ W, W = w.alloc (Obj.cells #[Value.slice A n c, Value.int IntKind.i64 0, Value.int IntKind.u64 h0] tSc) := ⟨_, rfl⟩
  have HBW := Lib.hid (show Below w.heap.size w W from by rw [hW]; exact below1 w _)
  have HK := Lib.hid (show Blk W w.heap.size tSc #[Value.slice A n c, Value.int IntKind.i64 0, Value.int IntKind.u64 h0] from by rw [hW]; exact Blk.new _ _ _)
  rw [← hW]
  clear hW hh0
  obtain ⟨g0, g1⟩ := hs2
  go_loopw [4] (fun x wr => ∃ (j : Nat) (h : Int), j ≤ n ∧ x = .int .i64 j ∧ 0 ≤ h ∧ h < 18446744073709551616 ∧ Blk wr w.heap.size tSc #[Value.slice A n c, Value.int IntKind.i64 0, Value.int IntKind.u64 h] ∧ Below w.heap.size w wr) (fun x _ => n - (intOf x).toNat)
  case atStart => exact ⟨0, h0, Nat.zero_le _, rfl, g0, g1, HK.out, HBW.out⟩
  case round =>
    obtain ⟨j, h, hj, rfl, q0, q1, hk, hb⟩ := hrel
    rename World => wq
    clear HK HBW
    have HK := Lib.hid hk
    have HB := Lib.hid hb
    have k2 : wq.cell? ⟨w.heap.size, 2, none⟩ = some (.int .u64 h) := hk.cell 2
    have f2 : wq.frozen? ⟨w.heap.size, 2, none⟩ = false := hk.frozen 2
    clear hk hb
    by_cases hlt : j < n
    · have hj4 : (j : Int) < 4096 := by omega
      have hjj : (j : Int) < (n : Int) := by omega
      obtain ⟨ad, z, rfl, a1, a2, z0, z1, hc⟩ := HBY.out j hlt
      have hc1 : wq.cell? (ad.add j) = some (.int .u8 z) := by rw [HB.out.cell (by rw [block_add]; exact a1)]; exact hc
      have hjk : wrap64 ((j : Int) + 1) = (j : Int) + 1 := w64_dr _ (by omega)
      clear a1 a2 hc
      go_upto_region 5 with fail
      go_region_law (fail)
      all_goals
        obtain ⟨y, hy⟩ : ∃ y, y = IntKind.u64.wrap (IntKind.u64.wrap (IntKind.u64.wrap (h * 1099511628211) + IntKind.u64.wrap z) + 11) := ⟨_, rfl⟩
        obtain ⟨b0, b1⟩ : 0 ≤ y ∧ y < 18446744073709551616 := by rw [hy]; exact u64_bd _
        rw [← hy]
        clear hy
        go_wp2_with fail
        go_roundw
        case rel =>
          exact ⟨j + 1, _, by omega, by go_num, b0, b1, (HK.out.set_ 2 _).drewN 1, (HB.out.setCell (Nat.le_refl _) _).drew⟩
        case measure => simp [intOf]; omega
    · have hjn : j = n := by omega
      subst hjn
      go_wp2_with fail
      go_ret
      exact ⟨_, rfl, ⟨A, j, c, 0, h, HK.out, Nat.le_refl _, fun k hk => by obtain ⟨ad, z, e, a1, a2, z0, z1, hc⟩ := HBY.out k hk; exact ⟨ad, z, e, a1, Nat.lt_of_lt_of_le a1 HB.out.size, z0, z1, by rw [HB.out.cell (by rw [block_add]; exact a1)]; exact hc⟩, Nat.zero_le _, (by omega), q0, q1⟩, HB.out⟩
end Go.Proofs.Ytnlaoainhlfemaa

set_option maxRecDepth 100000
set_option linter.unusedVariables false
set_option linter.unusedSimpArgs false
namespace Go.Proofs.Ytnlaoainhlfemaa
open Go.RowKit

theorem wrap_i64 (x : Int) (h : -9223372036854775808 ≤ x ∧ x ≤ 9223372036854775807) : IntKind.i64.wrap x = x := IntWalk.i64_in _ (by omega)
/-- a literal list of numbers is kept where the source changes -/
theorem lit_keep (w : World) (p : Nat) (zs : List Int) (hz : ∀ z ∈ zs, In64 z) (hl : zs.length ≤ 1000) (hp : p < w.heap.size) :
    ∀ W, (w.alloc (.cells (ints zs).toArray tI)).grownBy W (some p) → Ints W (.slice (some ⟨w.heap.size, 0, none⟩) zs.length zs.length) zs := fun W hg => by
  have h := own_lit w tI (ints zs) (by rw [ints_len]; simp [maxLen]; omega)
  rw [ints_len] at h
  exact ⟨(h.kept hg (.inr (fun e => by simp [Value.ownBlock] at e; omega))).cells, hz⟩
set_option maxHeartbeats 4000000 in
theorem s_l01Pick (w : World) (B p : Nat) (v : Value) (zs : List Int) (h : Src w B tSc p) (hv : ∀ W, w.grownBy W (some p) → Ints W v zs) (h1 : 1 ≤ zs.length) (h2 : zs.length ≤ 1000) :
    Calls Try.prog 89 #[at0 p, v] w fun e w' => ∃ z, e = .returned (.int .i64 z) ∧ z ∈ zs ∧ w.grownBy w' (some p) ∧ Src w' B tSc p := by
  obtain ⟨A, c, rfl, g1, g2, g3⟩ := (hv w (World.grownBy.refl _ _)).open_
  have HV := Lib.hid hv
  have HN := Lib.hid (s_l01Next w B p (zs.length : Nat) h (by omega) (by omega))
  clear g3 h hv
  go_enter Try.func89, Try.ntmps89
  go_wp2_with (go_at_call 88; go_loud (refine HN.out.mono ?_; rintro e w1 ⟨x, rfl, x0, x1, hg, hs⟩; obtain ⟨k, rfl⟩ : ∃ k : Nat, x = k := ⟨x.toNat, by omega⟩; obtain ⟨A', c', he, -, -, g3⟩ := (HV.out w1 hg).open_; (simp only [Value.slice.injEq] at he); obtain ⟨rfl, -, rfl⟩ := he; obtain ⟨ad, z, rfl, hz, hz2, hc⟩ := g3 k (by omega); have HZ := Lib.hid (List.mem_of_getElem? hz); have HG := Lib.hid hg; have HS := Lib.hid hs; have hkl : k < zs.length := (by omega); clear g3 hz hz2 hg hs x0 x1))
  go_ret
  exact ⟨_, rfl, HZ.out, HG.out, HS.out⟩
theorem nume_bd (x : Int) : 0 ≤ x % 10007 ∧ x % 10007 ≤ 10006 := by omega
set_option maxHeartbeats 1000000 in
theorem s_l01FracZ (w : World) (p q : Int) (h0 : -1000000 ≤ p) (h1 : p ≤ 1000000) (g0 : 0 ≤ q) (g1 : q ≤ 1000000) :
    Calls Try.prog 157 #[.int .i64 p, .int .i64 q] w fun e w' => ∃ z, e = .returned (.int .i64 z) ∧ (0 ≤ z ∧ z ≤ 10006) ∧ w = w' := by
  have hp := pw_bd (q % 10007) 10005
  have hq : 0 ≤ q % 10007 ∧ q % 10007 ≤ 10006 := by omega
  have hq2 : 0 ≤ p % 10007 ∧ p % 10007 ≤ 10006 := by omega
  go_enter Try.func157, Try.ntmps157
  go_wp2_with (first
    | (go_at_call 158; (with_reducible refine (s_l01Inv _ _ (by omega) (by omega)).mono ?_); rintro e w2 ⟨rfl, rfl⟩)
    | (go_at_call 147; (with_reducible refine (s_l01Mul _ _ _ (by omega) (by omega) (by omega) (by omega)).mono ?_); rintro e w2 ⟨rfl, rfl⟩)
    | (go_at_call 185; (with_reducible refine (s_l01Mod _ _ (by omega) (by omega)).mono ?_); rintro e w2 ⟨rfl, rfl⟩))
  go_ret
  exact ⟨_, rfl, nume_bd _, rfl⟩
set_option maxHeartbeats 4000000 in
theorem s_l01Number (w : World) (B p : Nat) (h : Src w B tSc p) :
    Calls Try.prog 156 #[at0 p] w fun e w' => ∃ z, e = .returned (.int .i64 z) ∧ (0 ≤ z ∧ z ≤ 10006) ∧ w.grownBy w' (some p) ∧ Src w' B tSc p := by
  have HN := Lib.hid (s_l01Next w B p 5 h (by omega) (by omega))
  have hpl := h.lt
  clear h
  go_enter Try.func156, Try.ntmps156
  go_upto_region 2 with (go_at_call 88; go_loud (refine HN.out.mono ?_; rintro e w1 ⟨x, rfl, x0, x1, hg, hs⟩; have HG := Lib.hid hg; have HS := Lib.hid hs; clear hg hs))
  have hpl1 : p < w1.heap.size := Nat.lt_of_lt_of_le hpl HG.out.size
  by_cases hx0 : x = 0
  · have hd0 : (x == 0) = true := by simp [hx0]
    have HN1 := Lib.hid (s_l01Next w1 B p 10007 HS.out (by omega) (by omega))
    clear hx0 x0 x1
    go_wp2_with (go_at_call 88; go_loud (refine HN1.out.mono ?_; rintro e w2 ⟨y, rfl, y0, y1, hg, hs⟩; have HG2 := Lib.hid (gtrans HG.out hg); have HS2 := Lib.hid hs; clear hg hs))
    go_ret
    exact ⟨_, rfl, ⟨y0, by omega⟩, HG2.out, HS2.out⟩
  · have hd0 : (x == 0) = false := by simp [hx0]
    by_cases hx1 : x = 1
    · have hd1 : (x == 1) = true := by simp [hx1]
      have HL := Lib.hid (lit_keep w1 p [0, 1, 0, 1, 10006, 2] (by intro z hz; simp at hz; unfold In64; omega) (by simp) hpl1)
      have HSL := Lib.hid (HS.out.below (below1 w1 (.cells (ints [0, 1, 0, 1, 10006, 2]).toArray tI)))
      have HPK := Lib.hid (s_l01Pick _ B p _ [0, 1, 0, 1, 10006, 2] HSL.out HL.out (by simp) (by simp))
      clear hx0 hx1 x0 x1
      go_wp2_with (go_at_call 89; go_loud (refine HPK.out.mono ?_; rintro e w2 ⟨y, rfl, hy, hg, hs⟩; have HG2 := Lib.hid (gtrans (gtrans HG.out (gof (below1 w1 _))) hg); have HS2 := Lib.hid hs; have HY := Lib.hid hy; clear hg hs hy))
      go_ret
      exact ⟨_, rfl, by have := HY.out; simp at this; omega, HG2.out, HS2.out⟩
    · have hd1 : (x == 1) = false := by simp [hx1]
      have HN1 := Lib.hid (s_l01Next w1 B p 15 HS.out (by omega) (by omega))
      have hw := fun y (h : 0 ≤ y ∧ y < 15) => wrap_i64 (y - 7) (by omega)
      have hw2 := fun y (h : 0 ≤ y ∧ y < 12) => w64_dr (1 + y) (by omega)
      clear hx0 hx1 x0 x1
      go_wp2_with (first
        | (go_at_call 88; (with_reducible refine HN1.out.mono ?_); go_loud (rintro e w2 ⟨y, rfl, y0, y1, hg, hs⟩; have HG2 := Lib.hid (gtrans HG.out hg); have HS2 := Lib.hid hs; have hwy := hw y ⟨y0, y1⟩; clear hg hs))
        | (go_at_call 88; (with_reducible refine (s_l01Next w2 B p 12 HS2.out (by omega) (by omega)).mono ?_); go_loud (rintro e w3 ⟨u, rfl, u0, u1, hg, hs⟩; have HG3 := Lib.hid (gtrans HG2.out hg); have HS3 := Lib.hid hs; have hwu := hw2 u ⟨u0, u1⟩; clear hg hs))
        | (go_at_call 157; go_loud (refine (s_l01FracZ _ _ _ (by omega) (by omega) (by omega) (by omega)).mono ?_; rintro e w4 ⟨z, rfl, hz, rfl⟩; have HZ := Lib.hid hz; clear hz)))
      go_ret
      exact ⟨_, rfl, HZ.out, HG3.out, HS3.out⟩
end Go.Proofs.Ytnlaoainhlfemaa

set_option maxRecDepth 100000
set_option linter.unusedVariables false
set_option linter.unusedSimpArgs false
namespace Go.Proofs.Ytnlaoainhlfemaa
open Go.RowKit

theorem keepCellD {w w' : World} {ad : Addr} {v : Value} (hb : Below w.heap.size w w') (h : w.cell? ad = some v) : w'.cell? ad = some v := by rw [hb.cell (World.block_lt_of_cell? w _ h)]; exact h
/-- n numbers -/
def Nl (n : Nat) (zs : List Int) : Prop := zs.length = n ∧ Nums zs
/-- a square of numbers -/
def Sqm (m n : Nat) (xss : List (List Int)) : Prop := xss.length = m ∧ ∀ zs ∈ xss, Nl n zs
theorem Nl.snoc {n : Nat} {zs : List Int} {z : Int} (h : Nl n zs) (hz : 0 ≤ z ∧ z ≤ 10006) : Nl (n + 1) (zs ++ [z]) := by
  refine ⟨by rw [List.length_append, h.1]; rfl, fun y hy => ?_⟩
  rcases List.mem_append.1 hy with hy | hy
  · exact h.2 y hy
  · simp at hy; subst hy; exact hz
theorem Nl.in64 {n : Nat} {zs : List Int} (h : Nl n zs) : ∀ z ∈ zs, In64 z := fun z hz => by have := h.2 z hz; unfold In64; omega
theorem Sqm.snoc {m n : Nat} {xss : List (List Int)} {zs : List Int} (h : Sqm m n xss) (hz : Nl n zs) : Sqm (m + 1) n (xss ++ [zs]) := by
  refine ⟨by rw [List.length_append, h.1]; rfl, fun y hy => ?_⟩
  rcases List.mem_append.1 hy with hy | hy
  · exact h.2 y hy
  · simp at hy; subst hy; exact hz
theorem Nl.nil : Nl 0 [] := ⟨rfl, fun z hz => by simp at hz⟩
theorem Sqm.nil (n : Nat) : Sqm 0 n [] := ⟨rfl, fun z hz => by simp at hz⟩
theorem ownNl {w : World} {B n : Nat} {v : Value} {zs : List Int} (h : Nl n zs) (ho : Own w B tI v (ints zs)) : OwnInts w B tI v zs := ⟨ho, h.in64⟩
/-- one more row -/
theorem LA.push {w w2 w3 : World} {B : Nat} {v v' r : Value} {xss : List (List Int)} {zs : List Int} {vs : List Value} (h1 : Own w B tL v vs) (h2 : RR w B vs xss) (h3 : vs.Pairwise Apart) (hb : Below w.heap.size w w2) (hr : OwnInts w2 w.heap.size tI r zs) (hB : B ≤ w.heap.size) (ho : Own w3 B tL v' (vs ++ [r])) (hg : w2.grownBy w3 v.ownBlock) :
    RR w3 B (vs ++ [r]) (xss ++ [zs]) ∧ (vs ++ [r]).Pairwise Apart :=
  ⟨LL.snoc (h1.below hb) (h2.below hb) (hr.mono hB) ho hg, pairApart_snoc h3 (h2.fresh (Nat.le_refl _) hr.1.ge)⟩
set_option maxHeartbeats 4000000 in
theorem s_l09Row (w : World) (v : Value) (zs : List Int) (q : Int) (hv : Ints w v zs) (hz : ∀ z ∈ zs, -1000000 ≤ z ∧ z ≤ 1000000) (hn : zs.length ≤ 1000) (h0 : 0 ≤ q) (h1 : q ≤ 1000000) :
    Calls Try.prog 183 #[.int .i64 q, v] w fun e w' => ∃ x, e = .returned x ∧ ∃ us, OwnInts w' w.heap.size tI x us ∧ Nl zs.length us ∧ Below w.heap.size w w' := by
  obtain ⟨A, c, rfl, l1, l2, h3⟩ := hv.open_
  have H3 := Lib.hid h3
  have HZ := Lib.hid hz
  have OL := Lib.hid (show Own (w.alloc (.cells #[] tI)) w.heap.size tI (.slice (some ⟨w.heap.size, 0, none⟩) 0 0) (ints []) from own_lit w tI [] (by simp [maxLen]))
  have HV := Lib.hid hv
  clear hv h3 hz
  generalize hN : zs.length = N at *
  have HN := Lib.hid hN
  clear hN
  go_enter Try.func183, Try.ntmps183
  go_wp2_with fail
  go_loopw [5, 6] (fun o x wr => ∃ (i : Nat) (us : List Int), i ≤ N ∧ x = .int .i64 i ∧ Own wr w.heap.size tI o (ints us) ∧ Hid (Nl i us) ∧ Below w.heap.size w wr) (fun _ x _ => N - (intOf x).toNat)
  case atStart => exact ⟨0, [], Nat.zero_le _, rfl, OL.out, Nl.nil, below1 w _⟩
  case round =>
    obtain ⟨i, us, hi, rfl, ho, HU, hb⟩ := hrel
    rename World => wq
    clear OL
    have HO := Lib.hid ho
    have HB := Lib.hid hb
    obtain ⟨Ao, co, heo, -, -⟩ := ho.cells.open_
    rw [ints_len, HU.out.1] at heo
    subst heo
    clear ho hb
    by_cases hlt : i < N
    · have hii : (i : Int) < (N : Int) := by omega
      obtain ⟨ad, z, rfl, hz, hz2, hc⟩ := H3.out i hlt
      have hcw := keepCellD HB.out hc
      obtain ⟨b0, b1⟩ := HZ.out z (List.mem_of_getElem? hz)
      clear hz hz2 hc
      go_wp2_with (first
        | (go_at_call 157; go_loud ((with_reducible refine (s_l01FracZ _ _ _ b0 b1 h0 h1).mono ?_); rintro e w5 ⟨x5, rfl, hx, rfl⟩; have HX5 := Lib.hid hx; clear hx))
        | (at_builtin; go_loud (refine wpList_app1 T_int HO.out (by rw [ints_len, HU.out.1]; omega) HB.out.size (by rfl) rfl (by rfl) (by rfl) (by rfl) ?_; intro v7 w7 hown7 hgr7; have HN7 := Lib.hid hown7; have HR7 := Lib.hid hgr7; clear hown7 hgr7)))
      go_roundw
      case rel => exact ⟨i + 1, us ++ [x5], by omega, by go_num, by simpa [ints] using HN7.out, HU.out.snoc HX5.out, HR7.out.below HB.out HB.out.size HO.out.ge⟩
      case measure => simp [intOf]; omega
    · have hii : ¬ ((i : Int) < (N : Int)) := by omega
      have hin : i = N := by omega
      subst hin
      go_wp2_with fail
      go_ret
      exact ⟨_, rfl, us, ownNl HU.out HO.out, HU.out, HB.out⟩
set_option maxHeartbeats 8000000 in
theorem s_l09Square (w : World) (v : Value) (zs : List Int) (q : Int) (s : Nat) (hv : Ints w v zs) (hz : ∀ z ∈ zs, -1000000 ≤ z ∧ z ≤ 1000000) (hn : zs.length = s * s) (hs : s ≤ 10) (h0 : 0 ≤ q) (h1 : q ≤ 1000000) :
    Calls Try.prog 182 #[.int .i64 (s : Nat), .int .i64 q, v] w fun e w' => ∃ x, e = .returned x ∧ ∃ xss, LA w' w.heap.size x xss ∧ Sqm s s xss ∧ Below w.heap.size w w' := by
  obtain ⟨A, c, rfl, l1, l2, h3⟩ := hv.open_
  have H3 := Lib.hid h3
  have HZ := Lib.hid hz
  have OL := Lib.hid (show Own (w.alloc (.cells #[] tL)) w.heap.size tL (.slice (some ⟨w.heap.size, 0, none⟩) 0 0) [] from own_lit w tL [] (by simp [maxLen]))
  have HV := Lib.hid hv
  clear hv h3 hz
  generalize hN : zs.length = N at *
  have HN := Lib.hid hN
  have HNS := Lib.hid hn
  clear hN hn
  go_enter Try.func182, Try.ntmps182
  go_wp2_with fail
  go_loopw [7, 8] (fun o x wr => ∃ (i : Nat) (vs : List Value) (xss : List (List Int)), i ≤ s ∧ x = .int .i64 i ∧ Own wr w.heap.size tL o vs ∧ Hid (RR wr w.heap.size vs xss ∧ vs.Pairwise Apart ∧ Sqm i s xss) ∧ Below w.heap.size w wr) (fun _ x _ => s - (intOf x).toNat)
  case atStart => exact ⟨0, [], [], Nat.zero_le _, rfl, OL.out, ⟨RR.nil _ _, List.Pairwise.nil, Sqm.nil _⟩, below1 w _⟩
  case round =>
    obtain ⟨i, vs, xss, hi, rfl, ho, HU, hb⟩ := hrel
    rename World => wq
    clear OL
    have HO := Lib.hid ho
    have HB := Lib.hid hb
    have hvl : vs.length = i := HU.out.1.1.trans HU.out.2.2.1
    obtain ⟨Ao, co, heo, -, -⟩ := ho.cells.open_
    rw [hvl] at heo
    subst heo
    have HVL := Lib.hid hvl
    clear ho hb hvl
    by_cases hlt : i < s
    · have hii : (i : Int) < (s : Int) := by omega
      have OL1 := Lib.hid (show Own (wq.alloc (.cells #[] tI)) wq.heap.size tI (.slice (some ⟨wq.heap.size, 0, none⟩) 0 0) (ints []) from own_lit wq tI [] (by simp [maxLen]))
      have hmul : wrap64 ((i : Int) * (s : Int)) = ((i * s : Nat) : Int) := by
        have h5 : i * s ≤ 10 * 10 := Nat.mul_le_mul (by omega) hs
        rw [show ((i : Int) * (s : Int)) = ((i * s : Nat) : Int) by simp]
        exact w64_dr _ (by omega)
      have hmul2 : IntKind.i64.wrap ((i : Int) * (s : Int)) = ((i * s : Nat) : Int) := by
        have h5 : i * s ≤ 10 * 10 := Nat.mul_le_mul (by omega) hs
        rw [show ((i : Int) * (s : Int)) = ((i * s : Nat) : Int) by simp]
        exact wrap_i64 _ (by omega)
      have HIS := Lib.hid (show i * s + s ≤ N from by
        have h5 : (i + 1) * s ≤ s * s := Nat.mul_le_mul (by omega) (Nat.le_refl _)
        rw [Nat.succ_mul] at h5
        have := HNS.out
        omega)
      have h100 : i * s ≤ 100 := (show i * s ≤ 10 * 10 from Nat.mul_le_mul (by omega) hs)
      generalize i * s = I at hmul hmul2 HIS h100
      go_wp2_with fail
      go_loopw [9, 10] (fun o x wr => ∃ (k : Nat) (us : List Int), k ≤ s ∧ x = .int .i64 k ∧ Own wr wq.heap.size tI o (ints us) ∧ Hid (Nl k us) ∧ Below wq.heap.size wq wr) (fun _ x _ => s - (intOf x).toNat)
      case atStart => exact ⟨0, [], Nat.zero_le _, rfl, OL1.out, Nl.nil, below1 _ _⟩
      case round =>
        obtain ⟨k, us, hk, rfl, ho, HU1, hb⟩ := hrel
        rename World => wp
        clear OL1
        have HO1 := Lib.hid ho
        have HB1 := Lib.hid hb
        obtain ⟨Ap, cp, hep, -, -⟩ := ho.cells.open_
        rw [ints_len, HU1.out.1] at hep
        subst hep
        clear ho hb
        by_cases hlk : k < s
        · have hkk : (k : Int) < (s : Int) := by omega
          have hIN : I + k < N := by have := HIS.out; omega
          obtain ⟨ad, z, rfl, hz, hz2, hc⟩ := H3.out (I + k) hIN
          have hcw := keepCellD (HB.out.trans (HB1.out.mono HB.out.size)) hc
          have hsum : wrap64 ((I : Int) + (k : Int)) = ((I + k : Nat) : Int) := by rw [show ((I : Int) + (k : Int)) = ((I + k : Nat) : Int) by simp]; exact w64_dr _ (by omega)
          obtain ⟨b0, b1⟩ := HZ.out z (List.mem_of_getElem? hz)
          clear hz hz2 hc
          go_wp2_with (first
            | (go_at_call 157; go_loud ((with_reducible refine (s_l01FracZ _ _ _ b0 b1 h0 h1).mono ?_); rintro e w5 ⟨x5, rfl, hx, rfl⟩; have HX5 := Lib.hid hx; clear hx))
            | (at_builtin; go_loud (refine wpList_app1 T_int HO1.out (by rw [ints_len, HU1.out.1]; omega) HB1.out.size (by rfl) rfl (by rfl) (by rfl) (by rfl) ?_; intro v7 w7 hown7 hgr7; have HN7 := Lib.hid hown7; have HR7 := Lib.hid hgr7; clear hown7 hgr7)))
          go_roundw
          case rel => exact ⟨k + 1, us ++ [x5], by omega, by go_num, by simpa [ints] using HN7.out, HU1.out.snoc HX5.out, HR7.out.below HB1.out HB1.out.size HO1.out.ge⟩
          case measure => simp [intOf]; omega
        · have hkk : ¬ ((k : Int) < (s : Int)) := by omega
          have hks : k = s := by omega
          subst hks
          have HO5 := Lib.hid (HO.out.below HB1.out)
          have HB5 := Lib.hid (HB.out.trans (HB1.out.mono HB.out.size))
          go_wp2_with (at_builtin; go_loud (refine wpList_app1 T_row HO5.out (by rw [HVL.out]; omega) HB5.out.size (by rfl) rfl (by rfl) (by rfl) (by rfl) ?_; intro v7 w7 hown7 hgr7; have HN7 := Lib.hid hown7; have HR7 := Lib.hid hgr7; clear hown7 hgr7))
          go_roundw
          case rel =>
            obtain ⟨p1, p2⟩ := LA.push HO.out HU.out.1 HU.out.2.1 HB1.out (ownNl HU1.out HO1.out) HB.out.size HN7.out HR7.out.1
            exact ⟨i + 1, _, _, by omega, by go_num, HN7.out, ⟨p1, p2, HU.out.2.2.snoc HU1.out⟩, HR7.out.below HB5.out HB5.out.size HO5.out.ge⟩
          case measure => simp [intOf]; omega
    · have hii : ¬ ((i : Int) < (s : Int)) := by omega
      have his : i = s := by omega
      subst his
      go_wp2_with fail
      go_ret
      exact ⟨_, rfl, xss, ⟨vs, HO.out, HU.out.1, HU.out.2.1⟩, HU.out.2.2, HB.out⟩
end Go.Proofs.Ytnlaoainhlfemaa

set_option maxRecDepth 100000
set_option linter.unusedVariables false
set_option linter.unusedSimpArgs false
namespace Go.Proofs.Ytnlaoainhlfemaa
open Go.RowKit

abbrev tTb : TypeId := 27
theorem mod_numD (x : Int) : 0 ≤ x % 10007 ∧ x % 10007 ≤ 10006 := by omega
/-- a tableau of one's own with n stages -/
def DT (w : World) (B : Nat) (v : Value) (n : Nat) : Prop := ∃ A Bs, OT w B w.heap.size v A Bs ∧ Sqm n n A ∧ Nl n Bs
theorem lit_read (W : World) (cs : Array Value) (n : Nat) (hn : cs.size = n) (h1 : ints (cs.toList.map intOf) = cs.toList) (h2 : (cs.toList.map intOf).all (fun z => decide (-1000000 ≤ z) && decide (z ≤ 1000000)) = true) (h3 : n ≤ 100) :
    Ints (W.alloc (.cells cs tI)) (.slice (some ⟨W.heap.size, 0, none⟩) n n) (cs.toList.map intOf) := by
  refine ⟨?_, fun z hz => ?_⟩
  · rw [h1]
    have h := (own_lit W tI cs.toList (by rw [Array.length_toList, hn]; simp [maxLen]; omega)).cells
    rw [Array.toArray_toList, Array.length_toList, hn] at h
    exact h
  · rw [List.all_eq_true] at h2
    have := h2 z hz
    simp at this
    unfold In64; omega
theorem s_l09RowA (W : World) (cs : Array Value) (q : Int) (n : Nat) (hn : cs.size = n) (h1 : ints (cs.toList.map intOf) = cs.toList) (h2 : (cs.toList.map intOf).all (fun z => decide (-1000000 ≤ z) && decide (z ≤ 1000000)) = true) (h3 : n ≤ 100) (h0 : 0 ≤ q) (hq : q ≤ 1000000) :
    Calls Try.prog 183 #[.int .i64 q, .slice (some ⟨W.heap.size, 0, none⟩) n n] (W.alloc (.cells cs tI)) fun e w' => ∃ x, e = .returned x ∧ ∃ us, OwnInts w' (W.heap.size + 1) tI x us ∧ Nl n us ∧ Below (W.heap.size + 1) (W.alloc (.cells cs tI)) w' := by
  have h := s_l09Row (W.alloc (.cells cs tI)) _ _ q (lit_read W cs n hn h1 h2 h3) (fun z hz => by rw [List.all_eq_true] at h2; have := h2 z hz; simp at this; omega) (by rw [List.length_map, Array.length_toList]; omega) h0 hq
  rw [size_alloc', List.length_map, Array.length_toList, hn] at h
  exact h
theorem s_l09SquareA (W : World) (cs : Array Value) (q sI : Int) (n : Nat) (hn : cs.size = n) (hs : n = sI.toNat * sI.toNat) (hs0 : ((sI.toNat : Nat) : Int) = sI) (hs10 : sI.toNat ≤ 10) (h1 : ints (cs.toList.map intOf) = cs.toList) (h2 : (cs.toList.map intOf).all (fun z => decide (-1000000 ≤ z) && decide (z ≤ 1000000)) = true) (h3 : n ≤ 100) (h0 : 0 ≤ q) (hq : q ≤ 1000000) :
    Calls Try.prog 182 #[.int .i64 sI, .int .i64 q, .slice (some ⟨W.heap.size, 0, none⟩) n n] (W.alloc (.cells cs tI)) fun e w' => ∃ x, e = .returned x ∧ ∃ xss, OR w' (W.heap.size + 1) w'.heap.size tL tI x xss ∧ Sqm sI.toNat sI.toNat xss ∧ Below (W.heap.size + 1) (W.alloc (.cells cs tI)) w' := by
  have h := s_l09Square (W.alloc (.cells cs tI)) _ _ q sI.toNat (lit_read W cs n hn h1 h2 h3) (fun z hz => by rw [List.all_eq_true] at h2; have := h2 z hz; simp at this; omega) (by rw [List.length_map, Array.length_toList, hn, hs]) hs10 h0 hq
  rw [size_alloc', hs0] at h
  exact h.mono fun e w' hh => by
    obtain ⟨x, rfl, xss, hl, hsq, hb⟩ := hh
    exact ⟨x, rfl, xss, hl.or, hsq, hb⟩
/-- the result laid in its block -/
theorem nam_end {w w4 : World} {g B M n : Nat} {x y : Value} {xss : List (List Int)} {us : List Int} (hb : Below w.heap.size w w4) (hg : w.heap.size ≤ g) (hgB : g < B) (hBM : B ≤ M) (hM : M ≤ w4.heap.size) (hA : OR w4 B M tL tI x xss) (hO : OwnInts w4 M tI y us) (hs : Sqm n n xss) (hu : Nl n us) :
    DT ((w4.setCell ⟨g, 0, none⟩ x).setCell ⟨g, 1, none⟩ y) w.heap.size (.agg #[x, y]) n ∧ Below w.heap.size w ((w4.setCell ⟨g, 0, none⟩ x).setCell ⟨g, 1, none⟩ y) := by
  have c0 := Chg.refl g (g + 1) w4
  have c1 := c0.setCell (p := ⟨g, 0, none⟩) (Nat.le_refl _) (by simp) x
  have c2 := c1.setCell (p := ⟨g, 1, none⟩) (Nat.le_refl _) (by simp) y
  have hOT : OT w4 B w4.heap.size (.agg #[x, y]) xss us := OT.of_M (M := M) hBM hM hA (OI.of hO)
  exact ⟨⟨xss, us, (hOT.kept c2 (.inr (by omega))).mono (by omega) c2.size, hs, hu⟩, c2.below hb hg hb.size⟩
set_option maxHeartbeats 1000000 in
theorem s_l01RootD (w : World) (a k : Int) (R : Nat) (k0 : 0 ≤ k) (k1 : k ≤ 1000) (hne : ∀ b : Nat, b < R → pw (b : Int) k.toNat ≠ a) (he : pw (R : Int) k.toNat = a) (hR : R < 10007) :
    Calls Try.prog 184 #[.int .i64 a, .int .i64 k] w fun e w' => e = .returned (.int .i64 (R : Int)) ∧ w = w' := by
  have HNE := Lib.hid hne
  have HE := Lib.hid he
  clear hne he
  go_enter Try.func184, Try.ntmps184
  go_wp2_with fail
  go_loop [5] (fun b => ∃ j : Nat, j ≤ R ∧ b = .int .i64 j) (fun b => R - (intOf b).toNat)
  case atStart => exact ⟨0, Nat.zero_le _, rfl⟩
  case round =>
    obtain ⟨j, hj, rfl⟩ := hrel
    have hj7 : (j : Int) < 10007 := by omega
    by_cases hlt : j < R
    · have hb : (pw (j : Int) k.toNat == a) = false := by simpa using HNE.out j hlt
      go_wp2_with (go_at_call 165; refine (s_l01Pow _ _ _ (by omega) (by omega) (by omega) (by omega)).mono ?_; rintro e w' ⟨rfl, rfl⟩)
      go_round
      case rel => exact ⟨j + 1, by omega, by go_num⟩
      case measure => simp [intOf]; omega
    · have : j = R := by omega
      subst this
      have hb : (pw (j : Int) k.toNat == a) = true := by simpa using HE.out
      go_wp2_with (go_at_call 165; refine (s_l01Pow _ _ _ (by omega) (by omega) (by omega) (by omega)).mono ?_; rintro e w' ⟨rfl, rfl⟩)
      go_ret
      exact ⟨rfl, rfl⟩
def nosq (a : Nat) : Nat → Bool
  | 0 => true
  | n + 1 => !(Nat.beq (n * n % 10007) a) && nosq a n
theorem nosq_ok {a : Nat} : ∀ {n b : Nat}, nosq a n = true → b < n → b * b % 10007 ≠ a
  | 0, b, _, h => by omega
  | n + 1, b, h, hb => by
    unfold nosq at h
    rw [Bool.and_eq_true] at h
    by_cases e : b = n
    · subst e
      intro e2
      rw [e2] at h
      have h1 := h.1
      rw [show Nat.beq a a = true from Nat.beq_refl a] at h1
      cases h1
    · exact nosq_ok h.2 (by omega)
theorem nosq3 : nosq 3 1477 = true := by decide +kernel
theorem s_root32 (w : World) : Calls Try.prog 184 #[.int .i64 3, .int .i64 2] w fun e w' => e = .returned (.int .i64 1477) ∧ w = w' := by
  refine s_l01RootD w 3 2 1477 (by omega) (by omega) (fun b hb => ?_) (by decide) (by omega)
  have h := nosq_ok nosq3 hb
  intro e
  unfold pw at e
  rw [show (2 : Int).toNat = 2 from rfl, Int.pow_succ, Int.pow_succ, Int.pow_zero, Int.one_mul] at e
  omega
/-- two rows of two, as literals -/
theorem two_rows (w : World) (a b c d : Int) (h1 : 0 ≤ a ∧ a ≤ 10006) (h2 : 0 ≤ b ∧ b ≤ 10006) (h3 : 0 ≤ c ∧ c ≤ 10006) (h4 : 0 ≤ d ∧ d ≤ 10006) (W : World)
    (hW : W = ((w.alloc (.cells #[.int .i64 a, .int .i64 b] tI)).alloc (.cells #[.int .i64 c, .int .i64 d] tI)).alloc (.cells #[.slice (some ⟨w.heap.size, 0, none⟩) 2 2, .slice (some ⟨w.heap.size + 1, 0, none⟩) 2 2] tL)) :
    OR W w.heap.size W.heap.size tL tI (.slice (some ⟨w.heap.size + 1 + 1, 0, none⟩) 2 2) [[a, b], [c, d]] ∧ Sqm 2 2 [[a, b], [c, d]] ∧ Below w.heap.size w W := by
  subst hW
  have n1 : Nl 2 [a, b] := ⟨rfl, fun z hz => by simp at hz; rcases hz with rfl | rfl <;> omega⟩
  have n2 : Nl 2 [c, d] := ⟨rfl, fun z hz => by simp at hz; rcases hz with rfl | rfl <;> omega⟩
  have o1 : OwnInts (w.alloc (.cells #[.int .i64 a, .int .i64 b] tI)) w.heap.size tI (.slice (some ⟨w.heap.size, 0, none⟩) 2 2) [a, b] := ownNl n1 (own_lit w tI (ints [a, b]) (by simp [maxLen, ints]))
  have o2 : OwnInts ((w.alloc (.cells #[.int .i64 a, .int .i64 b] tI)).alloc (.cells #[.int .i64 c, .int .i64 d] tI)) (w.heap.size + 1) tI (.slice (some ⟨w.heap.size + 1, 0, none⟩) 2 2) [c, d] := by
    have h := own_lit (w.alloc (.cells #[.int .i64 a, .int .i64 b] tI)) tI (ints [c, d]) (by simp [maxLen, ints])
    rw [size_alloc'] at h
    exact ownNl n2 h
  have o3 := own_lit ((w.alloc (.cells #[.int .i64 a, .int .i64 b] tI)).alloc (.cells #[.int .i64 c, .int .i64 d] tI)) tL [.slice (some ⟨w.heap.size, 0, none⟩) 2 2, .slice (some ⟨w.heap.size + 1, 0, none⟩) 2 2] (by simp [maxLen])
  rw [size_alloc', size_alloc'] at o3
  refine ⟨LA.or ⟨_, o3.mono (by omega), ?_, ?_⟩, ⟨rfl, fun zs hz => by simp at hz; rcases hz with rfl | rfl; exact n1; exact n2⟩, below3 w _ _ _⟩
  · have r0 := (RR.nil (((w.alloc (.cells #[.int .i64 a, .int .i64 b] tI)).alloc (.cells #[.int .i64 c, .int .i64 d] tI)).alloc (.cells #[.slice (some ⟨w.heap.size, 0, none⟩) 2 2, .slice (some ⟨w.heap.size + 1, 0, none⟩) 2 2] tL)) w.heap.size).snoc ((o1.below (below1 _ _)).below (below1 _ _))
    exact r0.snoc ((o2.below (below1 _ _)).mono (by omega))
  · refine List.pairwise_cons.2 ⟨fun x hx => ?_, List.pairwise_singleton _ _⟩
    simp at hx
    subst hx
    exact .inr (by simp [Value.ownBlock])
end Go.Proofs.Ytnlaoainhlfemaa

set_option maxRecDepth 100000
set_option linter.unusedVariables false
set_option linter.unusedSimpArgs false
namespace Go.Proofs.Ytnlaoainhlfemaa
open Go.RowKit

set_option maxHeartbeats 16000000 in
theorem s_l09NamedG2 (w : World) (str : ByteArray) (hg : (str.toList == [103, 97, 117, 115, 115]) = true) :
    Calls Try.prog 138 #[.string str] w fun e w' => ∃ v, e = .returned v ∧ DT w' w.heap.size v 2 ∧ Below w.heap.size w w' := by
  obtain ⟨W, hW⟩ : ∃ W, W = w.alloc (.cells #[.slice none 0 0, .slice none 0 0] tTb) := ⟨_, rfl⟩
  have HSW := Lib.hid (show W.heap.size = w.heap.size + 1 from by rw [hW]; simp)
  have HK := Lib.hid (show Blk W w.heap.size tTb #[.slice none 0 0, .slice none 0 0] from by rw [hW]; exact Blk.new _ _ _)
  have HBW := Lib.hid (show Below w.heap.size w W from by rw [hW]; exact below1 w _)
  have he : (str.toList == [101, 117, 108, 101, 114]) = false := by
    rw [beq_iff_eq] at hg
    rw [hg]
    decide
  go_enter Try.func138, Try.ntmps138
  go_upto_region 1 with fail
  rw [← hW]
  clear hW
  go_upto_region 7 with (first
    | (go_at_call 184; refine (s_root32 _).mono ?_; rintro e w3 ⟨rfl, rfl⟩)
    | (go_at_call 157; (with_reducible refine (s_l01FracZ _ 1 6 (by omega) (by omega) (by omega) (by omega)).mono ?_); go_loud (rintro e w3 ⟨z, rfl, hz, rfl⟩; obtain ⟨z0, z1⟩ := hz))
    | (go_at_call 147; go_loud (refine (s_l01Mul 1477 z _ (by omega) (by omega) (by omega) (by omega)).mono ?_; rintro e w3 ⟨rfl, rfl⟩; have hm := mod_numD (1477 * z); generalize 1477 * z % 10007 = m at *))
    | (go_at_call 157; (with_reducible refine (s_l01FracZ _ 1 4 (by omega) (by omega) (by omega) (by omega)).mono ?_); go_loud (rintro e w3 ⟨q, rfl, hq, rfl⟩; obtain ⟨q0, q1⟩ := hq)))
  obtain ⟨m0, m1⟩ := hm
  have HS1 := Lib.hid (fun X => s_l01Sub q m X (by omega) (by omega) (by omega) (by omega))
  have HA1 := Lib.hid (fun X => s_l01Add q m X (by omega) (by omega) (by omega) (by omega))
  have hs1 := mod_numD (q - m)
  have ha1 := mod_numD (q + m)
  generalize (q - m) % 10007 = d at *
  generalize (q + m) % 10007 = a at *
  obtain ⟨W3, hW3⟩ : ∃ W3, W3 = ((W.alloc (.cells #[.int .i64 q, .int .i64 d] tI)).alloc (.cells #[.int .i64 a, .int .i64 q] tI)).alloc (.cells #[.slice (some ⟨W.heap.size, 0, none⟩) 2 2, .slice (some ⟨W.heap.size + 1, 0, none⟩) 2 2] tL) := ⟨_, rfl⟩
  obtain ⟨hor, hsq, hb3⟩ := two_rows W q d a q ⟨q0, q1⟩ hs1 ha1 ⟨q0, q1⟩ W3 hW3
  have HOR := Lib.hid hor
  have HSQ := Lib.hid hsq
  have HB3 := Lib.hid (HBW.out.trans (hb3.mono HBW.out.size))
  have HK3 := Lib.hid (HK.out.below hb3 HK.out.lt)
  have HW3 := Lib.hid hW3
  have HSZ3 := Lib.hid (show W.heap.size + 1 + 1 + 1 = W3.heap.size from by rw [hW3]; simp)
  clear hor hsq hb3 hW3 hs1 ha1 z0 z1 m0 m1 he hg
  go_wp2_with (first
    | (go_at_call 141; refine (HS1.out _).mono ?_; rintro e w3 ⟨rfl, rfl⟩)
    | (go_at_call 140; refine (HA1.out _).mono ?_; rintro e w3 ⟨rfl, rfl⟩)
    | (go_at_call 183; rw [← HW3.out, HSZ3.out]; go_loud (refine (s_l09RowA W3 #[.int .i64 1, .int .i64 1] 2 2 rfl rfl (by decide) (by omega) (by omega) (by omega)).mono ?_; rintro e w5 ⟨x5, rfl, us, ho5, hn5, hb5⟩; obtain ⟨A5, c5, rfl, -, -, -⟩ := ho5.ints.open_; have hb5' : Below W3.heap.size W3 w5 := (below1 W3 _).trans (hb5.mono (by omega)); have HK5 := Lib.hid (HK3.out.below hb5' HK3.out.lt); have HO5 := Lib.hid (ho5.mono (Nat.le_succ _)); have HN5 := Lib.hid hn5; have HB5 := Lib.hid (HB3.out.trans (hb5'.mono HB3.out.size)); have HOR5 := Lib.hid (HOR.out.below hb5'); have f0 : w5.cell? ⟨w.heap.size, 0, none⟩ = some (.slice none 0 0) := HK5.out.cell 0; have f1 : w5.cell? ⟨w.heap.size, 1, none⟩ = some (.slice none 0 0) := HK5.out.cell 1; have f2 := HK5.out.frozen 0; have f3 := HK5.out.frozen 1; have HSZ5 := Lib.hid hb5'.size; clear ho5 hn5 hb5 hb5')))
  refine bodyPost_ret (v := .agg #[.slice (some ⟨W.heap.size + 1 + 1, 0, none⟩) 2 2, .slice A5 us.length c5]) (by simp [results, Try.results138, go_sem, f0, f1]) rfl ?_
  obtain ⟨p1, p2⟩ := nam_end (n := 2) (g := w.heap.size) (B := W.heap.size) (M := W3.heap.size) HB5.out (Nat.le_refl _) (by have := HSW.out; omega) (by have := HSZ3.out; omega) HSZ5.out HOR5.out HO5.out HSQ.out HN5.out
  exact ⟨_, rfl, p1, p2⟩
end Go.Proofs.Ytnlaoainhlfemaa

