/- Walks: numbers that are drawn (laws.dice): any numbers in their ranges; what the source holds is not told. | Walks: numbers that are drawn (spec.l01Source). (printed by drwgen.py) | Walks: what is drawn out of the source: picks, numbers, lists. | Walks of helpers of the laws: likeInts, whole9, big. | Byte slices that came in, opened. -/
import Derived.Test.YtbjeibcombjfgaaRows
import Derived.Test.YtbjeibcombjfgaaQf1
import Derived.Test.YtbjeibcombjfgaaQf2
import Derived.Test.YtbjeibcombjfgaaQf3
import Derived.BigQuiet
import Derived.Deep.RegionLaw
import Derived.WalkSmall
import Derived.IntWalk
import Derived.Deep.CutRange
import Derived.Deep.CutBlock
import Derived.Deep.DeepCutAuto
import Derived.Deep.QuietTactic
import Derived.WalkLawsBesides
import Derived.Deep.RegionHeld3
import Derived.Test.YtbjeibcombjfgaaQf12
set_option maxRecDepth 100000
set_option linter.unusedVariables false
set_option linter.unusedSimpArgs false
namespace Go.Proofs.Ytbjeibcombjfgaa
open Go.RowKit

/-- bytes that can be read, in a block below B -/
def ByB (w : World) (B : Nat) (A : Option Addr) (n : Nat) : Prop := ∀ k, k < n → ∃ ad z, A = some ad ∧ ad.block < B ∧ ad.block < w.heap.size ∧ 0 ≤ z ∧ z ≤ 255 ∧ w.cell? (ad.add k) = some (.int .u8 z)
/-- a byte slice that can be read -/
def Bts (w : World) (v : Value) (n : Nat) : Prop := ∃ A c, v = .slice A n c ∧ ByB w w.heap.size A n
/-- a source of numbers in block p: the bytes, the place, the hash -/
def Src (w : World) (B : Nat) (t : TypeId) (p : Nat) : Prop := ∃ (A : Option Addr) (n c k : Nat) (h : Int), Blk w p t #[.slice A n c, .int .i64 k, .int .u64 h] ∧ B ≤ p ∧ ByB w B A n ∧ k ≤ n ∧ n ≤ 1000000 ∧ 0 ≤ h ∧ h < 18446744073709551616
abbrev at0 (p : Nat) : Value := .pointer (some ⟨p, 0, none⟩)
abbrev tDc : TypeId := 104
theorem ByB.grown {w w' : World} {B n p : Nat} {A : Option Addr} (h : ByB w B A n) (hg : w.grownBy w' (some p)) (hp : B ≤ p) : ByB w' B A n := fun k hk => by
  obtain ⟨ad, z, rfl, h1, h2, h3, h4, h5⟩ := h k hk
  refine ⟨ad, z, rfl, h1, Nat.lt_of_lt_of_le h2 hg.size, h3, h4, ?_⟩
  have hb : w'.heap[ad.block]? = w.heap[ad.block]? := hg.block ad.block h2 (fun e => by injection e with e; omega)
  rw [← h5]
  unfold World.cell?
  simp only [block_add]
  rw [hb]
theorem gset (w : World) (g i : Nat) (u : Value) : w.grownBy (w.setCell ⟨g, i, none⟩ u) (some g) := by
  have b := Below.setCell (B := 0) (Below.refl 0 w) (p := ⟨g, i, none⟩) (Nat.zero_le _) u
  exact ⟨b.os, b.tape, b.output, b.size, fun k hk hne => Below.heap_setCell w _ u k (fun e => hne (by rw [e]))⟩
theorem w64_dr (x : Int) (h : -9223372036854775808 ≤ x ∧ x ≤ 9223372036854775807) : wrap64 x = x := by unfold wrap64; omega
theorem u64_bd (x : Int) : 0 ≤ IntKind.u64.wrap x ∧ IntKind.u64.wrap x < 18446744073709551616 := by rw [IntKind.wrap_u64]; omega
theorem bits_bd {x : Int} (h0 : 0 ≤ x) (h1 : x < 18446744073709551616) : 0 ≤ bits BinOp.and IntKind.u64 x 16777215 ∧ bits BinOp.and IntKind.u64 x 16777215 ≤ 16777215 := by
  have h := bits_and_u64_nat x.toNat 16777215 (by omega) (by omega)
  rw [Int.toNat_of_nonneg h0] at h
  have h2 : x.toNat &&& 16777215 ≤ 16777215 := Nat.and_le_right
  rw [show (16777215 : Int) = ((16777215 : Nat) : Int) from rfl, h]
  omega
/-- what one step of the hash gives -/
theorem hash_bd (z : Int) : ∃ x y : Int, x = IntKind.u64.wrap z ∧ 0 ≤ x ∧ x < 18446744073709551616 ∧ y = bits BinOp.and IntKind.u64 (x / 8589934592) 16777215 ∧ wrap64 (bits BinOp.and IntKind.u64 (x / 8589934592) 16777215) = y ∧ 0 ≤ y ∧ y ≤ 16777215 := by
  have h1 := u64_bd z
  have h2 := bits_bd (x := IntKind.u64.wrap z / 8589934592) (by omega) (by omega)
  exact ⟨_, _, rfl, h1.1, h1.2, rfl, w64_dr _ (by omega), h2.1, h2.2⟩
theorem rem_bd {x n : Int} (h0 : 0 ≤ x) (h1 : 1 ≤ n) : 0 ≤ x % n ∧ x % n < n := ⟨Int.emod_nonneg _ (by omega), Int.emod_lt_of_pos _ (by omega)⟩
theorem gtrans {w w1 w2 : World} {b : Option Nat} (h : w.grownBy w1 b) (h' : w1.grownBy w2 b) : w.grownBy w2 b :=
  ⟨h'.os.trans h.os, h'.tape.trans h.tape, h'.output.trans h.output, Nat.le_trans h.size h'.size, fun k hk hne => (h'.block k (Nat.lt_of_lt_of_le hk h.size) hne).trans (h.block k hk hne)⟩
theorem gof {w w' : World} {r : Option Nat} (h : Below w.heap.size w w') : w.grownBy w' r := ⟨h.os, h.tape, h.output, h.size, fun k hk _ => h.block k hk⟩
set_option maxHeartbeats 4000000 in
theorem l_below (w : World) (B p : Nat) (n : Int) (h : Src w B tDc p) (hn : n ≤ 4611686018427387904) (hn0 : 1 ≤ n) :
    Calls Try.prog 57 #[at0 p, .int .i64 n] w fun e w' => ∃ x, e = .returned (.int .i64 x) ∧ 0 ≤ x ∧ x < n ∧ w.grownBy w' (some p) ∧ Src w' B tDc p := by
  obtain ⟨A, m, c, k, hs, hk, hB, hby, hkm, hm, h0, h1⟩ := h
  have HK := Lib.hid hk
  have HBY := Lib.hid hby
  have k2 : w.cell? ⟨p, 2, none⟩ = some (.int .u64 hs) := hk.cell 2
  have f2 : w.frozen? ⟨p, 2, none⟩ = false := hk.frozen 2
  clear hk hby
  go_enter Try.func57, Try.ntmps57
  go_upto_region 5 with fail
  obtain ⟨x, y, hx, x0, x1, hy, hw, y0, y1⟩ := hash_bd (IntKind.u64.wrap (hs * 6364136223846793005) + 1442695040888963407)
  rw [← hx, hw, ← hy]
  clear hx hy hw h0 h1 f2 k2
  have HK1 := Lib.hid (HK.out.set_ 2 (.int .u64 x))
  have HG1 := Lib.hid (gset w p 2 (.int .u64 x))
  generalize w.setCell ⟨p, 2, none⟩ (.int .u64 x) = w1 at HK1 HG1 ⊢
  generalize x / 8589934592 = x9
  generalize IntKind.u64.wrap (hs * 6364136223846793005) = x8
  have HBY1 := Lib.hid (HBY.out.grown HG1.out hB)
  have HK1 := Lib.hid (show Blk w1 p tDc #[.slice A m c, .int .i64 k, .int .u64 x] from HK1.out)
  have k0 : w1.cell? ⟨p, 0, none⟩ = some (.slice A m c) := HK1.out.cell 0
  have k1 : w1.cell? ⟨p, 1, none⟩ = some (.int .i64 k) := HK1.out.cell 1
  have f1 : w1.frozen? ⟨p, 1, none⟩ = false := HK1.out.frozen 1
  clear HK HBY
  by_cases hlt : k < m
  · obtain ⟨ad, z, rfl, a1, a2, z0, z1, hc⟩ := HBY1.out k hlt
    have hkk : (k : Int) < (m : Int) := by omega
    have hw1 : wrap64 (y + z) = y + z := w64_dr _ (by omega)
    have hwk : wrap64 ((k : Int) + 1) = (k : Int) + 1 := w64_dr _ (by omega)
    clear a1 a2
    go_quiet (fail)
    go_upto_region 6 with fail
    rename Nat => nq0
    have k0' : (w1.drewN nq0).cell? ⟨p, 0, none⟩ = some (.slice (some ad) m c) := k0
    have k1' : (w1.drewN nq0).cell? ⟨p, 1, none⟩ = some (.int .i64 k) := k1
    have hc' : (w1.drewN nq0).cell? (ad.add k) = some (.int .u8 z) := hc
    go_quiet (fail)
    go_wp2_with fail
    go_ret
    obtain ⟨r0, r1⟩ := rem_bd (x := y + z) (n := n) (by omega) hn0
    have HB2 : w1.grownBy ((w1.drewN (nq0 + nq)).setCell ⟨p, 1, none⟩ (.int .i64 ((k : Int) + 1))) (some p) := gtrans (gof (below_drewN (Below.refl _ _) _)) (gset _ _ _ _)
    exact ⟨_, rfl, r0, r1, gtrans HG1.out HB2, some ad, m, c, k + 1, x, by simpa using (HK1.out.drewN _).set_ 1 (.int .i64 ((k : Int) + 1)), hB, HBY1.out.grown HB2 hB, hlt, hm, x0, x1⟩
  · have hkk : ¬ ((k : Int) < (m : Int)) := by omega
    go_quiet (fail)
    go_wp2_with fail
    go_ret
    obtain ⟨r0, r1⟩ := rem_bd (x := y) (n := n) (by omega) hn0
    rename Nat => nq0
    have HB2 : w1.grownBy (w1.drewN nq0) (some p) := gof (below_drewN (Below.refl _ _) _)
    exact ⟨_, rfl, r0, r1, gtrans HG1.out HB2, A, m, c, k, x, HK1.out.drewN _, hB, HBY1.out.grown HB2 hB, hkm, hm, x0, x1⟩
/-- the source is kept where others grow -/
theorem Src.kept {w w' : World} {B p : Nat} {t : TypeId} {r : Option Nat} (h : Src w B t p) (hg : w.grownBy w' r) (hne : r ≠ some p) (hr : ∀ b, r = some b → B ≤ b) : Src w' B t p := by
  obtain ⟨A, m, c, k, hs, hk, hB, hby, h1⟩ := h
  refine ⟨A, m, c, k, hs, (hg.block p hk.lt (fun e => hne e.symm)).trans hk, hB, fun j hj => ?_, h1⟩
  obtain ⟨ad, z, rfl, a1, a2, z0, z1, hc⟩ := hby j hj
  refine ⟨ad, z, rfl, a1, Nat.lt_of_lt_of_le a2 hg.size, z0, z1, ?_⟩
  have hb : w'.heap[ad.block]? = w.heap[ad.block]? := hg.block ad.block a2 (fun e => by have := hr _ e.symm; omega)
  rw [← hc]
  unfold World.cell?
  simp only [block_add]
  rw [hb]
theorem Src.below {w w' : World} {B p : Nat} {t : TypeId} (h : Src w B t p) (hg : Below w.heap.size w w') : Src w' B t p := h.kept (r := none) (gof hg) (by simp) (by simp)
theorem Src.ge {w : World} {B p : Nat} {t : TypeId} (h : Src w B t p) : B ≤ p := by obtain ⟨A, m, c, k, hs, hk, hB, -⟩ := h; exact hB
theorem Src.lt {w : World} {B p : Nat} {t : TypeId} (h : Src w B t p) : p < w.heap.size := by obtain ⟨A, m, c, k, hs, hk, hB, -⟩ := h; exact hk.lt
set_option maxHeartbeats 4000000 in
theorem l_roll (w : World) (A : Option Addr) (n c : Nat) (s : Int) (hb : ByB w w.heap.size A n) (hn : n ≤ 1000000) (hs0 : 0 ≤ s) (hs1 : s ≤ 100000) :
    Calls Try.prog 56 #[.slice A n c, .int .u64 s] w fun e w' => ∃ p, e = .returned (at0 p) ∧ Src w' w.heap.size tDc p ∧ Below w.heap.size w w' := by
  have HBY := Lib.hid hb
  have hs2 : 0 ≤ s * 8111 + (n : Int) ∧ s * 8111 + (n : Int) < 18446744073709551616 := by omega
  clear hb
  go_enter Try.func56, Try.ntmps56
  go_wp2_with fail
  obtain ⟨h0, hh0⟩ : ∃ h0, h0 = s * 8111 + (n : Int) := ⟨_, rfl⟩
  rw [← hh0] at hs2 ⊢
  obtain ⟨W, hW⟩ : ∃ W, W = w.alloc (Obj.cells #[Value.slice A n c, Value.int IntKind.i64 0, Value.int IntKind.u64 h0] tDc) := ⟨_, rfl⟩
  have HBW := Lib.hid (show Below w.heap.size w W from by rw [hW]; exact below1 w _)
  have HK := Lib.hid (show Blk W w.heap.size tDc #[Value.slice A n c, Value.int IntKind.i64 0, Value.int IntKind.u64 h0] from by rw [hW]; exact Blk.new _ _ _)
  rw [← hW]
  clear hW hh0
  obtain ⟨g0, g1⟩ := hs2
  go_loopw [6] (fun x wr => ∃ (j : Nat) (h : Int), j ≤ n ∧ x = .int .i64 j ∧ 0 ≤ h ∧ h < 18446744073709551616 ∧ Blk wr w.heap.size tDc #[Value.slice A n c, Value.int IntKind.i64 0, Value.int IntKind.u64 h] ∧ Below w.heap.size w wr) (fun x _ => n - (intOf x).toNat)
  case atStart => exact ⟨0, h0, Nat.zero_le _, rfl, g0, g1, HK.out, HBW.out⟩
  case round =>
    obtain ⟨j, h, hj, rfl, q0, q1, hk, hb⟩ := hrel
    rename World => wq
    clear HK HBW
    have HK := Lib.hid hk
    have HB := Lib.hid hb
    have k2 : wq.cell? ⟨w.heap.size, 2, none⟩ = some (.int .u64 h) := hk.cell 2
    have f2 : wq.frozen? ⟨w.heap.size, 2, none⟩ = false := hk.frozen 2
    clear hk hb
    by_cases hlt : j < n
    · have hjj : (j : Int) < (n : Int) := by omega
      obtain ⟨ad, z, rfl, a1, a2, z0, z1, hc⟩ := HBY.out j hlt
      have hc1 : wq.cell? (ad.add j) = some (.int .u8 z) := by rw [HB.out.cell (by rw [block_add]; exact a1)]; exact hc
      have hjk : wrap64 ((j : Int) + 1) = (j : Int) + 1 := w64_dr _ (by omega)
      clear a1 a2 hc
      go_upto_region 5 with fail
      go_region_law (fail)
      all_goals
        obtain ⟨y, hy⟩ : ∃ y, y = IntKind.u64.wrap (IntKind.u64.wrap (IntKind.u64.wrap (h * 1099511628211) + IntKind.u64.wrap z) + 5) := ⟨_, rfl⟩
        obtain ⟨b0, b1⟩ : 0 ≤ y ∧ y < 18446744073709551616 := by rw [hy]; exact u64_bd _
        rw [← hy]
        clear hy
        go_wp2_with fail
        go_roundw
        case rel =>
          exact ⟨j + 1, _, by omega, by go_num, b0, b1, (HK.out.set_ 2 _).drewN 1, (HB.out.setCell (Nat.le_refl _) _).drew⟩
        case measure => simp [intOf]; omega
    · have hjn : j = n := by omega
      subst hjn
      go_wp2_with fail
      go_ret
      exact ⟨_, rfl, ⟨A, j, c, 0, h, HK.out, Nat.le_refl _, fun k hk => by obtain ⟨ad, z, e, a1, a2, z0, z1, hc⟩ := HBY.out k hk; exact ⟨ad, z, e, a1, Nat.lt_of_lt_of_le a1 HB.out.size, z0, z1, by rw [HB.out.cell (by rw [block_add]; exact a1)]; exact hc⟩, Nat.zero_le _, hn, q0, q1⟩, HB.out⟩
theorem gthen {w w1 w2 : World} {p : Nat} {r : Option Nat} (h : w.grownBy w1 (some p)) (h' : w1.grownBy w2 r) (hr : ∀ b, r = some b → w.heap.size ≤ b) : w.grownBy w2 (some p) :=
  ⟨h'.os.trans h.os, h'.tape.trans h.tape, h'.output.trans h.output, Nat.le_trans h.size h'.size, fun k hk hne => (h'.block k (Nat.lt_of_lt_of_le hk h.size) (fun e => by have := hr _ e.symm; omega)).trans (h.block k hk hne)⟩
theorem Own.src {w w' : World} {C p : Nat} {e : TypeId} {v : Value} {vs : List Value} (h : Own w C e v vs) (hp : p < C) (hg : w.grownBy w' (some p)) : Own w' C e v vs := h.kept hg (by
  cases hb : v.ownBlock with
  | none => exact .inl rfl
  | some b => exact .inr fun e => by injection e with e; have := h.ge b hb; omega)
end Go.Proofs.Ytbjeibcombjfgaa

set_option maxRecDepth 100000
set_option linter.unusedVariables false
set_option linter.unusedSimpArgs false
namespace Go.Proofs.Ytbjeibcombjfgaa
open Go.RowKit

abbrev tSc : TypeId := 107
set_option maxHeartbeats 4000000 in
theorem s_l01Next (w : World) (B p : Nat) (n : Int) (h : Src w B tSc p) (hn : n ≤ 4611686018427387904) (hn0 : 1 ≤ n) :
    Calls Try.prog 114 #[at0 p, .int .i64 n] w fun e w' => ∃ x, e = .returned (.int .i64 x) ∧ 0 ≤ x ∧ x < n ∧ w.grownBy w' (some p) ∧ Src w' B tSc p := by
  obtain ⟨A, m, c, k, hs, hk, hB, hby, hkm, hm, h0, h1⟩ := h
  have HK := Lib.hid hk
  have HBY := Lib.hid hby
  have k2 : w.cell? ⟨p, 2, none⟩ = some (.int .u64 hs) := hk.cell 2
  have f2 : w.frozen? ⟨p, 2, none⟩ = false := hk.frozen 2
  clear hk hby
  go_enter Try.func114, Try.ntmps114
  go_upto_region 5 with fail
  obtain ⟨x, y, hx, x0, x1, hy, hw, y0, y1⟩ := hash_bd (IntKind.u64.wrap (hs * 6364136223846793005) + 1442695040888963407)
  rw [← hx, hw, ← hy]
  clear hx hy hw h0 h1 f2 k2
  have HK1 := Lib.hid (HK.out.set_ 2 (.int .u64 x))
  have HG1 := Lib.hid (gset w p 2 (.int .u64 x))
  generalize w.setCell ⟨p, 2, none⟩ (.int .u64 x) = w1 at HK1 HG1 ⊢
  generalize x / 8589934592 = x9
  generalize IntKind.u64.wrap (hs * 6364136223846793005) = x8
  have HBY1 := Lib.hid (HBY.out.grown HG1.out hB)
  have HK1 := Lib.hid (show Blk w1 p tSc #[.slice A m c, .int .i64 k, .int .u64 x] from HK1.out)
  have k0 : w1.cell? ⟨p, 0, none⟩ = some (.slice A m c) := HK1.out.cell 0
  have k1 : w1.cell? ⟨p, 1, none⟩ = some (.int .i64 k) := HK1.out.cell 1
  have f1 : w1.frozen? ⟨p, 1, none⟩ = false := HK1.out.frozen 1
  clear HK HBY
  by_cases hlt : k < m
  · obtain ⟨ad, z, rfl, a1, a2, z0, z1, hc⟩ := HBY1.out k hlt
    have hkk : (k : Int) < (m : Int) := by omega
    have hw1 : wrap64 (y + z) = y + z := w64_dr _ (by omega)
    have hwk : wrap64 ((k : Int) + 1) = (k : Int) + 1 := w64_dr _ (by omega)
    clear a1 a2
    go_quiet (fail)
    go_upto_region 6 with fail
    rename Nat => nq0
    have k0' : (w1.drewN nq0).cell? ⟨p, 0, none⟩ = some (.slice (some ad) m c) := k0
    have k1' : (w1.drewN nq0).cell? ⟨p, 1, none⟩ = some (.int .i64 k) := k1
    have hc' : (w1.drewN nq0).cell? (ad.add k) = some (.int .u8 z) := hc
    go_quiet (fail)
    go_wp2_with fail
    go_ret
    obtain ⟨r0, r1⟩ := rem_bd (x := y + z) (n := n) (by omega) hn0
    have HB2 : w1.grownBy ((w1.drewN (nq0 + nq)).setCell ⟨p, 1, none⟩ (.int .i64 ((k : Int) + 1))) (some p) := gtrans (gof (below_drewN (Below.refl _ _) _)) (gset _ _ _ _)
    exact ⟨_, rfl, r0, r1, gtrans HG1.out HB2, some ad, m, c, k + 1, x, by simpa using (HK1.out.drewN _).set_ 1 (.int .i64 ((k : Int) + 1)), hB, HBY1.out.grown HB2 hB, hlt, hm, x0, x1⟩
  · have hkk : ¬ ((k : Int) < (m : Int)) := by omega
    go_quiet (fail)
    go_wp2_with fail
    go_ret
    obtain ⟨r0, r1⟩ := rem_bd (x := y) (n := n) (by omega) hn0
    rename Nat => nq0
    have HB2 : w1.grownBy (w1.drewN nq0) (some p) := gof (below_drewN (Below.refl _ _) _)
    exact ⟨_, rfl, r0, r1, gtrans HG1.out HB2, A, m, c, k, x, HK1.out.drewN _, hB, HBY1.out.grown HB2 hB, hkm, hm, x0, x1⟩
set_option maxHeartbeats 4000000 in
theorem s_l01From (w : World) (A : Option Addr) (n c : Nat) (hb : ByB w w.heap.size A n) (hn : n ≤ 4096) :
    Calls Try.prog 58 #[.slice A n c] w fun e w' => ∃ p, e = .returned (at0 p) ∧ Src w' w.heap.size tSc p ∧ Below w.heap.size w w' := by
  have HBY := Lib.hid hb
  have hs2 : 0 ≤ 5381 + (n : Int) ∧ 5381 + (n : Int) < 18446744073709551616 := by omega
  clear hb
  go_enter Try.func58, Try.ntmps58
  go_wp2_with fail
  obtain ⟨h0, hh0⟩ : ∃ h0, h0 = 5381 + (n : Int) := ⟨_, rfl⟩
  rw [← hh0] at hs2 ⊢
  obtain ⟨W, hW⟩ : ∃ W, W = w.alloc (Obj.cells #[Value.slice A n c, Value.int IntKind.i64 0, Value.int IntKind.u64 h0] tSc) := ⟨_, rfl⟩
  have HBW := Lib.hid (show Below w.heap.size w W from by rw [hW]; exact below1 w _)
  have HK := Lib.hid (show Blk W w.heap.size tSc #[Value.slice A n c, Value.int IntKind.i64 0, Value.int IntKind.u64 h0] from by rw [hW]; exact Blk.new _ _ _)
  rw [← hW]
  clear hW hh0
  obtain ⟨g0, g1⟩ := hs2
  go_loopw [4] (fun x wr => ∃ (j : Nat) (h : Int), j ≤ n ∧ x = .int .i64 j ∧ 0 ≤ h ∧ h < 18446744073709551616 ∧ Blk wr w.heap.size tSc #[Value.slice A n c, Value.int IntKind.i64 0, Value.int IntKind.u64 h] ∧ Below w.heap.size w wr) (fun x _ => n - (intOf x).toNat)
  case atStart => exact ⟨0, h0, Nat.zero_le _, rfl, g0, g1, HK.out, HBW.out⟩
  case round =>
    obtain ⟨j, h, hj, rfl, q0, q1, hk, hb⟩ := hrel
    rename World => wq
    clear HK HBW
    have HK := Lib.hid hk
    have HB := Lib.hid hb
    have k2 : wq.cell? ⟨w.heap.size, 2, none⟩ = some (.int .u64 h) := hk.cell 2
    have f2 : wq.frozen? ⟨w.heap.size, 2, none⟩ = false := hk.frozen 2
    clear hk hb
    by_cases hlt : j < n
    · have hj4 : (j : Int) < 4096 := by omega
      have hjj : (j : Int) < (n : Int) := by omega
      obtain ⟨ad, z, rfl, a1, a2, z0, z1, hc⟩ := HBY.out j hlt
      have hc1 : wq.cell? (ad.add j) = some (.int .u8 z) := by rw [HB.out.cell (by rw [block_add]; exact a1)]; exact hc
      have hjk : wrap64 ((j : Int) + 1) = (j : Int) + 1 := w64_dr _ (by omega)
      clear a1 a2 hc
      go_upto_region 5 with fail
      go_region_law (fail)
      all_goals
        obtain ⟨y, hy⟩ : ∃ y, y = IntKind.u64.wrap (IntKind.u64.wrap (IntKind.u64.wrap (h * 1099511628211) + IntKind.u64.wrap z) + 11) := ⟨_, rfl⟩
        obtain ⟨b0, b1⟩ : 0 ≤ y ∧ y < 18446744073709551616 := by rw [hy]; exact u64_bd _
        rw [← hy]
        clear hy
        go_wp2_with fail
        go_roundw
        case rel =>
          exact ⟨j + 1, _, by omega, by go_num, b0, b1, (HK.out.set_ 2 _).drewN 1, (HB.out.setCell (Nat.le_refl _) _).drew⟩
        case measure => simp [intOf]; omega
    · have hjn : j = n := by omega
      subst hjn
      go_wp2_with fail
      go_ret
      exact ⟨_, rfl, ⟨A, j, c, 0, h, HK.out, Nat.le_refl _, fun k hk => by obtain ⟨ad, z, e, a1, a2, z0, z1, hc⟩ := HBY.out k hk; exact ⟨ad, z, e, a1, Nat.lt_of_lt_of_le a1 HB.out.size, z0, z1, by rw [HB.out.cell (by rw [block_add]; exact a1)]; exact hc⟩, Nat.zero_le _, (by omega), q0, q1⟩, HB.out⟩
end Go.Proofs.Ytbjeibcombjfgaa

set_option maxRecDepth 100000
set_option linter.unusedVariables false
set_option linter.unusedSimpArgs false
namespace Go.Proofs.Ytbjeibcombjfgaa
open Go.RowKit

theorem wrap_i64 (x : Int) (h : -9223372036854775808 ≤ x ∧ x ≤ 9223372036854775807) : IntKind.i64.wrap x = x := IntWalk.i64_in _ (by omega)
/-- a literal list of numbers is kept where the source changes -/
theorem lit_keep (w : World) (p : Nat) (zs : List Int) (hz : ∀ z ∈ zs, In64 z) (hl : zs.length ≤ 1000) (hp : p < w.heap.size) :
    ∀ W, (w.alloc (.cells (ints zs).toArray tI)).grownBy W (some p) → Ints W (.slice (some ⟨w.heap.size, 0, none⟩) zs.length zs.length) zs := fun W hg => by
  have h := own_lit w tI (ints zs) (by rw [ints_len]; simp [maxLen]; omega)
  rw [ints_len] at h
  exact ⟨(h.kept hg (.inr (fun e => by simp [Value.ownBlock] at e; omega))).cells, hz⟩
set_option maxHeartbeats 4000000 in
theorem s_l01Pick (w : World) (B p : Nat) (v : Value) (zs : List Int) (h : Src w B tSc p) (hv : ∀ W, w.grownBy W (some p) → Ints W v zs) (h1 : 1 ≤ zs.length) (h2 : zs.length ≤ 1000) :
    Calls Try.prog 60 #[at0 p, v] w fun e w' => ∃ z, e = .returned (.int .i64 z) ∧ z ∈ zs ∧ w.grownBy w' (some p) ∧ Src w' B tSc p := by
  obtain ⟨A, c, rfl, g1, g2, g3⟩ := (hv w (World.grownBy.refl _ _)).open_
  have HV := Lib.hid hv
  have HN := Lib.hid (s_l01Next w B p (zs.length : Nat) h (by omega) (by omega))
  clear g3 h hv
  go_enter Try.func60, Try.ntmps60
  go_wp2_with (go_at_call 114; go_loud (refine HN.out.mono ?_; rintro e w1 ⟨x, rfl, x0, x1, hg, hs⟩; obtain ⟨k, rfl⟩ : ∃ k : Nat, x = k := ⟨x.toNat, by omega⟩; obtain ⟨A', c', he, -, -, g3⟩ := (HV.out w1 hg).open_; (simp only [Value.slice.injEq] at he); obtain ⟨rfl, -, rfl⟩ := he; obtain ⟨ad, z, rfl, hz, hz2, hc⟩ := g3 k (by omega); have HZ := Lib.hid (List.mem_of_getElem? hz); have HG := Lib.hid hg; have HS := Lib.hid hs; have hkl : k < zs.length := (by omega); clear g3 hz hz2 hg hs x0 x1))
  go_ret
  exact ⟨_, rfl, HZ.out, HG.out, HS.out⟩
end Go.Proofs.Ytbjeibcombjfgaa

set_option maxRecDepth 100000
set_option linter.unusedVariables false
set_option linter.unusedSimpArgs false
namespace Go.Proofs.Ytbjeibcombjfgaa
open Go.RowKit

set_option maxHeartbeats 400000 in
theorem l_likeInts (w : World) (a b : Value) (xs ys : List Int) (ha : Ints w a xs) (hb : Ints w b ys) :
    Calls Try.prog 36 #[a, b] w fun e w' => e = .returned (.bool (decide (xs = ys))) ∧ ∃ n, w' = w.drewN n := by
  obtain ⟨A, c, rfl, h1, h2, h3⟩ := ha.open_
  obtain ⟨B, d, rfl, g1, g2, g3⟩ := hb.open_
  clear ha hb
  have H3 := Lib.hid h3
  have G3 := Lib.hid g3
  clear h3 g3
  by_cases hl : xs.length = ys.length
  · have hl' : (((xs.length : Nat) : Int) != ((ys.length : Nat) : Int)) = false := by simp [hl]
    have HL := Lib.hid hl
    clear hl
    have g4 : ys.length ≤ xs.length := by rw [HL.out]; omega
    have g5 : xs.length ≤ ys.length := by rw [HL.out]; omega
    go_enter Try.func36, Try.ntmps36
    go_wp2
    go_loopw [5] (fun i wr => ∃ k n : Nat, k ≤ xs.length ∧ i = .int .i64 k ∧ xs.take k = ys.take k ∧ wr = w.drewN n) (fun i _ => xs.length - (intOf i).toNat)
    case atStart => exact ⟨0, 0, Nat.zero_le _, rfl, rfl, rfl⟩
    case round =>
      obtain ⟨k, n, hk, rfl, ht, rfl⟩ := hrel
      have HT := Lib.hid ht
      clear ht
      by_cases hlt : k < xs.length
      · obtain ⟨ad, z, rfl, hz, hz2, hc⟩ := H3.out k hlt
        obtain ⟨ad', y, rfl, hy, hy2, hc'⟩ := G3.out k (by omega)
        have HZ := Lib.hid hz
        have HY := Lib.hid hy
        clear hz hy hz2 hy2
        go_wp2
        go_quiet (fail)
        go_wp2
        · have hne : (z != y) = true := by assumption
          go_ret
          refine ⟨ret_bool ?_, _, World.drewN_drewN _ _ _⟩
          symm
          simp only [decide_eq_false_iff_not]
          rintro rfl
          have := HZ.out.symm.trans HY.out
          simp at this hne
          exact hne this
        · have hne : (z != y) = false := by assumption
          go_roundw
          case rel => exact ⟨k + 1, _, by omega, by go_num, take_eq_succ HT.out HZ.out HY.out (by simpa using hne), rfl⟩
          case measure => simp [intOf]; omega
      · have : k = xs.length := by omega
        subst this
        go_wp2
        go_ret
        refine ⟨ret_bool ?_, _, rfl⟩
        have e := HT.out
        rw [List.take_length, List.take_of_length_le (by omega)] at e
        simp [e]
  · have hl' : (((xs.length : Nat) : Int) != ((ys.length : Nat) : Int)) = true := by simp; omega
    have HL := Lib.hid hl
    clear hl
    go_enter Try.func36, Try.ntmps36
    go_wp2
    go_ret
    refine ⟨ret_bool ?_, 0, rfl⟩
    have := HL.out
    symm
    simp only [decide_eq_false_iff_not]
    rintro rfl
    exact this rfl

set_option maxHeartbeats 400000 in
theorem l_big (w : World) (A : Option Addr) (n c : Nat) :
    Calls Try.prog 12 #[.slice A n c] w fun e w' => e = .returned (.bool (decide (4096 < n))) ∧ w = w' := by
  by_cases h : 4096 < n
  · have hd : (4096 : Int) < (n : Int) := by omega
    have HD := Lib.hid (show decide (4096 < n) = true by simp [h])
    clear h
    go_enter Try.func12, Try.ntmps12
    go_wp2_with fail
    go_ret
    exact ⟨ret_bool HD.out.symm, rfl⟩
  · have hd : ¬ ((4096 : Int) < (n : Int)) := by omega
    have HD := Lib.hid (show decide (4096 < n) = false by simp [h])
    clear h
    go_enter Try.func12, Try.ntmps12
    go_wp2_with fail
    go_ret
    exact ⟨ret_bool HD.out.symm, rfl⟩
end Go.Proofs.Ytbjeibcombjfgaa

set_option maxRecDepth 100000
set_option linter.unusedVariables false
set_option linter.unusedSimpArgs false
namespace Go.Proofs.Ytbjeibcombjfgaa
open Go.ChangeShapes Go.WideShapes Go.ChangeAt Go.RowKit

theorem u8_of_wf {z : Int} (h : (Lit.int .u8 z).wf = true) : 0 ≤ z ∧ z ≤ 255 := by
  simp [Lit.wf, IntKind.min, IntKind.max, IntKind.signed, IntKind.bits] at h
  omega
theorem open_bytes {H : Type} {enc : TypeId × Value → H} {W : World} {base : Nat} {v : Value} {d : DataW H} {p : List MemPlace}
    (hv : Value.okWide Try.prog W .any base 22 v) (h : DataW.Trod enc Try.prog W 0 (fun _ => true) true 22 v d p) : ∃ n, Bts W v n := by
  obtain ⟨a, len, cap, rfl⟩ := okWide_slice Try.underlying22 hv
  obtain ⟨fuel, hf⟩ := h
  rcases open_ints Try.underlying22 Try.underlying5 (by kernel_rfl) hf with ⟨hcs, _⟩ | ⟨x, l, c, zs, hcs, _, hl, hm, hz, _, hcell, hwz⟩
  · simp [Value.cells] at hcs
    obtain ⟨rfl, rfl, rfl⟩ := hcs
    exact ⟨0, none, 0, rfl, fun k hk => by omega⟩
  · simp [Value.cells] at hcs
    obtain ⟨rfl, rfl, rfl⟩ := hcs
    have hz' : zs.length = cap := by simpa using hz
    refine ⟨len, some x, cap, rfl, fun k hk => ?_⟩
    have hk2 : k < zs.length := by omega
    have hc := hcell k (by omega)
    have hw := u8_of_wf (hwz _ (List.getElem_mem hk2))
    have e : zs.getD k 0 = zs[k] := by simp [List.getD, hk2]
    rw [e] at hc
    have hb := World.block_lt_of_cell? W _ hc
    rw [block_add] at hb
    exact ⟨x, zs[k], rfl, hb, hb, hw.1, hw.2, hc⟩
end Go.Proofs.Ytbjeibcombjfgaa

