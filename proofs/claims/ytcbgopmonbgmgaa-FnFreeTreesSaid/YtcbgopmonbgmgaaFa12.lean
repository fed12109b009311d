/- Walk: FreeConditions of the reference. | Plain: free trees and free conditions: how many there are, each tree has its free form on the list; kernel checks. No walk. | Walks: numbers that are drawn (laws.dice): any numbers in their ranges; what the source holds is not told. | Walks: numbers that are drawn (spec.l01Source). (printed by drwgen.py) | Walks: what is drawn out of the source: picks, numbers, lists. | Walks for the law FnFreeTrees: FreeTreesOf of both sides, TreesOf, FreeForm, IsSuperfluous, DrawFreeTreesOf. | Walks of helpers of the laws: likeInts, whole9, big. -/
import Derived.Test.YtcbgopmonbgmgaaFa11
import Derived.Test.YtcbgopmonbgmgaaRows
import Derived.Test.YtcbgopmonbgmgaaFa1
import Derived.Test.YtcbgopmonbgmgaaFa2
import Derived.BigQuiet
import Derived.Deep.RegionLaw
import Derived.WalkSmall
import Derived.IntWalk
import Derived.Deep.CutRange
import Derived.Deep.CutBlock
import Derived.Deep.DeepCutAuto
import Derived.Deep.QuietTactic
import Derived.WalkLawsBesides
import Derived.Deep.RegionHeld3
set_option maxRecDepth 100000
set_option linter.unusedVariables false
set_option linter.unusedSimpArgs false
namespace Go.Proofs.Ytcbgopmonbgmgaa
open Go.RowKit

end Go.Proofs.Ytcbgopmonbgmgaa

set_option maxRecDepth 100000
set_option linter.unusedVariables false
set_option linter.unusedSimpArgs false
namespace Go.Proofs.Ytcbgopmonbgmgaa

def FrT : List (List (List Nat)) := [[], [[0]], [[0, 1]], [[0, 1, 2]], [[0, 1, 2, 3], [0, 1, 2, 2]], [[0, 1, 2, 3, 4], [0, 1, 2, 3, 3], [0, 1, 2, 2, 2]], [[0, 1, 2, 3, 4, 5], [0, 1, 2, 3, 4, 4], [0, 1, 2, 3, 4, 3], [0, 1, 2, 3, 3, 3], [0, 1, 2, 3, 3, 2], [0, 1, 2, 2, 2, 2]], [[0, 1, 2, 3, 4, 5, 6], [0, 1, 2, 3, 4, 5, 5], [0, 1, 2, 3, 4, 5, 4], [0, 1, 2, 3, 4, 4, 4], [0, 1, 2, 3, 4, 4, 3], [0, 1, 2, 3, 4, 4, 2], [0, 1, 2, 3, 4, 3, 4], [0, 1, 2, 3, 4, 3, 3], [0, 1, 2, 3, 3, 3, 3], [0, 1, 2, 3, 3, 3, 2], [0, 1, 2, 2, 2, 2, 2]], [[0, 1, 2, 3, 4, 5, 6, 7], [0, 1, 2, 3, 4, 5, 6, 6], [0, 1, 2, 3, 4, 5, 6, 5], [0, 1, 2, 3, 4, 5, 6, 4], [0, 1, 2, 3, 4, 5, 5, 5], [0, 1, 2, 3, 4, 5, 5, 4], [0, 1, 2, 3, 4, 5, 5, 3], [0, 1, 2, 3, 4, 5, 5, 2], [0, 1, 2, 3, 4, 5, 4, 5], [0, 1, 2, 3, 4, 5, 4, 4], [0, 1, 2, 3, 4, 5, 4, 3], [0, 1, 2, 3, 4, 4, 4, 4], [0, 1, 2, 3, 4, 4, 4, 3], [0, 1, 2, 3, 4, 4, 4, 2], [0, 1, 2, 3, 4, 4, 3, 4], [0, 1, 2, 3, 4, 4, 3, 3], [0, 1, 2, 3, 4, 4, 3, 2], [0, 1, 2, 3, 4, 3, 4, 3], [0, 1, 2, 3, 4, 3, 3, 3], [0, 1, 2, 3, 3, 3, 3, 3], [0, 1, 2, 3, 3, 3, 3, 2], [0, 1, 2, 3, 3, 3, 2, 2], [0, 1, 2, 2, 2, 2, 2, 2]]]
def frLen : List Nat := [0, 1, 1, 1, 2, 3, 6, 11, 23]
def cdLen : List Nat := [0, 1, 0, 1, 1, 3, 4, 11, 19]
def eqLLN : List (List Nat) → List (List Nat) → Bool
  | [], [] => true
  | x :: xs, y :: ys => eqN x y && eqLLN xs ys
  | _, _ => false
theorem eqLLN_iff : ∀ {xs ys : List (List Nat)}, eqLLN xs ys = true → xs = ys
  | [], [], _ => rfl
  | [], _ :: _, h => by cases h
  | _ :: _, [], h => by cases h
  | x :: xs, y :: ys, h => by
    unfold eqLLN at h
    rw [Bool.and_eq_true] at h
    rw [eqN_iff.1 h.1, eqLLN_iff h.2]
def memL (r : List Nat) : List (List Nat) → Bool
  | [] => false
  | x :: xs => eqN r x || memL r xs
theorem memL_iff {r : List Nat} : ∀ {xs : List (List Nat)}, memL r xs = true → r ∈ xs
  | [], h => by cases h
  | x :: xs, h => by
    unfold memL at h
    rw [Bool.or_eq_true] at h
    rcases h with h | h
    · rw [eqN_iff.1 h]; exact List.mem_cons_self
    · exact List.mem_cons_of_mem _ (memL_iff h)
def okFr (n : Nat) : Bool := eqLLN (frN n) (FrT.getD n [])
def okFm (n : Nat) : Bool := (treesN n).all fun t => match freeO t with
  | some r => memL r (FrT.getD n [])
  | none => false
def okFc (n : Nat) : Bool := Nat.beq (FrT.getD n []).length (frLen.getD n 0) && Nat.beq ((FrT.getD n []).filter fun q => !supP q).length (cdLen.getD n 0)
theorem ft1 : (List.range 7).all (fun m => okFr (m + 1)) = true := by decide +kernel
theorem ft1b : okFr 8 = true := by decide +kernel
theorem ft2 : (List.range 7).all (fun m => okFm (m + 1)) = true := by decide +kernel
theorem ft2b : okFm 8 = true := by decide +kernel
theorem ft3 : (List.range 8).all (fun m => okFc (m + 1)) = true := by decide +kernel
theorem fr_at {n : Nat} (h1 : 1 ≤ n) (h8 : n ≤ 8) : frN n = FrT.getD n [] := by
  by_cases e : n = 8
  · subst e; exact eqLLN_iff ft1b
  · have h := ft1
    rw [List.all_eq_true] at h
    have h2 := h (n - 1) (List.mem_range.2 (by omega))
    rw [show n - 1 + 1 = n by omega] at h2
    exact eqLLN_iff h2
/-- each tree has its free form on the list -/
theorem free_mem {n : Nat} (h1 : 1 ≤ n) (h8 : n ≤ 8) {t r : List Nat} (ht : t ∈ treesN n) (hr : freeO t = some r) : r ∈ frN n := by
  rw [fr_at h1 h8]
  have h2 : okFm n = true := by
    by_cases e : n = 8
    · subst e; exact ft2b
    · have h := ft2
      rw [List.all_eq_true] at h
      have h2 := h (n - 1) (List.mem_range.2 (by omega))
      rwa [show n - 1 + 1 = n by omega] at h2
  unfold okFm at h2
  rw [List.all_eq_true] at h2
  have h3 := h2 t ht
  rw [hr] at h3
  exact memL_iff h3
/-- how many there are -/
theorem free_len {n : Nat} (h1 : 1 ≤ n) (h8 : n ≤ 8) : (frN n).length = frLen.getD n 0 ∧ (cndN n).length = cdLen.getD n 0 := by
  have h := ft3
  rw [List.all_eq_true] at h
  have h2 := h (n - 1) (List.mem_range.2 (by omega))
  rw [show n - 1 + 1 = n by omega] at h2
  unfold okFc at h2
  rw [Bool.and_eq_true] at h2
  unfold cndN
  rw [fr_at h1 h8]
  exact ⟨Nat.eq_of_beq_eq_true h2.1, Nat.eq_of_beq_eq_true h2.2⟩
/-- the conditions are free forms and not superfluous -/
theorem cnd_at {n : Nat} {q : List Nat} (h : q ∈ cndN n) : freeO q = some q ∧ supP q = false := by
  unfold cndN at h
  obtain ⟨h1, h2⟩ := List.mem_filter.1 h
  unfold frN at h1
  obtain ⟨-, h3⟩ := List.mem_filter.1 h1
  refine ⟨?_, by simpa using h2⟩
  have h4 : frB q = true := by simpa using h3
  unfold frB at h4
  cases hr : freeO q with
  | none => rw [hr] at h4; cases h4
  | some r => rw [hr] at h4; rw [eqN_iff.1 h4]
end Go.Proofs.Ytcbgopmonbgmgaa

set_option maxRecDepth 100000
set_option linter.unusedVariables false
set_option linter.unusedSimpArgs false
namespace Go.Proofs.Ytcbgopmonbgmgaa
open Go.RowKit

/-- bytes that can be read, in a block below B -/
def ByB (w : World) (B : Nat) (A : Option Addr) (n : Nat) : Prop := ∀ k, k < n → ∃ ad z, A = some ad ∧ ad.block < B ∧ ad.block < w.heap.size ∧ 0 ≤ z ∧ z ≤ 255 ∧ w.cell? (ad.add k) = some (.int .u8 z)
/-- a byte slice that can be read -/
def Bts (w : World) (v : Value) (n : Nat) : Prop := ∃ A c, v = .slice A n c ∧ ByB w w.heap.size A n
/-- a source of numbers in block p: the bytes, the place, the hash -/
def Src (w : World) (B : Nat) (t : TypeId) (p : Nat) : Prop := ∃ (A : Option Addr) (n c k : Nat) (h : Int), Blk w p t #[.slice A n c, .int .i64 k, .int .u64 h] ∧ B ≤ p ∧ ByB w B A n ∧ k ≤ n ∧ n ≤ 1000000 ∧ 0 ≤ h ∧ h < 18446744073709551616
abbrev at0 (p : Nat) : Value := .pointer (some ⟨p, 0, none⟩)
theorem ByB.grown {w w' : World} {B n p : Nat} {A : Option Addr} (h : ByB w B A n) (hg : w.grownBy w' (some p)) (hp : B ≤ p) : ByB w' B A n := fun k hk => by
  obtain ⟨ad, z, rfl, h1, h2, h3, h4, h5⟩ := h k hk
  refine ⟨ad, z, rfl, h1, Nat.lt_of_lt_of_le h2 hg.size, h3, h4, ?_⟩
  have hb : w'.heap[ad.block]? = w.heap[ad.block]? := hg.block ad.block h2 (fun e => by injection e with e; omega)
  rw [← h5]
  unfold World.cell?
  simp only [block_add]
  rw [hb]
theorem gset (w : World) (g i : Nat) (u : Value) : w.grownBy (w.setCell ⟨g, i, none⟩ u) (some g) := by
  have b := Below.setCell (B := 0) (Below.refl 0 w) (p := ⟨g, i, none⟩) (Nat.zero_le _) u
  exact ⟨b.os, b.tape, b.output, b.size, fun k hk hne => Below.heap_setCell w _ u k (fun e => hne (by rw [e]))⟩
theorem w64_dr (x : Int) (h : -9223372036854775808 ≤ x ∧ x ≤ 9223372036854775807) : wrap64 x = x := by unfold wrap64; omega
theorem u64_bd (x : Int) : 0 ≤ IntKind.u64.wrap x ∧ IntKind.u64.wrap x < 18446744073709551616 := by rw [IntKind.wrap_u64]; omega
theorem bits_bd {x : Int} (h0 : 0 ≤ x) (h1 : x < 18446744073709551616) : 0 ≤ bits BinOp.and IntKind.u64 x 16777215 ∧ bits BinOp.and IntKind.u64 x 16777215 ≤ 16777215 := by
  have h := bits_and_u64_nat x.toNat 16777215 (by omega) (by omega)
  rw [Int.toNat_of_nonneg h0] at h
  have h2 : x.toNat &&& 16777215 ≤ 16777215 := Nat.and_le_right
  rw [show (16777215 : Int) = ((16777215 : Nat) : Int) from rfl, h]
  omega
/-- what one step of the hash gives -/
theorem hash_bd (z : Int) : ∃ x y : Int, x = IntKind.u64.wrap z ∧ 0 ≤ x ∧ x < 18446744073709551616 ∧ y = bits BinOp.and IntKind.u64 (x / 8589934592) 16777215 ∧ wrap64 (bits BinOp.and IntKind.u64 (x / 8589934592) 16777215) = y ∧ 0 ≤ y ∧ y ≤ 16777215 := by
  have h1 := u64_bd z
  have h2 := bits_bd (x := IntKind.u64.wrap z / 8589934592) (by omega) (by omega)
  exact ⟨_, _, rfl, h1.1, h1.2, rfl, w64_dr _ (by omega), h2.1, h2.2⟩
theorem rem_bd {x n : Int} (h0 : 0 ≤ x) (h1 : 1 ≤ n) : 0 ≤ x % n ∧ x % n < n := ⟨Int.emod_nonneg _ (by omega), Int.emod_lt_of_pos _ (by omega)⟩
theorem gtrans {w w1 w2 : World} {b : Option Nat} (h : w.grownBy w1 b) (h' : w1.grownBy w2 b) : w.grownBy w2 b :=
  ⟨h'.os.trans h.os, h'.tape.trans h.tape, h'.output.trans h.output, Nat.le_trans h.size h'.size, fun k hk hne => (h'.block k (Nat.lt_of_lt_of_le hk h.size) hne).trans (h.block k hk hne)⟩
theorem gof {w w' : World} {r : Option Nat} (h : Below w.heap.size w w') : w.grownBy w' r := ⟨h.os, h.tape, h.output, h.size, fun k hk _ => h.block k hk⟩
/-- the source is kept where others grow -/
theorem Src.kept {w w' : World} {B p : Nat} {t : TypeId} {r : Option Nat} (h : Src w B t p) (hg : w.grownBy w' r) (hne : r ≠ some p) (hr : ∀ b, r = some b → B ≤ b) : Src w' B t p := by
  obtain ⟨A, m, c, k, hs, hk, hB, hby, h1⟩ := h
  refine ⟨A, m, c, k, hs, (hg.block p hk.lt (fun e => hne e.symm)).trans hk, hB, fun j hj => ?_, h1⟩
  obtain ⟨ad, z, rfl, a1, a2, z0, z1, hc⟩ := hby j hj
  refine ⟨ad, z, rfl, a1, Nat.lt_of_lt_of_le a2 hg.size, z0, z1, ?_⟩
  have hb : w'.heap[ad.block]? = w.heap[ad.block]? := hg.block ad.block a2 (fun e => by have := hr _ e.symm; omega)
  rw [← hc]
  unfold World.cell?
  simp only [block_add]
  rw [hb]
theorem Src.below {w w' : World} {B p : Nat} {t : TypeId} (h : Src w B t p) (hg : Below w.heap.size w w') : Src w' B t p := h.kept (r := none) (gof hg) (by simp) (by simp)
theorem Src.ge {w : World} {B p : Nat} {t : TypeId} (h : Src w B t p) : B ≤ p := by obtain ⟨A, m, c, k, hs, hk, hB, -⟩ := h; exact hB
theorem Src.lt {w : World} {B p : Nat} {t : TypeId} (h : Src w B t p) : p < w.heap.size := by obtain ⟨A, m, c, k, hs, hk, hB, -⟩ := h; exact hk.lt
end Go.Proofs.Ytcbgopmonbgmgaa

set_option maxRecDepth 100000
set_option linter.unusedVariables false
set_option linter.unusedSimpArgs false
namespace Go.Proofs.Ytcbgopmonbgmgaa
open Go.RowKit

abbrev tSc : TypeId := 103
set_option maxHeartbeats 4000000 in
theorem s_l01Next (w : World) (B p : Nat) (n : Int) (h : Src w B tSc p) (hn : n ≤ 4611686018427387904) (hn0 : 1 ≤ n) :
    Calls Try.prog 97 #[at0 p, .int .i64 n] w fun e w' => ∃ x, e = .returned (.int .i64 x) ∧ 0 ≤ x ∧ x < n ∧ w.grownBy w' (some p) ∧ Src w' B tSc p := by
  obtain ⟨A, m, c, k, hs, hk, hB, hby, hkm, hm, h0, h1⟩ := h
  have HK := Lib.hid hk
  have HBY := Lib.hid hby
  have k2 : w.cell? ⟨p, 2, none⟩ = some (.int .u64 hs) := hk.cell 2
  have f2 : w.frozen? ⟨p, 2, none⟩ = false := hk.frozen 2
  clear hk hby
  go_enter Try.func97, Try.ntmps97
  go_upto_region 5 with fail
  obtain ⟨x, y, hx, x0, x1, hy, hw, y0, y1⟩ := hash_bd (IntKind.u64.wrap (hs * 6364136223846793005) + 1442695040888963407)
  rw [← hx, hw, ← hy]
  clear hx hy hw h0 h1 f2 k2
  have HK1 := Lib.hid (HK.out.set_ 2 (.int .u64 x))
  have HG1 := Lib.hid (gset w p 2 (.int .u64 x))
  generalize w.setCell ⟨p, 2, none⟩ (.int .u64 x) = w1 at HK1 HG1 ⊢
  generalize x / 8589934592 = x9
  generalize IntKind.u64.wrap (hs * 6364136223846793005) = x8
  have HBY1 := Lib.hid (HBY.out.grown HG1.out hB)
  have HK1 := Lib.hid (show Blk w1 p tSc #[.slice A m c, .int .i64 k, .int .u64 x] from HK1.out)
  have k0 : w1.cell? ⟨p, 0, none⟩ = some (.slice A m c) := HK1.out.cell 0
  have k1 : w1.cell? ⟨p, 1, none⟩ = some (.int .i64 k) := HK1.out.cell 1
  have f1 : w1.frozen? ⟨p, 1, none⟩ = false := HK1.out.frozen 1
  clear HK HBY
  by_cases hlt : k < m
  · obtain ⟨ad, z, rfl, a1, a2, z0, z1, hc⟩ := HBY1.out k hlt
    have hkk : (k : Int) < (m : Int) := by omega
    have hw1 : wrap64 (y + z) = y + z := w64_dr _ (by omega)
    have hwk : wrap64 ((k : Int) + 1) = (k : Int) + 1 := w64_dr _ (by omega)
    clear a1 a2
    go_quiet (fail)
    go_upto_region 6 with fail
    rename Nat => nq0
    have k0' : (w1.drewN nq0).cell? ⟨p, 0, none⟩ = some (.slice (some ad) m c) := k0
    have k1' : (w1.drewN nq0).cell? ⟨p, 1, none⟩ = some (.int .i64 k) := k1
    have hc' : (w1.drewN nq0).cell? (ad.add k) = some (.int .u8 z) := hc
    go_quiet (fail)
    go_wp2_with fail
    go_ret
    obtain ⟨r0, r1⟩ := rem_bd (x := y + z) (n := n) (by omega) hn0
    have HB2 : w1.grownBy ((w1.drewN (nq0 + nq)).setCell ⟨p, 1, none⟩ (.int .i64 ((k : Int) + 1))) (some p) := gtrans (gof (below_drewN (Below.refl _ _) _)) (gset _ _ _ _)
    exact ⟨_, rfl, r0, r1, gtrans HG1.out HB2, some ad, m, c, k + 1, x, by simpa using (HK1.out.drewN _).set_ 1 (.int .i64 ((k : Int) + 1)), hB, HBY1.out.grown HB2 hB, hlt, hm, x0, x1⟩
  · have hkk : ¬ ((k : Int) < (m : Int)) := by omega
    go_quiet (fail)
    go_wp2_with fail
    go_ret
    obtain ⟨r0, r1⟩ := rem_bd (x := y) (n := n) (by omega) hn0
    rename Nat => nq0
    have HB2 : w1.grownBy (w1.drewN nq0) (some p) := gof (below_drewN (Below.refl _ _) _)
    exact ⟨_, rfl, r0, r1, gtrans HG1.out HB2, A, m, c, k, x, HK1.out.drewN _, hB, HBY1.out.grown HB2 hB, hkm, hm, x0, x1⟩
set_option maxHeartbeats 4000000 in
theorem s_l01From (w : World) (A : Option Addr) (n c : Nat) (hb : ByB w w.heap.size A n) (hn : n ≤ 4096) :
    Calls Try.prog 49 #[.slice A n c] w fun e w' => ∃ p, e = .returned (at0 p) ∧ Src w' w.heap.size tSc p ∧ Below w.heap.size w w' := by
  have HBY := Lib.hid hb
  have hs2 : 0 ≤ 5381 + (n : Int) ∧ 5381 + (n : Int) < 18446744073709551616 := by omega
  clear hb
  go_enter Try.func49, Try.ntmps49
  go_wp2_with fail
  obtain ⟨h0, hh0⟩ : ∃ h0, h0 = 5381 + (n : Int) := ⟨_, rfl⟩
  rw [← hh0] at hs2 ⊢
  obtain ⟨W, hW⟩ : ∃ W, W = w.alloc (Obj.cells #[Value.slice A n c, Value.int IntKind.i64 0, Value.int IntKind.u64 h0] tSc) := ⟨_, rfl⟩
  have HBW := Lib.hid (show Below w.heap.size w W from by rw [hW]; exact below1 w _)
  have HK := Lib.hid (show Blk W w.heap.size tSc #[Value.slice A n c, Value.int IntKind.i64 0, Value.int IntKind.u64 h0] from by rw [hW]; exact Blk.new _ _ _)
  rw [← hW]
  clear hW hh0
  obtain ⟨g0, g1⟩ := hs2
  go_loopw [4] (fun x wr => ∃ (j : Nat) (h : Int), j ≤ n ∧ x = .int .i64 j ∧ 0 ≤ h ∧ h < 18446744073709551616 ∧ Blk wr w.heap.size tSc #[Value.slice A n c, Value.int IntKind.i64 0, Value.int IntKind.u64 h] ∧ Below w.heap.size w wr) (fun x _ => n - (intOf x).toNat)
  case atStart => exact ⟨0, h0, Nat.zero_le _, rfl, g0, g1, HK.out, HBW.out⟩
  case round =>
    obtain ⟨j, h, hj, rfl, q0, q1, hk, hb⟩ := hrel
    rename World => wq
    clear HK HBW
    have HK := Lib.hid hk
    have HB := Lib.hid hb
    have k2 : wq.cell? ⟨w.heap.size, 2, none⟩ = some (.int .u64 h) := hk.cell 2
    have f2 : wq.frozen? ⟨w.heap.size, 2, none⟩ = false := hk.frozen 2
    clear hk hb
    by_cases hlt : j < n
    · have hj4 : (j : Int) < 4096 := by omega
      have hjj : (j : Int) < (n : Int) := by omega
      obtain ⟨ad, z, rfl, a1, a2, z0, z1, hc⟩ := HBY.out j hlt
      have hc1 : wq.cell? (ad.add j) = some (.int .u8 z) := by rw [HB.out.cell (by rw [block_add]; exact a1)]; exact hc
      have hjk : wrap64 ((j : Int) + 1) = (j : Int) + 1 := w64_dr _ (by omega)
      clear a1 a2 hc
      go_upto_region 5 with fail
      go_region_law (fail)
      all_goals
        obtain ⟨y, hy⟩ : ∃ y, y = IntKind.u64.wrap (IntKind.u64.wrap (IntKind.u64.wrap (h * 1099511628211) + IntKind.u64.wrap z) + 11) := ⟨_, rfl⟩
        obtain ⟨b0, b1⟩ : 0 ≤ y ∧ y < 18446744073709551616 := by rw [hy]; exact u64_bd _
        rw [← hy]
        clear hy
        go_wp2_with fail
        go_roundw
        case rel =>
          exact ⟨j + 1, _, by omega, by go_num, b0, b1, (HK.out.set_ 2 _).drewN 1, (HB.out.setCell (Nat.le_refl _) _).drew⟩
        case measure => simp [intOf]; omega
    · have hjn : j = n := by omega
      subst hjn
      go_wp2_with fail
      go_ret
      exact ⟨_, rfl, ⟨A, j, c, 0, h, HK.out, Nat.le_refl _, fun k hk => by obtain ⟨ad, z, e, a1, a2, z0, z1, hc⟩ := HBY.out k hk; exact ⟨ad, z, e, a1, Nat.lt_of_lt_of_le a1 HB.out.size, z0, z1, by rw [HB.out.cell (by rw [block_add]; exact a1)]; exact hc⟩, Nat.zero_le _, (by omega), q0, q1⟩, HB.out⟩
end Go.Proofs.Ytcbgopmonbgmgaa

set_option maxRecDepth 100000
set_option linter.unusedVariables false
set_option linter.unusedSimpArgs false
namespace Go.Proofs.Ytcbgopmonbgmgaa
open Go.RowKit

/-- a literal list of numbers is kept where the source changes -/
theorem lit_keep (w : World) (p : Nat) (zs : List Int) (hz : ∀ z ∈ zs, In64 z) (hl : zs.length ≤ 1000) (hp : p < w.heap.size) :
    ∀ W, (w.alloc (.cells (ints zs).toArray tI)).grownBy W (some p) → Ints W (.slice (some ⟨w.heap.size, 0, none⟩) zs.length zs.length) zs := fun W hg => by
  have h := own_lit w tI (ints zs) (by rw [ints_len]; simp [maxLen]; omega)
  rw [ints_len] at h
  exact ⟨(h.kept hg (.inr (fun e => by simp [Value.ownBlock] at e; omega))).cells, hz⟩
set_option maxHeartbeats 4000000 in
theorem s_l01Pick (w : World) (B p : Nat) (v : Value) (zs : List Int) (h : Src w B tSc p) (hv : ∀ W, w.grownBy W (some p) → Ints W v zs) (h1 : 1 ≤ zs.length) (h2 : zs.length ≤ 1000) :
    Calls Try.prog 51 #[at0 p, v] w fun e w' => ∃ z, e = .returned (.int .i64 z) ∧ z ∈ zs ∧ w.grownBy w' (some p) ∧ Src w' B tSc p := by
  obtain ⟨A, c, rfl, g1, g2, g3⟩ := (hv w (World.grownBy.refl _ _)).open_
  have HV := Lib.hid hv
  have HN := Lib.hid (s_l01Next w B p (zs.length : Nat) h (by omega) (by omega))
  clear g3 h hv
  go_enter Try.func51, Try.ntmps51
  go_wp2_with (go_at_call 97; go_loud (refine HN.out.mono ?_; rintro e w1 ⟨x, rfl, x0, x1, hg, hs⟩; obtain ⟨k, rfl⟩ : ∃ k : Nat, x = k := ⟨x.toNat, by omega⟩; obtain ⟨A', c', he, -, -, g3⟩ := (HV.out w1 hg).open_; (simp only [Value.slice.injEq] at he); obtain ⟨rfl, -, rfl⟩ := he; obtain ⟨ad, z, rfl, hz, hz2, hc⟩ := g3 k (by omega); have HZ := Lib.hid (List.mem_of_getElem? hz); have HG := Lib.hid hg; have HS := Lib.hid hs; have hkl : k < zs.length := (by omega); clear g3 hz hz2 hg hs x0 x1))
  go_ret
  exact ⟨_, rfl, HZ.out, HG.out, HS.out⟩
end Go.Proofs.Ytcbgopmonbgmgaa

set_option maxRecDepth 100000
set_option linter.unusedVariables false
set_option linter.unusedSimpArgs false
namespace Go.Proofs.Ytcbgopmonbgmgaa
open Go.RowKit

/-- what FreeTreesOf answers -/
def ftR (n : Int) : List (List Nat) := if inR n 1 8 then frN n.toNat else []
def ftC (n : Int) : Int := if inR n 1 8 then 0 else 2
def ftD (n : Int) : List (List Nat) := if inR n 1 8 then cndN n.toNat else []
def ftT (n : Int) : List (List Nat) := if inR n 1 8 then treesN n.toNat else []
theorem i_FreeTreesOf (w : World) (n : Int) (hn : In64 n) :
    Calls Try.prog 28 #[.int .i64 n] w fun e w' => ∃ x, e = .returned (.tuple #[x, .int .i64 (ftC n)]) ∧ LA w' w.heap.size x ((ftR n).map up) ∧ Below w.heap.size w w' := by
  cases h : inR n 1 8 with
  | false =>
    have HC := Lib.hid (show ftC n = 2 by simp [ftC, h])
    have HR := Lib.hid (show ftR n = [] by simp [ftR, h])
    rw [HC.out, HR.out]
    go_enter Try.func28, Try.ntmps28
    go_wp2_with (go_at_call 53; refine (i_inRange _ _ _ _).mono ?_; rintro e w' ⟨rfl, rfl⟩; rw [h])
    go_ret2
    exact ⟨_, rfl, LA.nil _ _, Below.refl _ _⟩
  | true =>
    have HC := Lib.hid (show ftC n = 0 by simp [ftC, h])
    have HR := Lib.hid (show ftR n = frN n.toNat by simp [ftR, h])
    rw [HC.out, HR.out]
    have h2 := inR_iff.1 h
    obtain ⟨k, rfl⟩ : ∃ k : Nat, n = (k : Int) := ⟨n.toNat, by omega⟩
    rw [Int.toNat_natCast]
    have h1 : 1 ≤ k := by omega
    have h8 : k ≤ 8 := by omega
    clear h2 HC HR
    go_enter Try.func28, Try.ntmps28
    go_wp2_with (first
      | (go_at_call 53; refine (i_inRange _ _ _ _).mono ?_; rintro e w' ⟨rfl, rfl⟩; rw [h])
      | (go_at_call 75; refine (i_freeTreesOf _ k h1 h8).mono ?_; rintro e w1 ⟨x1, rfl, hl1, hb1⟩; have HL1 := Lib.hid hl1; have HB1 := Lib.hid hb1; clear hl1 hb1))
    go_ret2
    exact ⟨_, rfl, HL1.out, HB1.out⟩
theorem i_FreeConditionsA (w : World) (n : Int) (hn : In64 n) :
    Calls Try.prog 30 #[.int .i64 n] w fun e w' => ∃ x, e = .returned (.tuple #[x, .int .i64 (ftC n)]) ∧ LA w' w.heap.size x ((ftD n).map up) ∧ Below w.heap.size w w' := by
  cases h : inR n 1 8 with
  | false =>
    have HC := Lib.hid (show ftC n = 2 by simp [ftC, h])
    have HR := Lib.hid (show ftD n = [] by simp [ftD, h])
    rw [HC.out, HR.out]
    go_enter Try.func30, Try.ntmps30
    go_wp2_with (go_at_call 53; refine (i_inRange _ _ _ _).mono ?_; rintro e w' ⟨rfl, rfl⟩; rw [h])
    go_ret2
    exact ⟨_, rfl, LA.nil _ _, Below.refl _ _⟩
  | true =>
    have HC := Lib.hid (show ftC n = 0 by simp [ftC, h])
    have HR := Lib.hid (show ftD n = cndN n.toNat by simp [ftD, h])
    rw [HC.out, HR.out]
    have h2 := inR_iff.1 h
    obtain ⟨k, rfl⟩ : ∃ k : Nat, n = (k : Int) := ⟨n.toNat, by omega⟩
    rw [Int.toNat_natCast]
    have h1 : 1 ≤ k := by omega
    have h8 : k ≤ 8 := by omega
    clear h2 HC HR
    go_enter Try.func30, Try.ntmps30
    go_wp2_with (first
      | (go_at_call 53; refine (i_inRange _ _ _ _).mono ?_; rintro e w' ⟨rfl, rfl⟩; rw [h])
      | (go_at_call 79; refine (i_freeConditions _ k h1 h8).mono ?_; rintro e w1 ⟨x1, rfl, hl1, hb1⟩; have HL1 := Lib.hid hl1; have HB1 := Lib.hid hb1; clear hl1 hb1))
    go_ret2
    exact ⟨_, rfl, HL1.out, HB1.out⟩
theorem i_TreesOf (w : World) (n : Int) (hn : In64 n) :
    Calls Try.prog 34 #[.int .i64 n] w fun e w' => ∃ x, e = .returned (.tuple #[x, .int .i64 (ftC n)]) ∧ LA w' w.heap.size x ((ftT n).map up) ∧ Below w.heap.size w w' := by
  cases h : inR n 1 8 with
  | false =>
    have HC := Lib.hid (show ftC n = 2 by simp [ftC, h])
    have HR := Lib.hid (show ftT n = [] by simp [ftT, h])
    rw [HC.out, HR.out]
    go_enter Try.func34, Try.ntmps34
    go_wp2_with (go_at_call 53; refine (i_inRange _ _ _ _).mono ?_; rintro e w' ⟨rfl, rfl⟩; rw [h])
    go_ret2
    exact ⟨_, rfl, LA.nil _ _, Below.refl _ _⟩
  | true =>
    have HC := Lib.hid (show ftC n = 0 by simp [ftC, h])
    have HR := Lib.hid (show ftT n = treesN n.toNat by simp [ftT, h])
    rw [HC.out, HR.out]
    have h2 := inR_iff.1 h
    obtain ⟨k, rfl⟩ : ∃ k : Nat, n = (k : Int) := ⟨n.toNat, by omega⟩
    rw [Int.toNat_natCast]
    have h1 : 1 ≤ k := by omega
    have h8 : k ≤ 8 := by omega
    clear h2 HC HR
    go_enter Try.func34, Try.ntmps34
    go_wp2_with (first
      | (go_at_call 53; refine (i_inRange _ _ _ _).mono ?_; rintro e w' ⟨rfl, rfl⟩; rw [h])
      | (go_at_call 83; refine (i_treesOf _ k h1 h8).mono ?_; rintro e w1 ⟨x1, rfl, hl1, hb1⟩; have HL1 := Lib.hid hl1; have HB1 := Lib.hid hb1; clear hl1 hb1))
    go_ret2
    exact ⟨_, rfl, HL1.out, HB1.out⟩
theorem isT_of {t : List Nat} (hl : lvl t = true) (h8 : t.length ≤ 8) : isT (up t) = true := by
  have h := lev8 (p := fun t => isT (up t)) (by decide +kernel) hl h8
  exact h
theorem i_FreeForm0 (w : World) (v : Value) (t r : List Nat) (ha : Ints w v (up t)) (ht : lvl t = true) (h8 : t.length ≤ 8) (hr : freeO t = some r) :
    Calls Try.prog 32 #[v] w fun e w' => ∃ x, e = .returned (.tuple #[x, .int .i64 0]) ∧ OwnInts w' w.heap.size tI x (up r) ∧ Below w.heap.size w w' := by
  have HI := Lib.hid (i_IsLevels w v (up t) ha)
  rw [isT_of ht h8] at HI
  have HF := Lib.hid (i_freeForm w v t r ha ht h8 (lvl_le1 ht h8) hr)
  obtain ⟨A, c, rfl, -, -, -⟩ := ha.open_
  clear ha hr
  go_enter Try.func32, Try.ntmps32
  go_wp2_with (first
    | (go_at_call 80; refine HI.out.mono ?_; rintro e w' ⟨rfl, rfl⟩)
    | (go_at_call 82; refine HF.out.mono ?_; rintro e w1 ⟨x1, rfl, hl1, hb1⟩; have HL1 := Lib.hid hl1; have HB1 := Lib.hid hb1; clear hl1 hb1))
  go_ret2
  exact ⟨_, rfl, HL1.out, HB1.out⟩
theorem i_IsSuperfluous0 (w : World) (v : Value) (t : List Nat) (ha : Ints w v (up t)) (ht : lvl t = true) (h8 : t.length ≤ 8) :
    Calls Try.prog 31 #[v] w fun e w' => e = .returned (.tuple #[.bool (supP t), .int .i64 0]) ∧ Below w.heap.size w w' := by
  have HI := Lib.hid (i_IsLevels w v (up t) ha)
  rw [isT_of ht h8] at HI
  obtain ⟨c, hc, hcl, hcc⟩ := canO_8 ht h8
  have hs := i_isSuperfluous w v t c ha h8 (lvl_le1 ht h8) hc hcl hcc
  have e : supP t = supB c := by unfold supP; rw [hc]
  rw [← e] at hs
  have HF := Lib.hid hs
  obtain ⟨A, c, rfl, -, -, -⟩ := ha.open_
  clear ha hs hc hcl hcc e
  go_enter Try.func31, Try.ntmps31
  go_wp2_with (first
    | (go_at_call 80; refine HI.out.mono ?_; rintro e w' ⟨rfl, rfl⟩)
    | (go_at_call 81; refine HF.out.mono ?_; rintro e w1 ⟨rfl, hb1⟩; have HB1 := Lib.hid hb1; clear hb1))
  go_ret2
  exact ⟨rfl, HB1.out⟩
set_option maxHeartbeats 16000000 in
theorem s_FreeTreesOf (w : World) (n : Int) (hn : In64 n) :
    Calls Try.prog 29 #[.int .i64 n] w fun e w' => ∃ x, e = .returned (.tuple #[x, .int .i64 (ftC n)]) ∧ Below w.heap.size w w' := by
  cases h : inR n 1 8 with
  | false =>
    have HC := Lib.hid (show ftC n = 2 by simp [ftC, h])
    rw [HC.out]
    go_enter Try.func29, Try.ntmps29
    go_wp2_with (go_at_call 59; refine (s_l01In _ _ _ _).mono ?_; rintro e w' ⟨rfl, rfl⟩; rw [h])
    go_ret2
    exact ⟨_, rfl, Below.refl _ _⟩
  | true =>
    have HC := Lib.hid (show ftC n = 0 by simp [ftC, h])
    rw [HC.out]
    have h2 := inR_iff.1 h
    obtain ⟨k, rfl⟩ : ∃ k : Nat, n = (k : Int) := ⟨n.toNat, by omega⟩
    have h1 : 1 ≤ k := by omega
    have h8 : k ≤ 8 := by omega
    clear h2 HC
    have HAT := Lib.hid (fun t ht => okRo_at (t := t) h1 h8 ht)
    have HTN := Lib.hid (treesN_at h1 h8)
    go_enter Try.func29, Try.ntmps29
    go_wp2_with (first
      | (go_at_call 59; refine (s_l01In _ _ _ _).mono ?_; rintro e w' ⟨rfl, rfl⟩; rw [h])
      | (go_at_call 76; go_loud (refine (s_l03Trees _ k h1 h8).mono ?_; rintro e w1 ⟨x1, rfl, hl1, hb1⟩; obtain ⟨vs, hown, hrr, hap⟩ := hl1; have hvl : vs.length = (treesN k).length := hrr.1.trans (List.length_map ..); obtain ⟨Ao, co, rfl, -, -⟩ := hown.cells.open_; rw [hvl] at hown ⊢; have HVL := Lib.hid hvl; have HOA := Lib.hid hown; have HRA := Lib.hid hrr; have HB1 := Lib.hid hb1; have OL := Lib.hid (own_lit w1 tL [] (by simp [maxLen])); clear hown hrr hap hvl hb1)))
    generalize hT : treesN k = T at HAT HTN HVL HOA HRA ⊢
    have HTL := Lib.hid HTN.out.1
    have htb := HTL.out
    go_loopw [5, 6] (fun o x wr => ∃ (j : Nat) (us : List Value), j ≤ T.length ∧ x = .int .i64 j ∧ Own wr w1.heap.size tL o us ∧ us.length ≤ j ∧ Below w1.heap.size w1 wr) (fun _ x _ => T.length - (intOf x).toNat)
    case atStart => exact ⟨0, [], Nat.zero_le _, rfl, OL.out, by simp, below1 _ _⟩
    case round =>
      obtain ⟨j, us, hj, rfl, ho, hsub, hb⟩ := hrel
      clear OL
      have HO := Lib.hid ho
      have HSU := Lib.hid hsub
      have HB := Lib.hid hb
      have HUL := Lib.hid (show us.length ≤ 115 from by have h2 := HTL.out; omega)
      clear ho hsub hb
      by_cases hlt : j < T.length
      · have hq : T[j]? = some (T[j]'hlt) := List.getElem?_eq_getElem _
        have hu : vs[j]? = some (vs[j]'(by rw [HVL.out]; exact hlt)) := List.getElem?_eq_getElem _
        have hmem : T[j]'hlt ∈ T := List.getElem_mem _
        have hrow := HRA.out.2 j _ _ hu (by rw [List.getElem?_map, hq]; rfl)
        obtain ⟨ad, n', c', he, hc0⟩ := HOA.out.cells.at_ hu
        simp only [Value.slice.injEq] at he
        obtain ⟨rfl, rfl, rfl⟩ := he
        obtain ⟨hql, hqv, hqc, -⟩ := HTN.out.2 _ hmem
        obtain ⟨r, kk, xs', hro, hfr, hdb⟩ := HAT.out _ hmem
        generalize T[j]'hlt = q at *
        generalize vs[j]'(by rw [HVL.out]; exact hlt) = u at *
        obtain ⟨Au, cu, rfl, -, -, -⟩ := hrow.ints.open_
        rw [up_len] at hrow hu hc0
        have HROW := Lib.hid hrow
        have hq8 : q.length ≤ 8 := by omega
        have hq0 : 0 < q.length := by omega
        have HRO := Lib.hid (fun W (h : Ints W (.slice Au q.length cu) (up q)) => s_l04Roots W _ q _ h (by omega) hro)
        have HSM := Lib.hid (fun W y (hy : Ints W y (up r)) (h : Ints W (.slice Au q.length cu) (up q)) => s_l01Same W y (.slice Au q.length cu) (up r) (up q) hy h)
        have hji : (j : Int) < (T.length : Int) := by omega
        have hcw := keepCell HB.out hc0
        have HC0 := Lib.hid hc0
        clear hq hu hmem hrow hql hqv hqc hro hfr hdb hc0
        generalize decide (up r = up q) = dd at HSM
        have HBC := Lib.hid (show Below w1.heap.size w1 wr.drew from HB.out.drew)
        go_wp2_with fail
        cases dd with
        | false =>
          first | go_region_law (first
            | (go_simp; go_at_call 78; go_loud ((with_reducible refine (HRO.out _ (HROW.out.below HBC.out).ints).mono ?_); rintro e w2 ⟨x2, rfl, ho2, hb2⟩; have HBX := Lib.hid (show Below wr.heap.size wr w2 from Below.trans (Below.refl wr.heap.size wr).drew hb2); have HBC := Lib.hid (HBC.out.trans (hb2.mono HBC.out.size)); obtain ⟨g, cap, A2, c2, he, hc2, -, hr2⟩ := ho2.at_ (k := 0) rfl; subst he; have hc2' : w2.cell? ⟨g, 0, none⟩ = some (.slice A2 r.length c2) := hc2; have hcw2 := keepCell HBC.out HC0.out; have HR2 := Lib.hid hr2; have hp2 : 0 < ((r, kk) :: xs').length := (by simp); clear hc2 ho2 hb2))
            | (go_simp; go_at_call 77; (with_reducible refine (HSM.out _ _ HR2.out.ints (HROW.out.below HBC.out).ints).mono ?_); rintro e w3 ⟨rfl, n3, rfl⟩; have HBC := Lib.hid (below_drewN HBC.out n3); have HBX := Lib.hid (below_drewN HBX.out n3))) | fail
          all_goals
            go_wp2_with fail
            go_roundw
            case rel =>
              exact ⟨j + 1, us, by omega, by go_num, HO.out.below HBX.out, by have := HSU.out; omega, HBC.out⟩
            case measure => simp [intOf]; omega
        | true =>
          first | go_region_law (first
            | (go_simp; go_at_call 78; go_loud ((with_reducible refine (HRO.out _ (HROW.out.below HBC.out).ints).mono ?_); rintro e w2 ⟨x2, rfl, ho2, hb2⟩; have HBX := Lib.hid (show Below wr.heap.size wr w2 from Below.trans (Below.refl wr.heap.size wr).drew hb2); have HBC := Lib.hid (HBC.out.trans (hb2.mono HBC.out.size)); obtain ⟨g, cap, A2, c2, he, hc2, -, hr2⟩ := ho2.at_ (k := 0) rfl; subst he; have hc2' : w2.cell? ⟨g, 0, none⟩ = some (.slice A2 r.length c2) := hc2; have hcw2 := keepCell HBC.out HC0.out; have HR2 := Lib.hid hr2; have hp2 : 0 < ((r, kk) :: xs').length := (by simp); clear hc2 ho2 hb2))
            | (go_simp; go_at_call 77; (with_reducible refine (HSM.out _ _ HR2.out.ints (HROW.out.below HBC.out).ints).mono ?_); rintro e w3 ⟨rfl, n3, rfl⟩; have HBC := Lib.hid (below_drewN HBC.out n3); have HBX := Lib.hid (below_drewN HBX.out n3))) | fail
          all_goals
            have hcw5 := keepCell HBC.out HC0.out
            have HO5 := Lib.hid (HO.out.below HBX.out)
            have HB5 := Lib.hid HBC.out
            go_wp2_with (at_builtin; go_loud (refine wpList_app1 T_row HO5.out (by have := HUL.out; omega) HB5.out.size (by rfl) rfl (by rfl) (by rfl) (by rfl) ?_; intro v1 w5 hown1 hgr1; have HN1 := Lib.hid hown1; have HGR := Lib.hid hgr1; clear hown1 hgr1))
            go_roundw
            case rel =>
              exact ⟨j + 1, us ++ [.slice Au q.length cu], by omega, by go_num, HN1.out, by have := HSU.out; simp; omega, HGR.out.below HB5.out HB5.out.size HO5.out.ge⟩
            case measure => simp [intOf]; omega
      · have hjl : j = T.length := by omega
        go_wp2_with fail
        go_ret2
        exact ⟨_, rfl, HB1.out.trans (HB.out.mono HB1.out.size)⟩
set_option maxHeartbeats 4000000 in
theorem s_DrawTreesOf (w : World) (A : Option Addr) (N c : Nat) (hb : ByB w w.heap.size A N) (hN : N ≤ 4096) :
    Calls Try.prog 74 #[.slice A N c] w fun e w' => ∃ k : Nat, e = .returned (.int .i64 k) ∧ k ≤ 9 ∧ Below w.heap.size w w' := by
  have HFR := Lib.hid (s_l01From w A N c hb hN)
  clear hb
  go_enter Try.func74, Try.ntmps74
  go_wp2_with (first
    | (go_at_call 49; go_loud (refine HFR.out.mono ?_; rintro e w1 ⟨p, rfl, hs1, hb1⟩; have HS1 := Lib.hid hs1; have HB1 := Lib.hid hb1; have hpl := hs1.lt; have hpg := hs1.ge; clear hs1 hb1))
    | (go_at_call 51; go_loud (refine (s_l01Pick _ _ p _ [1, 2, 3, 4, 5, 6, 7, 8, 0, 9] (HS1.out.below (below1 w1 (.cells (ints [1, 2, 3, 4, 5, 6, 7, 8, 0, 9]).toArray tI))) (lit_keep w1 p [1, 2, 3, 4, 5, 6, 7, 8, 0, 9] (by intro z hz; simp at hz; unfold In64; omega) (by simp) hpl) (by simp) (by simp)).mono ?_; rintro e w4 ⟨y, rfl, hy, hg, hs⟩; have HY := Lib.hid hy; have HG4 := Lib.hid (gtrans (gof (below1 w1 _)) hg); clear hg hs hy)))
  go_ret
  obtain ⟨k, hk, hk9⟩ : ∃ k : Nat, y = k ∧ k ≤ 9 := ⟨y.toNat, by have := HY.out; simp at this; omega, by have := HY.out; simp at this; omega⟩
  subst hk
  exact ⟨k, rfl, hk9, HB1.out.grown HG4.out HB1.out.size (fun k e => by injection e with e; omega)⟩
theorem s_DrawFreeTreesOf (w : World) (A : Option Addr) (N c : Nat) (hb : ByB w w.heap.size A N) (hN : N ≤ 4096) :
    Calls Try.prog 27 #[.slice A N c] w fun e w' => ∃ k : Nat, e = .returned (.int .i64 k) ∧ k ≤ 9 ∧ Below w.heap.size w w' := by
  have HFR := Lib.hid (s_DrawTreesOf w A N c hb hN)
  clear hb
  go_enter Try.func27, Try.ntmps27
  go_wp2_with (go_at_call 74; refine HFR.out.mono ?_; rintro e w1 ⟨k, rfl, hk, hb1⟩; have HK := Lib.hid hk; have HB1 := Lib.hid hb1; clear hk hb1)
  go_ret
  exact ⟨k, rfl, HK.out, HB1.out⟩
end Go.Proofs.Ytcbgopmonbgmgaa

set_option maxRecDepth 100000
set_option linter.unusedVariables false
set_option linter.unusedSimpArgs false
namespace Go.Proofs.Ytcbgopmonbgmgaa
open Go.RowKit

set_option maxHeartbeats 400000 in
theorem l_likeInts (w : World) (a b : Value) (xs ys : List Int) (ha : Ints w a xs) (hb : Ints w b ys) :
    Calls Try.prog 33 #[a, b] w fun e w' => e = .returned (.bool (decide (xs = ys))) ∧ ∃ n, w' = w.drewN n := by
  obtain ⟨A, c, rfl, h1, h2, h3⟩ := ha.open_
  obtain ⟨B, d, rfl, g1, g2, g3⟩ := hb.open_
  clear ha hb
  have H3 := Lib.hid h3
  have G3 := Lib.hid g3
  clear h3 g3
  by_cases hl : xs.length = ys.length
  · have hl' : (((xs.length : Nat) : Int) != ((ys.length : Nat) : Int)) = false := by simp [hl]
    have HL := Lib.hid hl
    clear hl
    have g4 : ys.length ≤ xs.length := by rw [HL.out]; omega
    have g5 : xs.length ≤ ys.length := by rw [HL.out]; omega
    go_enter Try.func33, Try.ntmps33
    go_wp2
    go_loopw [5] (fun i wr => ∃ k n : Nat, k ≤ xs.length ∧ i = .int .i64 k ∧ xs.take k = ys.take k ∧ wr = w.drewN n) (fun i _ => xs.length - (intOf i).toNat)
    case atStart => exact ⟨0, 0, Nat.zero_le _, rfl, rfl, rfl⟩
    case round =>
      obtain ⟨k, n, hk, rfl, ht, rfl⟩ := hrel
      have HT := Lib.hid ht
      clear ht
      by_cases hlt : k < xs.length
      · obtain ⟨ad, z, rfl, hz, hz2, hc⟩ := H3.out k hlt
        obtain ⟨ad', y, rfl, hy, hy2, hc'⟩ := G3.out k (by omega)
        have HZ := Lib.hid hz
        have HY := Lib.hid hy
        clear hz hy hz2 hy2
        go_wp2
        go_quiet (fail)
        go_wp2
        · have hne : (z != y) = true := by assumption
          go_ret
          refine ⟨ret_bool ?_, _, World.drewN_drewN _ _ _⟩
          symm
          simp only [decide_eq_false_iff_not]
          rintro rfl
          have := HZ.out.symm.trans HY.out
          simp at this hne
          exact hne this
        · have hne : (z != y) = false := by assumption
          go_roundw
          case rel => exact ⟨k + 1, _, by omega, by go_num, take_eq_succ HT.out HZ.out HY.out (by simpa using hne), rfl⟩
          case measure => simp [intOf]; omega
      · have : k = xs.length := by omega
        subst this
        go_wp2
        go_ret
        refine ⟨ret_bool ?_, _, rfl⟩
        have e := HT.out
        rw [List.take_length, List.take_of_length_le (by omega)] at e
        simp [e]
  · have hl' : (((xs.length : Nat) : Int) != ((ys.length : Nat) : Int)) = true := by simp; omega
    have HL := Lib.hid hl
    clear hl
    go_enter Try.func33, Try.ntmps33
    go_wp2
    go_ret
    refine ⟨ret_bool ?_, 0, rfl⟩
    have := HL.out
    symm
    simp only [decide_eq_false_iff_not]
    rintro rfl
    exact this rfl

set_option maxHeartbeats 400000 in
theorem l_big (w : World) (A : Option Addr) (n c : Nat) :
    Calls Try.prog 9 #[.slice A n c] w fun e w' => e = .returned (.bool (decide (4096 < n))) ∧ w = w' := by
  by_cases h : 4096 < n
  · have hd : (4096 : Int) < (n : Int) := by omega
    have HD := Lib.hid (show decide (4096 < n) = true by simp [h])
    clear h
    go_enter Try.func9, Try.ntmps9
    go_wp2_with fail
    go_ret
    exact ⟨ret_bool HD.out.symm, rfl⟩
  · have hd : ¬ ((4096 : Int) < (n : Int)) := by omega
    have HD := Lib.hid (show decide (4096 < n) = false by simp [h])
    clear h
    go_enter Try.func9, Try.ntmps9
    go_wp2_with fail
    go_ret
    exact ⟨ret_bool HD.out.symm, rfl⟩
end Go.Proofs.Ytcbgopmonbgmgaa

