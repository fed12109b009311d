/- Walks: numbers that are drawn (laws.dice): any numbers in their ranges; what the source holds is not told. | Walks: numbers that are drawn (spec.l01Source). (printed by drwgen.py) | Walks: what is drawn out of the source: picks, numbers, lists. | Walks: lists of numbers that are drawn: l01List of the reference, list5 of the laws. | Walks: maps that are drawn by the reference for substitutions. | Walks: maps that are drawn by the reference for substitutions: l16Draw and the draws of the laws. -/
import Derived.Test.YtdjhfeaimmpmhaaGreatRows
import Derived.Test.YtdjhfeaimmpmhaaGreatZm2
import Derived.Test.YtdjhfeaimmpmhaaGreatZm3
import Derived.Test.YtdjhfeaimmpmhaaGreatZm1
import Derived.BigQuiet
import Derived.Deep.RegionLaw
import Derived.WalkSmall
import Derived.IntWalk
import Derived.Deep.CutRange
import Derived.Deep.CutBlock
import Derived.Deep.DeepCutAuto
import Derived.Deep.QuietTactic
import Derived.WalkLawsBesides
import Derived.Deep.RegionHeld3
set_option maxRecDepth 100000
set_option linter.unusedVariables false
set_option linter.unusedSimpArgs false
namespace Go.Proofs.YtdjhfeaimmpmhaaGreat
open Go.RowKit

/-- bytes that can be read, in a block below B -/
def ByB (w : World) (B : Nat) (A : Option Addr) (n : Nat) : Prop := ∀ k, k < n → ∃ ad z, A = some ad ∧ ad.block < B ∧ ad.block < w.heap.size ∧ 0 ≤ z ∧ z ≤ 255 ∧ w.cell? (ad.add k) = some (.int .u8 z)
/-- a byte slice that can be read -/
def Bts (w : World) (v : Value) (n : Nat) : Prop := ∃ A c, v = .slice A n c ∧ ByB w w.heap.size A n
/-- a source of numbers in block p: the bytes, the place, the hash -/
def Src (w : World) (B : Nat) (t : TypeId) (p : Nat) : Prop := ∃ (A : Option Addr) (n c k : Nat) (h : Int), Blk w p t #[.slice A n c, .int .i64 k, .int .u64 h] ∧ B ≤ p ∧ ByB w B A n ∧ k ≤ n ∧ n ≤ 1000000 ∧ 0 ≤ h ∧ h < 18446744073709551616
abbrev at0 (p : Nat) : Value := .pointer (some ⟨p, 0, none⟩)
abbrev tDc : TypeId := 86
theorem ByB.grown {w w' : World} {B n p : Nat} {A : Option Addr} (h : ByB w B A n) (hg : w.grownBy w' (some p)) (hp : B ≤ p) : ByB w' B A n := fun k hk => by
  obtain ⟨ad, z, rfl, h1, h2, h3, h4, h5⟩ := h k hk
  refine ⟨ad, z, rfl, h1, Nat.lt_of_lt_of_le h2 hg.size, h3, h4, ?_⟩
  have hb : w'.heap[ad.block]? = w.heap[ad.block]? := hg.block ad.block h2 (fun e => by injection e with e; omega)
  rw [← h5]
  unfold World.cell?
  simp only [block_add]
  rw [hb]
theorem gset (w : World) (g i : Nat) (u : Value) : w.grownBy (w.setCell ⟨g, i, none⟩ u) (some g) := by
  have b := Below.setCell (B := 0) (Below.refl 0 w) (p := ⟨g, i, none⟩) (Nat.zero_le _) u
  exact ⟨b.os, b.tape, b.output, b.size, fun k hk hne => Below.heap_setCell w _ u k (fun e => hne (by rw [e]))⟩
theorem w64_dr (x : Int) (h : -9223372036854775808 ≤ x ∧ x ≤ 9223372036854775807) : wrap64 x = x := by unfold wrap64; omega
theorem u64_bd (x : Int) : 0 ≤ IntKind.u64.wrap x ∧ IntKind.u64.wrap x < 18446744073709551616 := by rw [IntKind.wrap_u64]; omega
theorem bits_bd {x : Int} (h0 : 0 ≤ x) (h1 : x < 18446744073709551616) : 0 ≤ bits BinOp.and IntKind.u64 x 16777215 ∧ bits BinOp.and IntKind.u64 x 16777215 ≤ 16777215 := by
  have h := bits_and_u64_nat x.toNat 16777215 (by omega) (by omega)
  rw [Int.toNat_of_nonneg h0] at h
  have h2 : x.toNat &&& 16777215 ≤ 16777215 := Nat.and_le_right
  rw [show (16777215 : Int) = ((16777215 : Nat) : Int) from rfl, h]
  omega
/-- what one step of the hash gives -/
theorem hash_bd (z : Int) : ∃ x y : Int, x = IntKind.u64.wrap z ∧ 0 ≤ x ∧ x < 18446744073709551616 ∧ y = bits BinOp.and IntKind.u64 (x / 8589934592) 16777215 ∧ wrap64 (bits BinOp.and IntKind.u64 (x / 8589934592) 16777215) = y ∧ 0 ≤ y ∧ y ≤ 16777215 := by
  have h1 := u64_bd z
  have h2 := bits_bd (x := IntKind.u64.wrap z / 8589934592) (by omega) (by omega)
  exact ⟨_, _, rfl, h1.1, h1.2, rfl, w64_dr _ (by omega), h2.1, h2.2⟩
theorem rem_bd {x n : Int} (h0 : 0 ≤ x) (h1 : 1 ≤ n) : 0 ≤ x % n ∧ x % n < n := ⟨Int.emod_nonneg _ (by omega), Int.emod_lt_of_pos _ (by omega)⟩
theorem gtrans {w w1 w2 : World} {b : Option Nat} (h : w.grownBy w1 b) (h' : w1.grownBy w2 b) : w.grownBy w2 b :=
  ⟨h'.os.trans h.os, h'.tape.trans h.tape, h'.output.trans h.output, Nat.le_trans h.size h'.size, fun k hk hne => (h'.block k (Nat.lt_of_lt_of_le hk h.size) hne).trans (h.block k hk hne)⟩
theorem gof {w w' : World} {r : Option Nat} (h : Below w.heap.size w w') : w.grownBy w' r := ⟨h.os, h.tape, h.output, h.size, fun k hk _ => h.block k hk⟩
set_option maxHeartbeats 4000000 in
theorem l_below (w : World) (B p : Nat) (n : Int) (h : Src w B tDc p) (hn : n ≤ 4611686018427387904) (hn0 : 1 ≤ n) :
    Calls Tryz.prog 82 #[at0 p, .int .i64 n] w fun e w' => ∃ x, e = .returned (.int .i64 x) ∧ 0 ≤ x ∧ x < n ∧ w.grownBy w' (some p) ∧ Src w' B tDc p := by
  obtain ⟨A, m, c, k, hs, hk, hB, hby, hkm, hm, h0, h1⟩ := h
  have HK := Lib.hid hk
  have HBY := Lib.hid hby
  have k2 : w.cell? ⟨p, 2, none⟩ = some (.int .u64 hs) := hk.cell 2
  have f2 : w.frozen? ⟨p, 2, none⟩ = false := hk.frozen 2
  clear hk hby
  go_enter Tryz.func82, Tryz.ntmps82
  go_upto_region 5 with fail
  obtain ⟨x, y, hx, x0, x1, hy, hw, y0, y1⟩ := hash_bd (IntKind.u64.wrap (hs * 6364136223846793005) + 1442695040888963407)
  rw [← hx, hw, ← hy]
  clear hx hy hw h0 h1 f2 k2
  have HK1 := Lib.hid (HK.out.set_ 2 (.int .u64 x))
  have HG1 := Lib.hid (gset w p 2 (.int .u64 x))
  generalize w.setCell ⟨p, 2, none⟩ (.int .u64 x) = w1 at HK1 HG1 ⊢
  generalize x / 8589934592 = x9
  generalize IntKind.u64.wrap (hs * 6364136223846793005) = x8
  have HBY1 := Lib.hid (HBY.out.grown HG1.out hB)
  have HK1 := Lib.hid (show Blk w1 p tDc #[.slice A m c, .int .i64 k, .int .u64 x] from HK1.out)
  have k0 : w1.cell? ⟨p, 0, none⟩ = some (.slice A m c) := HK1.out.cell 0
  have k1 : w1.cell? ⟨p, 1, none⟩ = some (.int .i64 k) := HK1.out.cell 1
  have f1 : w1.frozen? ⟨p, 1, none⟩ = false := HK1.out.frozen 1
  clear HK HBY
  by_cases hlt : k < m
  · obtain ⟨ad, z, rfl, a1, a2, z0, z1, hc⟩ := HBY1.out k hlt
    have hkk : (k : Int) < (m : Int) := by omega
    have hw1 : wrap64 (y + z) = y + z := w64_dr _ (by omega)
    have hwk : wrap64 ((k : Int) + 1) = (k : Int) + 1 := w64_dr _ (by omega)
    clear a1 a2
    go_quiet (fail)
    go_upto_region 6 with fail
    rename Nat => nq0
    have k0' : (w1.drewN nq0).cell? ⟨p, 0, none⟩ = some (.slice (some ad) m c) := k0
    have k1' : (w1.drewN nq0).cell? ⟨p, 1, none⟩ = some (.int .i64 k) := k1
    have hc' : (w1.drewN nq0).cell? (ad.add k) = some (.int .u8 z) := hc
    go_quiet (fail)
    go_wp2_with fail
    go_ret
    obtain ⟨r0, r1⟩ := rem_bd (x := y + z) (n := n) (by omega) hn0
    have HB2 : w1.grownBy ((w1.drewN (nq0 + nq)).setCell ⟨p, 1, none⟩ (.int .i64 ((k : Int) + 1))) (some p) := gtrans (gof (below_drewN (Below.refl _ _) _)) (gset _ _ _ _)
    exact ⟨_, rfl, r0, r1, gtrans HG1.out HB2, some ad, m, c, k + 1, x, by simpa using (HK1.out.drewN _).set_ 1 (.int .i64 ((k : Int) + 1)), hB, HBY1.out.grown HB2 hB, hlt, hm, x0, x1⟩
  · have hkk : ¬ ((k : Int) < (m : Int)) := by omega
    go_quiet (fail)
    go_wp2_with fail
    go_ret
    obtain ⟨r0, r1⟩ := rem_bd (x := y) (n := n) (by omega) hn0
    rename Nat => nq0
    have HB2 : w1.grownBy (w1.drewN nq0) (some p) := gof (below_drewN (Below.refl _ _) _)
    exact ⟨_, rfl, r0, r1, gtrans HG1.out HB2, A, m, c, k, x, HK1.out.drewN _, hB, HBY1.out.grown HB2 hB, hkm, hm, x0, x1⟩
/-- the source is kept where others grow -/
theorem Src.kept {w w' : World} {B p : Nat} {t : TypeId} {r : Option Nat} (h : Src w B t p) (hg : w.grownBy w' r) (hne : r ≠ some p) (hr : ∀ b, r = some b → B ≤ b) : Src w' B t p := by
  obtain ⟨A, m, c, k, hs, hk, hB, hby, h1⟩ := h
  refine ⟨A, m, c, k, hs, (hg.block p hk.lt (fun e => hne e.symm)).trans hk, hB, fun j hj => ?_, h1⟩
  obtain ⟨ad, z, rfl, a1, a2, z0, z1, hc⟩ := hby j hj
  refine ⟨ad, z, rfl, a1, Nat.lt_of_lt_of_le a2 hg.size, z0, z1, ?_⟩
  have hb : w'.heap[ad.block]? = w.heap[ad.block]? := hg.block ad.block a2 (fun e => by have := hr _ e.symm; omega)
  rw [← hc]
  unfold World.cell?
  simp only [block_add]
  rw [hb]
theorem Src.below {w w' : World} {B p : Nat} {t : TypeId} (h : Src w B t p) (hg : Below w.heap.size w w') : Src w' B t p := h.kept (r := none) (gof hg) (by simp) (by simp)
theorem Src.ge {w : World} {B p : Nat} {t : TypeId} (h : Src w B t p) : B ≤ p := by obtain ⟨A, m, c, k, hs, hk, hB, -⟩ := h; exact hB
theorem Src.lt {w : World} {B p : Nat} {t : TypeId} (h : Src w B t p) : p < w.heap.size := by obtain ⟨A, m, c, k, hs, hk, hB, -⟩ := h; exact hk.lt
set_option maxHeartbeats 4000000 in
theorem l_roll (w : World) (A : Option Addr) (n c : Nat) (s : Int) (hb : ByB w w.heap.size A n) (hn : n ≤ 1000000) (hs0 : 0 ≤ s) (hs1 : s ≤ 100000) :
    Calls Tryz.prog 23 #[.slice A n c, .int .u64 s] w fun e w' => ∃ p, e = .returned (at0 p) ∧ Src w' w.heap.size tDc p ∧ Below w.heap.size w w' := by
  have HBY := Lib.hid hb
  have hs2 : 0 ≤ s * 8111 + (n : Int) ∧ s * 8111 + (n : Int) < 18446744073709551616 := by omega
  clear hb
  go_enter Tryz.func23, Tryz.ntmps23
  go_wp2_with fail
  obtain ⟨h0, hh0⟩ : ∃ h0, h0 = s * 8111 + (n : Int) := ⟨_, rfl⟩
  rw [← hh0] at hs2 ⊢
  obtain ⟨W, hW⟩ : ∃ W, W = w.alloc (Obj.cells #[Value.slice A n c, Value.int IntKind.i64 0, Value.int IntKind.u64 h0] tDc) := ⟨_, rfl⟩
  have HBW := Lib.hid (show Below w.heap.size w W from by rw [hW]; exact below1 w _)
  have HK := Lib.hid (show Blk W w.heap.size tDc #[Value.slice A n c, Value.int IntKind.i64 0, Value.int IntKind.u64 h0] from by rw [hW]; exact Blk.new _ _ _)
  rw [← hW]
  clear hW hh0
  obtain ⟨g0, g1⟩ := hs2
  go_loopw [6] (fun x wr => ∃ (j : Nat) (h : Int), j ≤ n ∧ x = .int .i64 j ∧ 0 ≤ h ∧ h < 18446744073709551616 ∧ Blk wr w.heap.size tDc #[Value.slice A n c, Value.int IntKind.i64 0, Value.int IntKind.u64 h] ∧ Below w.heap.size w wr) (fun x _ => n - (intOf x).toNat)
  case atStart => exact ⟨0, h0, Nat.zero_le _, rfl, g0, g1, HK.out, HBW.out⟩
  case round =>
    obtain ⟨j, h, hj, rfl, q0, q1, hk, hb⟩ := hrel
    rename World => wq
    clear HK HBW
    have HK := Lib.hid hk
    have HB := Lib.hid hb
    have k2 : wq.cell? ⟨w.heap.size, 2, none⟩ = some (.int .u64 h) := hk.cell 2
    have f2 : wq.frozen? ⟨w.heap.size, 2, none⟩ = false := hk.frozen 2
    clear hk hb
    by_cases hlt : j < n
    · have hjj : (j : Int) < (n : Int) := by omega
      obtain ⟨ad, z, rfl, a1, a2, z0, z1, hc⟩ := HBY.out j hlt
      have hc1 : wq.cell? (ad.add j) = some (.int .u8 z) := by rw [HB.out.cell (by rw [block_add]; exact a1)]; exact hc
      have hjk : wrap64 ((j : Int) + 1) = (j : Int) + 1 := w64_dr _ (by omega)
      clear a1 a2 hc
      go_upto_region 5 with fail
      go_region_law (fail)
      all_goals
        obtain ⟨y, hy⟩ : ∃ y, y = IntKind.u64.wrap (IntKind.u64.wrap (IntKind.u64.wrap (h * 1099511628211) + IntKind.u64.wrap z) + 5) := ⟨_, rfl⟩
        obtain ⟨b0, b1⟩ : 0 ≤ y ∧ y < 18446744073709551616 := by rw [hy]; exact u64_bd _
        rw [← hy]
        clear hy
        go_wp2_with fail
        go_roundw
        case rel =>
          exact ⟨j + 1, _, by omega, by go_num, b0, b1, (HK.out.set_ 2 _).drewN 1, (HB.out.setCell (Nat.le_refl _) _).drew⟩
        case measure => simp [intOf]; omega
    · have hjn : j = n := by omega
      subst hjn
      go_wp2_with fail
      go_ret
      exact ⟨_, rfl, ⟨A, j, c, 0, h, HK.out, Nat.le_refl _, fun k hk => by obtain ⟨ad, z, e, a1, a2, z0, z1, hc⟩ := HBY.out k hk; exact ⟨ad, z, e, a1, Nat.lt_of_lt_of_le a1 HB.out.size, z0, z1, by rw [HB.out.cell (by rw [block_add]; exact a1)]; exact hc⟩, Nat.zero_le _, hn, q0, q1⟩, HB.out⟩
theorem gthen {w w1 w2 : World} {p : Nat} {r : Option Nat} (h : w.grownBy w1 (some p)) (h' : w1.grownBy w2 r) (hr : ∀ b, r = some b → w.heap.size ≤ b) : w.grownBy w2 (some p) :=
  ⟨h'.os.trans h.os, h'.tape.trans h.tape, h'.output.trans h.output, Nat.le_trans h.size h'.size, fun k hk hne => (h'.block k (Nat.lt_of_lt_of_le hk h.size) (fun e => by have := hr _ e.symm; omega)).trans (h.block k hk hne)⟩
theorem Own.src {w w' : World} {C p : Nat} {e : TypeId} {v : Value} {vs : List Value} (h : Own w C e v vs) (hp : p < C) (hg : w.grownBy w' (some p)) : Own w' C e v vs := h.kept hg (by
  cases hb : v.ownBlock with
  | none => exact .inl rfl
  | some b => exact .inr fun e => by injection e with e; have := h.ge b hb; omega)
def lenD : Value → Nat
  | .slice _ n _ => n
  | _ => 0
set_option maxHeartbeats 4000000 in
theorem l_map9 (w : World) (B p : Nat) (f : Int) (h : Src w B tDc p) (hf : 0 ≤ f ∧ f ≤ 10006) :
    Calls Tryz.prog 22 #[at0 p, .int .i64 f] w fun e w' => ∃ x, e = .returned x ∧ ∃ zs, OwnInts w' w.heap.size tI x zs ∧ zs.length = 38 ∧ Nums zs ∧ zs.getD 0 0 = f ∧ w.grownBy w' (some p) ∧ Src w' B tDc p := by
  have HS := Lib.hid h
  have hpl := h.lt
  have OL := Lib.hid (show Own (w.alloc (.cells #[.int .i64 f] tI)) w.heap.size tI (.slice (some ⟨w.heap.size, 0, none⟩) 1 1) (ints [f]) from own_lit w tI [.int .i64 f] (by simp [maxLen]))
  have HS1 := Lib.hid (h.below (below1 w (.cells #[.int .i64 f] tI)))
  have HG1 := Lib.hid (show w.grownBy (w.alloc (.cells #[.int .i64 f] tI)) (some p) from gof (below1 w _))
  have HF := Lib.hid (show Nums [f] from fun z hz => by simp at hz; omega)
  clear h hf
  go_enter Tryz.func22, Tryz.ntmps22
  go_wp2_with fail
  go_loopw [5] (fun o wr => ∃ zs : List Int, 1 ≤ zs.length ∧ zs.length ≤ 38 ∧ Own wr w.heap.size tI o (ints zs) ∧ Hid (Nums zs ∧ zs.getD 0 0 = f) ∧ w.grownBy wr (some p) ∧ Src wr B tDc p) (fun o _ => 38 - lenD o)
  case atStart => exact ⟨[f], by simp, by simp, OL.out, ⟨HF.out, rfl⟩, HG1.out, HS1.out⟩
  case round =>
    obtain ⟨zs, hz1, hz2, ho, HZ, hg, hs⟩ := hrel
    rename World => wq
    clear OL HS1 HG1 HF
    have HO := Lib.hid ho
    have HG := Lib.hid hg
    have HS := Lib.hid hs
    obtain ⟨Ao, co, heo, -, -⟩ := ho.cells.open_
    rw [ints_len] at heo
    subst heo
    have hwq := hg.size
    clear ho hg hs
    by_cases hlt : zs.length < 38
    · have hll : (zs.length : Int) < 38 := by omega
      go_wp2_with (first
        | (go_at_call 82; go_loud (refine (l_below _ B p 10007 HS.out (by omega) (by omega)).mono ?_; rintro e w5 ⟨x5, rfl, hx0, hx1, hg5, hs5⟩; have HO5 := Lib.hid (HO.out.src hpl hg5); have HG5 := Lib.hid (gtrans HG.out hg5); have HS5 := Lib.hid hs5; have HX5 := Lib.hid (And.intro hx0 hx1); clear hg5 hs5 hx0 hx1))
        | (at_builtin; go_loud (refine wpList_app1 T_int HO5.out (by rw [ints_len]; omega) HG5.out.size (by rfl) rfl (by rfl) (by rfl) (by rfl) ?_; intro v7 w7 hown7 hgr7; have HN7 := Lib.hid hown7; have HR7 := Lib.hid hgr7; clear hown7 hgr7)))
      have HGA := Lib.hid (gthen HG5.out HR7.out.1 HO5.out.ge)
      have hne : (Value.slice Ao zs.length co).ownBlock ≠ some p := fun e => by have := HO5.out.ge _ e; omega
      have HSA := Lib.hid (HS5.out.kept HR7.out.1 hne (fun b hb => Nat.le_trans (Nat.le_trans HS5.out.ge (Nat.le_of_lt hpl)) (HO5.out.ge b hb)))
      clear hne
      obtain ⟨A7, c7, he7, -, -⟩ := HN7.out.cells.open_
      rw [List.length_append, ints_len, List.length_singleton] at he7
      subst he7
      go_roundw
      case rel =>
        refine ⟨zs ++ [x5], by simp, by simp; omega, by simpa [ints] using HN7.out, ⟨fun z hz => ?_, ?_⟩, HGA.out, HSA.out⟩
        · rcases List.mem_append.1 hz with h | h
          · exact HZ.out.1 z h
          · have := HX5.out; simp at h; omega
        · rw [List.getD_eq_getElem?_getD, List.getElem?_append_left (by omega), ← List.getD_eq_getElem?_getD]; exact HZ.out.2
      case measure => simp [lenD]; omega
    · have HNL := Lib.hid (show zs.length = 38 by omega)
      have hll : ¬ ((zs.length : Int) < 38) := by omega
      go_wp2_with fail
      go_ret
      exact ⟨_, rfl, zs, ⟨HO.out, fun z hz => by have := HZ.out.1 z hz; unfold In64; omega⟩, HNL.out, HZ.out.1, HZ.out.2, HG.out, HS.out⟩
end Go.Proofs.YtdjhfeaimmpmhaaGreat

set_option maxRecDepth 100000
set_option linter.unusedVariables false
set_option linter.unusedSimpArgs false
namespace Go.Proofs.YtdjhfeaimmpmhaaGreat
open Go.RowKit

abbrev tSc : TypeId := 101
set_option maxHeartbeats 4000000 in
theorem s_l01Next (w : World) (B p : Nat) (n : Int) (h : Src w B tSc p) (hn : n ≤ 4611686018427387904) (hn0 : 1 ≤ n) :
    Calls Tryz.prog 50 #[at0 p, .int .i64 n] w fun e w' => ∃ x, e = .returned (.int .i64 x) ∧ 0 ≤ x ∧ x < n ∧ w.grownBy w' (some p) ∧ Src w' B tSc p := by
  obtain ⟨A, m, c, k, hs, hk, hB, hby, hkm, hm, h0, h1⟩ := h
  have HK := Lib.hid hk
  have HBY := Lib.hid hby
  have k2 : w.cell? ⟨p, 2, none⟩ = some (.int .u64 hs) := hk.cell 2
  have f2 : w.frozen? ⟨p, 2, none⟩ = false := hk.frozen 2
  clear hk hby
  go_enter Tryz.func50, Tryz.ntmps50
  go_upto_region 5 with fail
  obtain ⟨x, y, hx, x0, x1, hy, hw, y0, y1⟩ := hash_bd (IntKind.u64.wrap (hs * 6364136223846793005) + 1442695040888963407)
  rw [← hx, hw, ← hy]
  clear hx hy hw h0 h1 f2 k2
  have HK1 := Lib.hid (HK.out.set_ 2 (.int .u64 x))
  have HG1 := Lib.hid (gset w p 2 (.int .u64 x))
  generalize w.setCell ⟨p, 2, none⟩ (.int .u64 x) = w1 at HK1 HG1 ⊢
  generalize x / 8589934592 = x9
  generalize IntKind.u64.wrap (hs * 6364136223846793005) = x8
  have HBY1 := Lib.hid (HBY.out.grown HG1.out hB)
  have HK1 := Lib.hid (show Blk w1 p tSc #[.slice A m c, .int .i64 k, .int .u64 x] from HK1.out)
  have k0 : w1.cell? ⟨p, 0, none⟩ = some (.slice A m c) := HK1.out.cell 0
  have k1 : w1.cell? ⟨p, 1, none⟩ = some (.int .i64 k) := HK1.out.cell 1
  have f1 : w1.frozen? ⟨p, 1, none⟩ = false := HK1.out.frozen 1
  clear HK HBY
  by_cases hlt : k < m
  · obtain ⟨ad, z, rfl, a1, a2, z0, z1, hc⟩ := HBY1.out k hlt
    have hkk : (k : Int) < (m : Int) := by omega
    have hw1 : wrap64 (y + z) = y + z := w64_dr _ (by omega)
    have hwk : wrap64 ((k : Int) + 1) = (k : Int) + 1 := w64_dr _ (by omega)
    clear a1 a2
    go_quiet (fail)
    go_upto_region 6 with fail
    rename Nat => nq0
    have k0' : (w1.drewN nq0).cell? ⟨p, 0, none⟩ = some (.slice (some ad) m c) := k0
    have k1' : (w1.drewN nq0).cell? ⟨p, 1, none⟩ = some (.int .i64 k) := k1
    have hc' : (w1.drewN nq0).cell? (ad.add k) = some (.int .u8 z) := hc
    go_quiet (fail)
    go_wp2_with fail
    go_ret
    obtain ⟨r0, r1⟩ := rem_bd (x := y + z) (n := n) (by omega) hn0
    have HB2 : w1.grownBy ((w1.drewN (nq0 + nq)).setCell ⟨p, 1, none⟩ (.int .i64 ((k : Int) + 1))) (some p) := gtrans (gof (below_drewN (Below.refl _ _) _)) (gset _ _ _ _)
    exact ⟨_, rfl, r0, r1, gtrans HG1.out HB2, some ad, m, c, k + 1, x, by simpa using (HK1.out.drewN _).set_ 1 (.int .i64 ((k : Int) + 1)), hB, HBY1.out.grown HB2 hB, hlt, hm, x0, x1⟩
  · have hkk : ¬ ((k : Int) < (m : Int)) := by omega
    go_quiet (fail)
    go_wp2_with fail
    go_ret
    obtain ⟨r0, r1⟩ := rem_bd (x := y) (n := n) (by omega) hn0
    rename Nat => nq0
    have HB2 : w1.grownBy (w1.drewN nq0) (some p) := gof (below_drewN (Below.refl _ _) _)
    exact ⟨_, rfl, r0, r1, gtrans HG1.out HB2, A, m, c, k, x, HK1.out.drewN _, hB, HBY1.out.grown HB2 hB, hkm, hm, x0, x1⟩
set_option maxHeartbeats 4000000 in
theorem s_l01From (w : World) (A : Option Addr) (n c : Nat) (hb : ByB w w.heap.size A n) (hn : n ≤ 4096) :
    Calls Tryz.prog 49 #[.slice A n c] w fun e w' => ∃ p, e = .returned (at0 p) ∧ Src w' w.heap.size tSc p ∧ Below w.heap.size w w' := by
  have HBY := Lib.hid hb
  have hs2 : 0 ≤ 5381 + (n : Int) ∧ 5381 + (n : Int) < 18446744073709551616 := by omega
  clear hb
  go_enter Tryz.func49, Tryz.ntmps49
  go_wp2_with fail
  obtain ⟨h0, hh0⟩ : ∃ h0, h0 = 5381 + (n : Int) := ⟨_, rfl⟩
  rw [← hh0] at hs2 ⊢
  obtain ⟨W, hW⟩ : ∃ W, W = w.alloc (Obj.cells #[Value.slice A n c, Value.int IntKind.i64 0, Value.int IntKind.u64 h0] tSc) := ⟨_, rfl⟩
  have HBW := Lib.hid (show Below w.heap.size w W from by rw [hW]; exact below1 w _)
  have HK := Lib.hid (show Blk W w.heap.size tSc #[Value.slice A n c, Value.int IntKind.i64 0, Value.int IntKind.u64 h0] from by rw [hW]; exact Blk.new _ _ _)
  rw [← hW]
  clear hW hh0
  obtain ⟨g0, g1⟩ := hs2
  go_loopw [4] (fun x wr => ∃ (j : Nat) (h : Int), j ≤ n ∧ x = .int .i64 j ∧ 0 ≤ h ∧ h < 18446744073709551616 ∧ Blk wr w.heap.size tSc #[Value.slice A n c, Value.int IntKind.i64 0, Value.int IntKind.u64 h] ∧ Below w.heap.size w wr) (fun x _ => n - (intOf x).toNat)
  case atStart => exact ⟨0, h0, Nat.zero_le _, rfl, g0, g1, HK.out, HBW.out⟩
  case round =>
    obtain ⟨j, h, hj, rfl, q0, q1, hk, hb⟩ := hrel
    rename World => wq
    clear HK HBW
    have HK := Lib.hid hk
    have HB := Lib.hid hb
    have k2 : wq.cell? ⟨w.heap.size, 2, none⟩ = some (.int .u64 h) := hk.cell 2
    have f2 : wq.frozen? ⟨w.heap.size, 2, none⟩ = false := hk.frozen 2
    clear hk hb
    by_cases hlt : j < n
    · have hj4 : (j : Int) < 4096 := by omega
      have hjj : (j : Int) < (n : Int) := by omega
      obtain ⟨ad, z, rfl, a1, a2, z0, z1, hc⟩ := HBY.out j hlt
      have hc1 : wq.cell? (ad.add j) = some (.int .u8 z) := by rw [HB.out.cell (by rw [block_add]; exact a1)]; exact hc
      have hjk : wrap64 ((j : Int) + 1) = (j : Int) + 1 := w64_dr _ (by omega)
      clear a1 a2 hc
      go_upto_region 5 with fail
      go_region_law (fail)
      all_goals
        obtain ⟨y, hy⟩ : ∃ y, y = IntKind.u64.wrap (IntKind.u64.wrap (IntKind.u64.wrap (h * 1099511628211) + IntKind.u64.wrap z) + 11) := ⟨_, rfl⟩
        obtain ⟨b0, b1⟩ : 0 ≤ y ∧ y < 18446744073709551616 := by rw [hy]; exact u64_bd _
        rw [← hy]
        clear hy
        go_wp2_with fail
        go_roundw
        case rel =>
          exact ⟨j + 1, _, by omega, by go_num, b0, b1, (HK.out.set_ 2 _).drewN 1, (HB.out.setCell (Nat.le_refl _) _).drew⟩
        case measure => simp [intOf]; omega
    · have hjn : j = n := by omega
      subst hjn
      go_wp2_with fail
      go_ret
      exact ⟨_, rfl, ⟨A, j, c, 0, h, HK.out, Nat.le_refl _, fun k hk => by obtain ⟨ad, z, e, a1, a2, z0, z1, hc⟩ := HBY.out k hk; exact ⟨ad, z, e, a1, Nat.lt_of_lt_of_le a1 HB.out.size, z0, z1, by rw [HB.out.cell (by rw [block_add]; exact a1)]; exact hc⟩, Nat.zero_le _, (by omega), q0, q1⟩, HB.out⟩
end Go.Proofs.YtdjhfeaimmpmhaaGreat

set_option maxRecDepth 100000
set_option linter.unusedVariables false
set_option linter.unusedSimpArgs false
namespace Go.Proofs.YtdjhfeaimmpmhaaGreat
open Go.RowKit

theorem wrap_i64 (x : Int) (h : -9223372036854775808 ≤ x ∧ x ≤ 9223372036854775807) : IntKind.i64.wrap x = x := IntWalk.i64_in _ (by omega)
/-- a literal list of numbers is kept where the source changes -/
theorem lit_keep (w : World) (p : Nat) (zs : List Int) (hz : ∀ z ∈ zs, In64 z) (hl : zs.length ≤ 1000) (hp : p < w.heap.size) :
    ∀ W, (w.alloc (.cells (ints zs).toArray tI)).grownBy W (some p) → Ints W (.slice (some ⟨w.heap.size, 0, none⟩) zs.length zs.length) zs := fun W hg => by
  have h := own_lit w tI (ints zs) (by rw [ints_len]; simp [maxLen]; omega)
  rw [ints_len] at h
  exact ⟨(h.kept hg (.inr (fun e => by simp [Value.ownBlock] at e; omega))).cells, hz⟩
set_option maxHeartbeats 4000000 in
theorem s_l01Pick (w : World) (B p : Nat) (v : Value) (zs : List Int) (h : Src w B tSc p) (hv : ∀ W, w.grownBy W (some p) → Ints W v zs) (h1 : 1 ≤ zs.length) (h2 : zs.length ≤ 1000) :
    Calls Tryz.prog 52 #[at0 p, v] w fun e w' => ∃ z, e = .returned (.int .i64 z) ∧ z ∈ zs ∧ w.grownBy w' (some p) ∧ Src w' B tSc p := by
  obtain ⟨A, c, rfl, g1, g2, g3⟩ := (hv w (World.grownBy.refl _ _)).open_
  have HV := Lib.hid hv
  have HN := Lib.hid (s_l01Next w B p (zs.length : Nat) h (by omega) (by omega))
  clear g3 h hv
  go_enter Tryz.func52, Tryz.ntmps52
  go_wp2_with (go_at_call 50; go_loud (refine HN.out.mono ?_; rintro e w1 ⟨x, rfl, x0, x1, hg, hs⟩; obtain ⟨k, rfl⟩ : ∃ k : Nat, x = k := ⟨x.toNat, by omega⟩; obtain ⟨A', c', he, -, -, g3⟩ := (HV.out w1 hg).open_; (simp only [Value.slice.injEq] at he); obtain ⟨rfl, -, rfl⟩ := he; obtain ⟨ad, z, rfl, hz, hz2, hc⟩ := g3 k (by omega); have HZ := Lib.hid (List.mem_of_getElem? hz); have HG := Lib.hid hg; have HS := Lib.hid hs; have hkl : k < zs.length := (by omega); clear g3 hz hz2 hg hs x0 x1))
  go_ret
  exact ⟨_, rfl, HZ.out, HG.out, HS.out⟩
theorem nume_bd (x : Int) : 0 ≤ x % 10007 ∧ x % 10007 ≤ 10006 := by omega
set_option maxHeartbeats 1000000 in
theorem s_l01FracZ (w : World) (p q : Int) (h0 : -1000000 ≤ p) (h1 : p ≤ 1000000) (g0 : 0 ≤ q) (g1 : q ≤ 1000000) :
    Calls Tryz.prog 149 #[.int .i64 p, .int .i64 q] w fun e w' => ∃ z, e = .returned (.int .i64 z) ∧ (0 ≤ z ∧ z ≤ 10006) ∧ w = w' := by
  have hp := pw_bd (q % 10007) 10005
  have hq : 0 ≤ q % 10007 ∧ q % 10007 ≤ 10006 := by omega
  have hq2 : 0 ≤ p % 10007 ∧ p % 10007 ≤ 10006 := by omega
  go_enter Tryz.func149, Tryz.ntmps149
  go_wp2_with (first
    | (go_at_call 191; (with_reducible refine (s_l01Inv _ _ (by omega) (by omega)).mono ?_); rintro e w2 ⟨rfl, rfl⟩)
    | (go_at_call 131; (with_reducible refine (s_l01Mul _ _ _ (by omega) (by omega) (by omega) (by omega)).mono ?_); rintro e w2 ⟨rfl, rfl⟩)
    | (go_at_call 123; (with_reducible refine (s_l01Mod _ _ (by omega) (by omega)).mono ?_); rintro e w2 ⟨rfl, rfl⟩))
  go_ret
  exact ⟨_, rfl, nume_bd _, rfl⟩
set_option maxHeartbeats 4000000 in
theorem s_l01Number (w : World) (B p : Nat) (h : Src w B tSc p) :
    Calls Tryz.prog 112 #[at0 p] w fun e w' => ∃ z, e = .returned (.int .i64 z) ∧ (0 ≤ z ∧ z ≤ 10006) ∧ w.grownBy w' (some p) ∧ Src w' B tSc p := by
  have HN := Lib.hid (s_l01Next w B p 5 h (by omega) (by omega))
  have hpl := h.lt
  clear h
  go_enter Tryz.func112, Tryz.ntmps112
  go_upto_region 2 with (go_at_call 50; go_loud (refine HN.out.mono ?_; rintro e w1 ⟨x, rfl, x0, x1, hg, hs⟩; have HG := Lib.hid hg; have HS := Lib.hid hs; clear hg hs))
  have hpl1 : p < w1.heap.size := Nat.lt_of_lt_of_le hpl HG.out.size
  by_cases hx0 : x = 0
  · have hd0 : (x == 0) = true := by simp [hx0]
    have HN1 := Lib.hid (s_l01Next w1 B p 10007 HS.out (by omega) (by omega))
    clear hx0 x0 x1
    go_wp2_with (go_at_call 50; go_loud (refine HN1.out.mono ?_; rintro e w2 ⟨y, rfl, y0, y1, hg, hs⟩; have HG2 := Lib.hid (gtrans HG.out hg); have HS2 := Lib.hid hs; clear hg hs))
    go_ret
    exact ⟨_, rfl, ⟨y0, by omega⟩, HG2.out, HS2.out⟩
  · have hd0 : (x == 0) = false := by simp [hx0]
    by_cases hx1 : x = 1
    · have hd1 : (x == 1) = true := by simp [hx1]
      have HL := Lib.hid (lit_keep w1 p [0, 1, 0, 1, 10006, 2] (by intro z hz; simp at hz; unfold In64; omega) (by simp) hpl1)
      have HSL := Lib.hid (HS.out.below (below1 w1 (.cells (ints [0, 1, 0, 1, 10006, 2]).toArray tI)))
      have HPK := Lib.hid (s_l01Pick _ B p _ [0, 1, 0, 1, 10006, 2] HSL.out HL.out (by simp) (by simp))
      clear hx0 hx1 x0 x1
      go_wp2_with (go_at_call 52; go_loud (refine HPK.out.mono ?_; rintro e w2 ⟨y, rfl, hy, hg, hs⟩; have HG2 := Lib.hid (gtrans (gtrans HG.out (gof (below1 w1 _))) hg); have HS2 := Lib.hid hs; have HY := Lib.hid hy; clear hg hs hy))
      go_ret
      exact ⟨_, rfl, by have := HY.out; simp at this; omega, HG2.out, HS2.out⟩
    · have hd1 : (x == 1) = false := by simp [hx1]
      have HN1 := Lib.hid (s_l01Next w1 B p 15 HS.out (by omega) (by omega))
      have hw := fun y (h : 0 ≤ y ∧ y < 15) => wrap_i64 (y - 7) (by omega)
      have hw2 := fun y (h : 0 ≤ y ∧ y < 12) => w64_dr (1 + y) (by omega)
      clear hx0 hx1 x0 x1
      go_wp2_with (first
        | (go_at_call 50; (with_reducible refine HN1.out.mono ?_); go_loud (rintro e w2 ⟨y, rfl, y0, y1, hg, hs⟩; have HG2 := Lib.hid (gtrans HG.out hg); have HS2 := Lib.hid hs; have hwy := hw y ⟨y0, y1⟩; clear hg hs))
        | (go_at_call 50; (with_reducible refine (s_l01Next w2 B p 12 HS2.out (by omega) (by omega)).mono ?_); go_loud (rintro e w3 ⟨u, rfl, u0, u1, hg, hs⟩; have HG3 := Lib.hid (gtrans HG2.out hg); have HS3 := Lib.hid hs; have hwu := hw2 u ⟨u0, u1⟩; clear hg hs))
        | (go_at_call 149; go_loud (refine (s_l01FracZ _ _ _ (by omega) (by omega) (by omega) (by omega)).mono ?_; rintro e w4 ⟨z, rfl, hz, rfl⟩; have HZ := Lib.hid hz; clear hz)))
      go_ret
      exact ⟨_, rfl, HZ.out, HG3.out, HS3.out⟩
end Go.Proofs.YtdjhfeaimmpmhaaGreat

set_option maxRecDepth 100000
set_option linter.unusedVariables false
set_option linter.unusedSimpArgs false
namespace Go.Proofs.YtdjhfeaimmpmhaaGreat
open Go.RowKit

set_option maxHeartbeats 4000000 in
theorem s_l01List (w : World) (B p N : Nat) (h : Src w B tSc p) (hN : N ≤ 1000) :
    Calls Tryz.prog 51 #[at0 p, .int .i64 (N : Nat)] w fun e w' => ∃ x, e = .returned x ∧ ∃ zs, OwnInts w' w.heap.size tI x zs ∧ zs.length = N ∧ Nums zs ∧ w.grownBy w' (some p) ∧ Src w' B tSc p := by
  have HS := Lib.hid h
  have hpl := h.lt
  have OL := Lib.hid (show Own (w.alloc (.cells #[] tI)) w.heap.size tI (.slice (some ⟨w.heap.size, 0, none⟩) 0 0) (ints []) from own_lit w tI [] (by simp [maxLen]))
  have HS1 := Lib.hid (h.below (below1 w (.cells #[] tI)))
  have HG1 := Lib.hid (show w.grownBy (w.alloc (.cells #[] tI)) (some p) from gof (below1 w _))
  have HF := Lib.hid (show Nums [] from fun z hz => by simp at hz)
  clear h
  go_enter Tryz.func51, Tryz.ntmps51
  go_wp2_with fail
  go_loopw [5, 1] (fun o x wr => ∃ (zs : List Int) (m : Nat), Hid (zs.length + m = N) ∧ x = .int .i64 m ∧ m ≤ 1000 ∧ zs.length ≤ 1000 ∧ Own wr w.heap.size tI o (ints zs) ∧ Hid (Nums zs) ∧ w.grownBy wr (some p) ∧ Src wr B tSc p) (fun _ x _ => (intOf x).toNat)
  case atStart => exact ⟨[], N, by show 0 + N = N; omega, rfl, hN, by simp, OL.out, HF.out, HG1.out, HS1.out⟩
  case round =>
    obtain ⟨zs, m, HM, rfl, hm, hz2, ho, HZ, hg, hs⟩ := hrel
    rename World => wq
    clear OL HS1 HG1 HF
    have HO := Lib.hid ho
    have HG := Lib.hid hg
    have HS := Lib.hid hs
    obtain ⟨Ao, co, heo, -, -⟩ := ho.cells.open_
    rw [ints_len] at heo
    subst heo
    have hwq := hg.size
    clear ho hg hs
    by_cases hlt : 0 < m
    · have hll : (0 : Int) < (m : Int) := by omega
      have hmd : decide (0 < m) = true := decide_eq_true hlt
      go_wp2_with (first
        | (go_at_call 112; go_loud (refine (s_l01Number _ B p HS.out).mono ?_; rintro e w5 ⟨x5, rfl, hx, hg5, hs5⟩; have HO5 := Lib.hid (HO.out.src hpl hg5); have HG5 := Lib.hid (gtrans HG.out hg5); have HS5 := Lib.hid hs5; have HX5 := Lib.hid hx; clear hg5 hs5 hx))
        | (at_builtin; go_loud (refine wpList_app1 T_int HO5.out (by rw [ints_len]; omega) HG5.out.size (by rfl) rfl (by rfl) (by rfl) (by rfl) ?_; intro v7 w7 hown7 hgr7; have HN7 := Lib.hid hown7; have HR7 := Lib.hid hgr7; clear hown7 hgr7)))
      have HGA := Lib.hid (gthen HG5.out HR7.out.1 HO5.out.ge)
      have hne : (Value.slice Ao zs.length co).ownBlock ≠ some p := fun e => by have := HO5.out.ge _ e; omega
      have HSA := Lib.hid (HS5.out.kept HR7.out.1 hne (fun b hb => Nat.le_trans (Nat.le_trans HS5.out.ge (Nat.le_of_lt hpl)) (HO5.out.ge b hb)))
      clear hne
      go_roundw
      case rel =>
        have hm0 := HM.out
        refine ⟨zs ++ [x5], m - 1, by show (zs ++ [x5]).length + (m - 1) = N; rw [List.length_append, List.length_singleton]; omega, ?_, by omega, by rw [List.length_append, List.length_singleton]; omega, by simpa [ints] using HN7.out, fun z hz => ?_, HGA.out, HSA.out⟩
        · rw [show ((m - 1 : Nat) : Int) = (m : Int) - 1 by omega]
        rcases List.mem_append.1 hz with h | h
        · exact HZ.out z h
        · have := HX5.out; simp at h; omega
      case measure => simp [intOf]; omega
    · have hm0 : m = 0 := by omega
      subst hm0
      have HNL := Lib.hid (show zs.length = N from HM.out)
      go_wp2_with fail
      go_ret
      exact ⟨_, rfl, zs, ⟨HO.out, fun z hz => by have := HZ.out z hz; unfold In64; omega⟩, HNL.out, HZ.out, HG.out, HS.out⟩
/-! ### the laws' lists -/
end Go.Proofs.YtdjhfeaimmpmhaaGreat

set_option maxRecDepth 100000
set_option linter.unusedVariables false
set_option linter.unusedSimpArgs false
namespace Go.Proofs.YtdjhfeaimmpmhaaGreat
open Go.RowKit

theorem sl1 (W : World) (g cap : Nat) (h : 38 ≤ cap) :
    (Instr.slice 24 (.slice (some ⟨g, 0, none⟩) 38 cap) (some (.int .i64 1)) none none).run Tryz.prog W = .ok (.slice (some ⟨g, 1, none⟩) 37 (cap - 1)) W := by
  rw [sl_from Tryz.underlying24 sizeI W (some ⟨g, 0, none⟩) 38 cap 1 1 rfl (by omega)]
  have : sliced (some ⟨g, 0, none⟩) 1 38 cap 1 = .slice (some ⟨g, 1, none⟩) 37 (cap - 1) := by
    unfold sliced
    split
    · next h1 => omega
    · rfl
  rw [this]
theorem in64_n {z : Int} (h : 0 ≤ z ∧ z ≤ 10006) : In64 z := by unfold In64; omega
theorem addr_addD (g n : Nat) : (⟨g, 0, none⟩ : Addr).add n = ⟨g, n, none⟩ := by by_cases h0 : n = 0 <;> simp [Addr.add, h0]
theorem ints_setD (zs : List Int) (k : Nat) (z : Int) : (ints zs).set k (.int .i64 z) = ints (zs.set k z) := by simp [ints, List.map_set]
theorem OwnInts.setAt {w : World} {C g cap k : Nat} {us : List Int} {n : Nat} (h : OwnInts w C tI (.slice (some ⟨g, 0, none⟩) n cap) us) (hk : k < us.length) {z : Int} (hz : In64 z) :
    (∃ u0, w.cell? ⟨g, k, none⟩ = some u0) ∧ w.frozen? ⟨g, k, none⟩ = false ∧ OwnInts (w.setCell ⟨g, k, none⟩ (.int .i64 z)) C tI (.slice (some ⟨g, 0, none⟩) n cap) (us.set k z) ∧ w.grownBy (w.setCell ⟨g, k, none⟩ (.int .i64 z)) (some g) := by
  obtain ⟨u0, hu0, hcg, hfg, hg2, hg1, hown', hgr⟩ := h.1.storeAt (k := k) (by rw [ints_len]; exact hk) (.int .i64 z)
  refine ⟨⟨u0, hcg⟩, hfg, ⟨by rw [ints_setD] at hown'; exact hown', fun y hy => ?_⟩, hgr⟩
  rcases List.mem_or_eq_of_mem_set hy with h1 | rfl
  · exact h.2 y h1
  · exact hz
end Go.Proofs.YtdjhfeaimmpmhaaGreat

set_option maxRecDepth 100000
set_option linter.unusedVariables false
set_option linter.unusedSimpArgs false
namespace Go.Proofs.YtdjhfeaimmpmhaaGreat
open Go.RowKit

/-- a drawn list: 38 numbers of one's own, or 37 of them -/
structure DrM (w : World) (C : Nat) (g d n m : Nat) : Prop where
  ex : ∃ cap us, OwnInts w C tI (.slice (some ⟨g, 0, none⟩) 38 cap) us ∧ us.length = 38 ∧ m + d = cap
  nd : n + d = 38
  dl : d ≤ 1
theorem DrM.src {w w' : World} {C p g d n m : Nat} (h : DrM w C g d n m) (hp : p < C) (hg : w.grownBy w' (some p)) : DrM w' C g d n m := by
  obtain ⟨⟨cap, us, h1, h2, h3⟩, h4, h5⟩ := h
  exact ⟨⟨cap, us, ⟨h1.1.src hp hg, h1.2⟩, h2, h3⟩, h4, h5⟩
theorem DrM.mono {w : World} {C C' g d n m : Nat} (h : DrM w C g d n m) (hC : C' ≤ C) : DrM w C' g d n m := by
  obtain ⟨⟨cap, us, h1, h2, h3⟩, h4, h5⟩ := h
  exact ⟨⟨cap, us, h1.mono hC, h2, h3⟩, h4, h5⟩
theorem DrM.ge {w : World} {C g d n m : Nat} (h : DrM w C g d n m) : C ≤ g := by
  obtain ⟨⟨cap, us, h1, h2, h3⟩, h4, h5⟩ := h
  exact h1.1.ge g rfl
theorem DrM.set_ {w : World} {C g d n m k : Nat} (h : DrM w C g d n m) (hk : k < n) {z : Int} (hz : In64 z) :
    (∃ u0, w.cell? ⟨g, d + k, none⟩ = some u0) ∧ w.frozen? ⟨g, d + k, none⟩ = false ∧ DrM (w.setCell ⟨g, d + k, none⟩ (.int .i64 z)) C g d n m ∧ w.grownBy (w.setCell ⟨g, d + k, none⟩ (.int .i64 z)) (some g) := by
  obtain ⟨⟨cap, us, h1, h2, h3⟩, h4, h5⟩ := h
  obtain ⟨hu, hf, ho, hg⟩ := h1.setAt (k := d + k) (by omega) hz
  exact ⟨hu, hf, ⟨⟨cap, _, ho, by rw [List.length_set]; exact h2, h3⟩, h4, h5⟩, hg⟩
theorem DrM.readable {w : World} {C g d n m : Nat} (h : DrM w C g d n m) : ∃ zs, Ints w (.slice (some ⟨g, d, none⟩) n m) zs := by
  obtain ⟨⟨cap, us, h1, h2, h3⟩, h4, h5⟩ := h
  obtain ⟨⟨A', c', he, hl, hm, hcell⟩, hin⟩ := h1.ints
  rw [ints_len] at he hl
  simp only [Value.slice.injEq] at he
  obtain ⟨rfl, -, rfl⟩ := he
  refine ⟨us.drop d, ⟨some ⟨g, d, none⟩, m, ?_, ?_, ?_, fun k u hk => ⟨_, rfl, ?_⟩⟩, fun z hz => hin z (List.mem_of_mem_drop hz)⟩
  · rw [ints_len, List.length_drop, h2, show 38 - d = n by omega]
  · rw [ints_len, List.length_drop]; omega
  · omega
  · have e : (ints us)[d + k]? = some u := by
      rw [← hk, ints, ints, List.map_drop, List.getElem?_drop]
    obtain ⟨ad, e1, e2⟩ := hcell (d + k) u e
    injection e1 with e1
    subst e1
    have e3 : (⟨g, d, none⟩ : Addr).add k = (⟨g, 0, none⟩ : Addr).add (d + k) := by
      rw [addr_addD]
      unfold Addr.add
      split <;> simp_all
    rw [e3]
    exact e2
end Go.Proofs.YtdjhfeaimmpmhaaGreat

