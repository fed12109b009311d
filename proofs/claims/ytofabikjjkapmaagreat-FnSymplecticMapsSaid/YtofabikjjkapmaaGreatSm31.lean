import Derived.Test.YtofabikjjkapmaaGreatSm21
import Derived.Test.YtofabikjjkapmaaGreatSm30
import Derived.Test.YtofabikjjkapmaaGreatRows
import Derived.Test.YtofabikjjkapmaaGreatSm2
import Derived.Test.YtofabikjjkapmaaGreatSm3
import Derived.Test.YtofabikjjkapmaaGreatSm1
import Derived.BigQuiet
import Derived.Deep.RegionLaw
import Derived.WalkSmall
import Derived.IntWalk
import Derived.Deep.CutRange
import Derived.Deep.CutBlock
import Derived.Deep.DeepCutAuto
import Derived.Deep.QuietTactic
import Derived.WalkLawsBesides
import Derived.Deep.RegionHeld3
import Derived.Test.YtofabikjjkapmaaGreatSm24
import Derived.Test.YtofabikjjkapmaaGreatSm23
import Derived.Test.YtofabikjjkapmaaGreatSm26
import Derived.Test.YtofabikjjkapmaaGreatSm29
import Derived.Test.YtofabikjjkapmaaGreatSm20
import Derived.Test.YtofabikjjkapmaaGreatSm5
import Derived.Test.YtofabikjjkapmaaGreatSm9
set_option maxRecDepth 100000
set_option linter.unusedVariables false
set_option linter.unusedSimpArgs false
namespace Go.Proofs.YtofabikjjkapmaaGreat
open Go.RowKit
theorem i_checkInf2 (w : World) (vb va : Value) (b a : List Int) (h1 : Ints w vb b) (h2 : Ints w va a) :
  Calls Tryz.prog 44 #[vb, .slice (some ⟨w.heap.size, 0, none⟩) 1 1] (w.alloc (.cells #[va] tL)) fun e w' => e = .returned (.int .i64 (infA b [a])) /\ Below w.heap.size w w' := by
 have hlt : ∀ {v : Value} {zs : List Int}, Ints w v zs -> ∀ W, (w.alloc (.cells #[va] tL)).grownBy W (some w.heap.size) -> Ints W v zs := fun h W hg =>
  h.of_old fun k hk _ => by rw [hg.block k (by simp; omega) (by intro e; injection e with e; omega)]; exact Below.heap_alloc _ _ _ hk
 have h := i_checkInfinitesimal (w.alloc (.cells #[va] tL)) vb (.slice (some ⟨w.heap.size, 0, none⟩) 1 1) w.heap.size [va] b [a] (own_lit w tL [va] (by simp [maxLen])) rfl (by simp) (by simp) (fun W hg => hlt h1 W hg)
  (fun k u zs W hu hz hg => by
   cases k with
   | zero => simp at hu hz; subst hu hz; exact hlt h2 W hg
   | succ k => simp at hu)
 exact h.mono fun e w' ⟨he, hg⟩ => ⟨he, (below1 w (.cells #[va] tL)).grown hg (by simp) (fun b hb => by simp [Value.ownBlock] at hb; omega)⟩
def ByB (w : World) (B : Nat) (A : Option Addr) (n : Nat) : Prop := ∀ k, k < n -> ∃ ad z, A = some ad /\ ad.block < B /\ ad.block < w.heap.size /\ 0 <= z /\ z <= 255 /\ w.cell? (ad.add k) = some (.int .u8 z)
def Bts (w : World) (v : Value) (n : Nat) : Prop := ∃ A c, v = .slice A n c /\ ByB w w.heap.size A n
def Src (w : World) (B : Nat) (t : TypeId) (p : Nat) : Prop := ∃ (A : Option Addr) (n c k : Nat) (h : Int), Blk w p t #[.slice A n c, .int .i64 k, .int .u64 h] /\ B <= p /\ ByB w B A n /\ k <= n /\ n <= 1000000 /\ 0 <= h /\ h < 18446744073709551616
abbrev at0 (p : Nat) : Value := .pointer (some ⟨p, 0, none⟩)
abbrev tDc : TypeId := 52
theorem ByB.grown {w w' : World} {B n p : Nat} {A : Option Addr} (h : ByB w B A n) (hg : w.grownBy w' (some p)) (hp : B <= p) : ByB w' B A n := fun k hk => by
 obtain ⟨ad, z, rfl, h1, h2, h3, h4, h5⟩ := h k hk
 refine ⟨ad, z, rfl, h1, Nat.lt_of_lt_of_le h2 hg.size, h3, h4, ?_⟩
 have hb : w'.heap[ad.block]? = w.heap[ad.block]? := hg.block ad.block h2 (fun e => by injection e with e; omega)
 rw [<- h5]
 unfold World.cell?
 simp only [block_add]
 rw [hb]
theorem gset (w : World) (g i : Nat) (u : Value) : w.grownBy (w.setCell ⟨g, i, none⟩ u) (some g) := by
 have b := Below.setCell (B := 0) (Below.refl 0 w) (p := ⟨g, i, none⟩) (Nat.zero_le _) u
 exact ⟨b.os, b.tape, b.output, b.size, fun k hk hne => Below.heap_setCell w _ u k (fun e => hne (by rw [e]))⟩
theorem w64_dr (x : Int) (h : -9223372036854775808 <= x /\ x <= 9223372036854775807) : wrap64 x = x := by unfold wrap64; omega
theorem u64_bd (x : Int) : 0 <= IntKind.u64.wrap x /\ IntKind.u64.wrap x < 18446744073709551616 := by rw [IntKind.wrap_u64]; omega
theorem bits_bd {x : Int} (h0 : 0 <= x) (h1 : x < 18446744073709551616) : 0 <= bits BinOp.and IntKind.u64 x 16777215 /\ bits BinOp.and IntKind.u64 x 16777215 <= 16777215 := by
 have h := bits_and_u64_nat x.toNat 16777215 (by omega) (by omega)
 rw [Int.toNat_of_nonneg h0] at h
 have h2 : x.toNat &&& 16777215 <= 16777215 := Nat.and_le_right
 rw [show (16777215 : Int) = ((16777215 : Nat) : Int) from rfl, h]
 omega
theorem hash_bd (z : Int) : ∃ x y : Int, x = IntKind.u64.wrap z /\ 0 <= x /\ x < 18446744073709551616 /\ y = bits BinOp.and IntKind.u64 (x / 8589934592) 16777215 /\ wrap64 (bits BinOp.and IntKind.u64 (x / 8589934592) 16777215) = y /\ 0 <= y /\ y <= 16777215 := by
 have h1 := u64_bd z
 have h2 := bits_bd (x := IntKind.u64.wrap z / 8589934592) (by omega) (by omega)
 exact ⟨_, _, rfl, h1.1, h1.2, rfl, w64_dr _ (by omega), h2.1, h2.2⟩
theorem rem_bd {x n : Int} (h0 : 0 <= x) (h1 : 1 <= n) : 0 <= x % n /\ x % n < n := ⟨Int.emod_nonneg _ (by omega), Int.emod_lt_of_pos _ (by omega)⟩
theorem gtrans {w w1 w2 : World} {b : Option Nat} (h : w.grownBy w1 b) (h' : w1.grownBy w2 b) : w.grownBy w2 b :=
 ⟨h'.os.trans h.os, h'.tape.trans h.tape, h'.output.trans h.output, Nat.le_trans h.size h'.size, fun k hk hne => (h'.block k (Nat.lt_of_lt_of_le hk h.size) hne).trans (h.block k hk hne)⟩
theorem gof {w w' : World} {r : Option Nat} (h : Below w.heap.size w w') : w.grownBy w' r := ⟨h.os, h.tape, h.output, h.size, fun k hk _ => h.block k hk⟩
set_option maxHeartbeats 4000000 in
theorem l_below (w : World) (B p : Nat) (n : Int) (h : Src w B tDc p) (hn : n <= 4611686018427387904) (hn0 : 1 <= n) :
  Calls Tryz.prog 42 #[at0 p, .int .i64 n] w fun e w' => ∃ x, e = .returned (.int .i64 x) /\ 0 <= x /\ x < n /\ w.grownBy w' (some p) /\ Src w' B tDc p := by
 obtain ⟨A, m, c, k, hs, hk, hB, hby, hkm, hm, h0, h1⟩ := h
 have HK := Lib.hid hk
 have HBY := Lib.hid hby
 have k2 : w.cell? ⟨p, 2, none⟩ = some (.int .u64 hs) := hk.cell 2
 have f2 : w.frozen? ⟨p, 2, none⟩ = false := hk.frozen 2
 clear hk hby
 go_enter Tryz.func42, Tryz.ntmps42
 go_upto_region 5 with fail
 obtain ⟨x, y, hx, x0, x1, hy, hw, y0, y1⟩ := hash_bd (IntKind.u64.wrap (hs * 6364136223846793005) + 1442695040888963407)
 rw [<- hx, hw, <- hy]
 clear hx hy hw h0 h1 f2 k2
 have HK1 := Lib.hid (HK.out.set_ 2 (.int .u64 x))
 have HG1 := Lib.hid (gset w p 2 (.int .u64 x))
 generalize w.setCell ⟨p, 2, none⟩ (.int .u64 x) = w1 at HK1 HG1 ⊢
 generalize x / 8589934592 = x9
 generalize IntKind.u64.wrap (hs * 6364136223846793005) = x8
 have HBY1 := Lib.hid (HBY.out.grown HG1.out hB)
 have HK1 := Lib.hid (show Blk w1 p tDc #[.slice A m c, .int .i64 k, .int .u64 x] from HK1.out)
 have k0 : w1.cell? ⟨p, 0, none⟩ = some (.slice A m c) := HK1.out.cell 0
 have k1 : w1.cell? ⟨p, 1, none⟩ = some (.int .i64 k) := HK1.out.cell 1
 have f1 : w1.frozen? ⟨p, 1, none⟩ = false := HK1.out.frozen 1
 clear HK HBY
 by_cases hlt : k < m
 · obtain ⟨ad, z, rfl, a1, a2, z0, z1, hc⟩ := HBY1.out k hlt
   have hkk : (k : Int) < (m : Int) := by omega
   have hw1 : wrap64 (y + z) = y + z := w64_dr _ (by omega)
   have hwk : wrap64 ((k : Int) + 1) = (k : Int) + 1 := w64_dr _ (by omega)
   clear a1 a2
   go_quiet (fail)
   go_upto_region 6 with fail
   rename Nat => nq0
   have k0' : (w1.drewN nq0).cell? ⟨p, 0, none⟩ = some (.slice (some ad) m c) := k0
   have k1' : (w1.drewN nq0).cell? ⟨p, 1, none⟩ = some (.int .i64 k) := k1
   have hc' : (w1.drewN nq0).cell? (ad.add k) = some (.int .u8 z) := hc
   go_quiet (fail)
   go_wp2_with fail
   go_ret
   obtain ⟨r0, r1⟩ := rem_bd (x := y + z) (n := n) (by omega) hn0
   have HB2 : w1.grownBy ((w1.drewN (nq0 + nq)).setCell ⟨p, 1, none⟩ (.int .i64 ((k : Int) + 1))) (some p) := gtrans (gof (below_drewN (Below.refl _ _) _)) (gset _ _ _ _)
   exact ⟨_, rfl, r0, r1, gtrans HG1.out HB2, some ad, m, c, k + 1, x, by simpa using (HK1.out.drewN _).set_ 1 (.int .i64 ((k : Int) + 1)), hB, HBY1.out.grown HB2 hB, hlt, hm, x0, x1⟩
 · have hkk : ¬ ((k : Int) < (m : Int)) := by omega
   go_quiet (fail)
   go_wp2_with fail
   go_ret
   obtain ⟨r0, r1⟩ := rem_bd (x := y) (n := n) (by omega) hn0
   rename Nat => nq0
   have HB2 : w1.grownBy (w1.drewN nq0) (some p) := gof (below_drewN (Below.refl _ _) _)
   exact ⟨_, rfl, r0, r1, gtrans HG1.out HB2, A, m, c, k, x, HK1.out.drewN _, hB, HBY1.out.grown HB2 hB, hkm, hm, x0, x1⟩
theorem Src.kept {w w' : World} {B p : Nat} {t : TypeId} {r : Option Nat} (h : Src w B t p) (hg : w.grownBy w' r) (hne : r ≠ some p) (hr : ∀ b, r = some b -> B <= b) : Src w' B t p := by
 obtain ⟨A, m, c, k, hs, hk, hB, hby, h1⟩ := h
 refine ⟨A, m, c, k, hs, (hg.block p hk.lt (fun e => hne e.symm)).trans hk, hB, fun j hj => ?_, h1⟩
 obtain ⟨ad, z, rfl, a1, a2, z0, z1, hc⟩ := hby j hj
 refine ⟨ad, z, rfl, a1, Nat.lt_of_lt_of_le a2 hg.size, z0, z1, ?_⟩
 have hb : w'.heap[ad.block]? = w.heap[ad.block]? := hg.block ad.block a2 (fun e => by have := hr _ e.symm; omega)
 rw [<- hc]
 unfold World.cell?
 simp only [block_add]
 rw [hb]
theorem Src.below {w w' : World} {B p : Nat} {t : TypeId} (h : Src w B t p) (hg : Below w.heap.size w w') : Src w' B t p := h.kept (r := none) (gof hg) (by simp) (by simp)
theorem Src.ge {w : World} {B p : Nat} {t : TypeId} (h : Src w B t p) : B <= p := by obtain ⟨A, m, c, k, hs, hk, hB, -⟩ := h; exact hB
theorem Src.lt {w : World} {B p : Nat} {t : TypeId} (h : Src w B t p) : p < w.heap.size := by obtain ⟨A, m, c, k, hs, hk, hB, -⟩ := h; exact hk.lt
set_option maxHeartbeats 4000000 in
theorem l_roll (w : World) (A : Option Addr) (n c : Nat) (s : Int) (hb : ByB w w.heap.size A n) (hn : n <= 1000000) (hs0 : 0 <= s) (hs1 : s <= 100000) :
  Calls Tryz.prog 7 #[.slice A n c, .int .u64 s] w fun e w' => ∃ p, e = .returned (at0 p) /\ Src w' w.heap.size tDc p /\ Below w.heap.size w w' := by
 have HBY := Lib.hid hb
 have hs2 : 0 <= s * 8111 + (n : Int) /\ s * 8111 + (n : Int) < 18446744073709551616 := by omega
 clear hb
 go_enter Tryz.func7, Tryz.ntmps7
 go_wp2_with fail
 obtain ⟨h0, hh0⟩ : ∃ h0, h0 = s * 8111 + (n : Int) := ⟨_, rfl⟩
 rw [<- hh0] at hs2 ⊢
 obtain ⟨W, hW⟩ : ∃ W, W = w.alloc (Obj.cells #[Value.slice A n c, Value.int IntKind.i64 0, Value.int IntKind.u64 h0] tDc) := ⟨_, rfl⟩
 have HBW := Lib.hid (show Below w.heap.size w W from by rw [hW]; exact below1 w _)
 have HK := Lib.hid (show Blk W w.heap.size tDc #[Value.slice A n c, Value.int IntKind.i64 0, Value.int IntKind.u64 h0] from by rw [hW]; exact Blk.new _ _ _)
 rw [<- hW]
 clear hW hh0
 obtain ⟨g0, g1⟩ := hs2
 go_loopw [6] (fun x wr => ∃ (j : Nat) (h : Int), j <= n /\ x = .int .i64 j /\ 0 <= h /\ h < 18446744073709551616 /\ Blk wr w.heap.size tDc #[Value.slice A n c, Value.int IntKind.i64 0, Value.int IntKind.u64 h] /\ Below w.heap.size w wr) (fun x _ => n - (intOf x).toNat)
 case atStart => exact ⟨0, h0, Nat.zero_le _, rfl, g0, g1, HK.out, HBW.out⟩
 case round =>
  obtain ⟨j, h, hj, rfl, q0, q1, hk, hb⟩ := hrel
  rename World => wq
  clear HK HBW
  have HK := Lib.hid hk
  have HB := Lib.hid hb
  have k2 : wq.cell? ⟨w.heap.size, 2, none⟩ = some (.int .u64 h) := hk.cell 2
  have f2 : wq.frozen? ⟨w.heap.size, 2, none⟩ = false := hk.frozen 2
  clear hk hb
  by_cases hlt : j < n
  · have hjj : (j : Int) < (n : Int) := by omega
    obtain ⟨ad, z, rfl, a1, a2, z0, z1, hc⟩ := HBY.out j hlt
    have hc1 : wq.cell? (ad.add j) = some (.int .u8 z) := by rw [HB.out.cell (by rw [block_add]; exact a1)]; exact hc
    have hjk : wrap64 ((j : Int) + 1) = (j : Int) + 1 := w64_dr _ (by omega)
    clear a1 a2 hc
    go_upto_region 5 with fail
    go_region_law (fail)
    all_goals
     obtain ⟨y, hy⟩ : ∃ y, y = IntKind.u64.wrap (IntKind.u64.wrap (IntKind.u64.wrap (h * 1099511628211) + IntKind.u64.wrap z) + 5) := ⟨_, rfl⟩
     obtain ⟨b0, b1⟩ : 0 <= y /\ y < 18446744073709551616 := by rw [hy]; exact u64_bd _
     rw [<- hy]
     clear hy
     go_wp2_with fail
     go_roundw
     case rel =>
      exact ⟨j + 1, _, by omega, by go_num, b0, b1, (HK.out.set_ 2 _).drewN 1, (HB.out.setCell (Nat.le_refl _) _).drew⟩
     case measure => simp [intOf]; omega
  · have hjn : j = n := by omega
    subst hjn
    go_wp2_with fail
    go_ret
    exact ⟨_, rfl, ⟨A, j, c, 0, h, HK.out, Nat.le_refl _, fun k hk => by obtain ⟨ad, z, e, a1, a2, z0, z1, hc⟩ := HBY.out k hk; exact ⟨ad, z, e, a1, Nat.lt_of_lt_of_le a1 HB.out.size, z0, z1, by rw [HB.out.cell (by rw [block_add]; exact a1)]; exact hc⟩, Nat.zero_le _, hn, q0, q1⟩, HB.out⟩
theorem gthen {w w1 w2 : World} {p : Nat} {r : Option Nat} (h : w.grownBy w1 (some p)) (h' : w1.grownBy w2 r) (hr : ∀ b, r = some b -> w.heap.size <= b) : w.grownBy w2 (some p) :=
 ⟨h'.os.trans h.os, h'.tape.trans h.tape, h'.output.trans h.output, Nat.le_trans h.size h'.size, fun k hk hne => (h'.block k (Nat.lt_of_lt_of_le hk h.size) (fun e => by have := hr _ e.symm; omega)).trans (h.block k hk hne)⟩
theorem Own.src {w w' : World} {C p : Nat} {e : TypeId} {v : Value} {vs : List Value} (h : Own w C e v vs) (hp : p < C) (hg : w.grownBy w' (some p)) : Own w' C e v vs := h.kept hg (by
 cases hb : v.ownBlock with
 | none => exact .inl rfl
 | some b => exact .inr fun e => by injection e with e; have := h.ge b hb; omega)
theorem brZ_len (b c : List Int) : (brZ b c).length = 38 := by simp [brZ]
theorem brZ_nums (b c : List Int) : Nums (brZ b c) := by
 intro z hz
 obtain ⟨k, -, rfl⟩ := List.mem_map.1 hz
 omega
theorem br_is (b c : List Int) : addk 10006 (acY b c) (acY c b) = brZ b c := by
 refine nums_ext (addTo_nums _ _ _ _) (brZ_nums b c) (by show (addTo _ _ _ _).length = 38; rw [addTo_len, acY_len]) (brZ_len b c) fun p hp => ?_
 rw [addk_gz 10006 _ _ (by rw [acY_len]; exact hp), brZ_gz b c hp]
 have e1 := acY_gz b c hp
 have e2 := acY_gz c b hp
 generalize gz (acY b c) p = u at *
 generalize gz (acY c b) p = v at *
 generalize actV (gz b) (gz c) p = x at *
 generalize actV (gz c) (gz b) p = y at *
 omega
theorem brZ_head (b c : List Int) : (brZ b c).getD 0 0 = 0 := by
 have h := brZ_gz b c (p := 0) (by omega)
 have e : (brZ b c).getD 0 0 = gz (brZ b c) 0 := rfl
 have b1 := getD_nums (brZ_nums b c) 0
 have a1 : actV (gz b) (gz c) 0 = 0 := rfl
 have a2 : actV (gz c) (gz b) 0 = 0 := rfl
 rw [a1, a2] at h
 rw [e] at b1 ⊢
 omega
set_option maxHeartbeats 8000000 in
theorem i_bracket (w : World) (vp va vc : Value) (Af : Option Addr) (cf Bp : Nat) (b c : List Int) (hP : FrC w Bp vp) (h1 : Ints w va b) (l1 : b.length = 38) (n1 : Nums b) (h2 : Ints w vc c) (l2 : c.length = 38) (n2 : Nums c) :
  Calls Tryz.prog 110 #[.agg #[.slice Af 37 cf, vp], va, vc] w fun e w' => ∃ r, e = .returned r /\ OwnInts w' w.heap.size tI r (brZ b c) /\ Below w.heap.size w w' := by
 obtain ⟨Ay, cy, rfl, -⟩ := hP.at_
 obtain ⟨Aa, ca, rfl, -, -, -⟩ := h1.open_
 obtain ⟨Ac, cc, rfl, -, -, -⟩ := h2.open_
 rw [l1] at h1 ⊢
 rw [l2] at h2 ⊢
 obtain ⟨W, hW⟩ : ∃ W, W = w.alloc (.cells #[.slice Af 37 cf, .slice Ay 37 cy] tFo) := ⟨_, rfl⟩
 have hbw : Below w.heap.size w W := by rw [hW]; exact below1 w _
 have HBW := Lib.hid hbw
 have HKF := Lib.hid (show Blk W w.heap.size tFo #[.slice Af 37 cf, .slice Ay 37 cy] from by rw [hW]; exact Blk.new _ _ _)
 have HA1 := Lib.hid (show ∀ X, Below W.heap.size W X -> Calls Tryz.prog 97 #[.agg #[.slice Af 37 cf, .slice Ay 37 cy], .slice Aa 38 ca, .slice Ac 38 cc] X (fun e w' => ∃ r, e = .returned r /\ OwnInts w' W.heap.size tI r (acY b c) /\ Below W.heap.size W w') from fun X hX => by
  have h := i_actOn X (.slice Ay 37 cy) (.slice Aa 38 ca) (.slice Ac 38 cc) Af cf Bp b c ((hP.below hbw).below hX) ((h1.below hbw).below hX) l1 n1 ((h2.below hbw).below hX) l2 n2
  exact h.mono (by rintro e w5 ⟨r5, rfl, ho5, hb5⟩; exact ⟨r5, rfl, ho5.mono hX.size, hX.trans (hb5.mono hX.size)⟩))
 have HA2 := Lib.hid (show ∀ X, Below W.heap.size W X -> Calls Tryz.prog 97 #[.agg #[.slice Af 37 cf, .slice Ay 37 cy], .slice Ac 38 cc, .slice Aa 38 ca] X (fun e w' => ∃ r, e = .returned r /\ OwnInts w' W.heap.size tI r (acY c b) /\ Below X.heap.size X w' /\ Below W.heap.size W w') from fun X hX => by
  have h := i_actOn X (.slice Ay 37 cy) (.slice Ac 38 cc) (.slice Aa 38 ca) Af cf Bp c b ((hP.below hbw).below hX) ((h2.below hbw).below hX) l2 n2 ((h1.below hbw).below hX) l1 n1
  exact h.mono (by rintro e w5 ⟨r5, rfl, ho5, hb5⟩; exact ⟨r5, rfl, ho5.mono hX.size, hb5, hX.trans (hb5.mono hX.size)⟩))
 have HPL := Lib.hid (show ∀ X r s, Below W.heap.size W X -> Ints X r (acY b c) -> Ints X s (acY c b) -> Calls Tryz.prog 98 #[r, s, .int .i64 (-1)] X (fun e w' => ∃ x, e = .returned x /\ OwnInts w' W.heap.size tI x (brZ b c) /\ Below W.heap.size W w') from fun X r s hX hr hs => by
  have h := i_plus X r s (acY b c) (acY c b) (-1) hr hs (acY_nums _ _) (acY_nums _ _) (by rw [acY_len, acY_len]; exact Nat.le_refl _) (by rw [acY_len]; omega) (by omega) (by omega)
  rw [show (-1 : Int) % 10007 = 10006 from by decide, br_is] at h
  exact h.mono (by rintro e w5 ⟨r5, rfl, ho5, hb5⟩; exact ⟨r5, rfl, ho5.mono hX.size, hX.trans (hb5.mono hX.size)⟩))
 have q0 : W.cell? ⟨w.heap.size, 0, none⟩ = some (.slice Af 37 cf) := HKF.out.cell 0
 have q1 : W.cell? ⟨w.heap.size, 1, none⟩ = some (.slice Ay 37 cy) := HKF.out.cell 1
 clear hP h1 h2 l1 l2 n1 n2 hbw
 go_enter Tryz.func110, Tryz.ntmps110
 go_upto_region 1 with fail
 rw [<- hW]
 clear hW
 go_region_law (first
  | (go_simp; go_at_call 97; (with_reducible refine ((HA1.out _ ?_).mono ?_)); (first | exact Below.refl _ _ | exact (Below.refl _ _).drew); go_loud (rintro e w5 ⟨r5, rfl, ho5, hb5⟩; have HO5 := Lib.hid ho5; have HB5 := Lib.hid hb5; have m1 : w5.cell? ⟨w.heap.size, 0, none⟩ = some (.slice Af 37 cf) := (HKF.out.below hb5 HKF.out.lt).cell 0; have m2 : w5.cell? ⟨w.heap.size, 1, none⟩ = some (.slice Ay 37 cy) := (HKF.out.below hb5 HKF.out.lt).cell 1; clear ho5 hb5))
  | (go_simp; go_at_call 97; (with_reducible refine ((HA2.out _ ?_).mono ?_)); (first | exact HB5.out | exact HB5.out.drew); go_loud (rintro e w6 ⟨r6, rfl, ho6, hb6', hb6⟩; have HO6 := Lib.hid ho6; have HB6 := Lib.hid hb6; have HO56 := Lib.hid (HO5.out.below (by first | exact hb6' | exact below_of_drew hb6')); clear ho6 hb6 hb6'))
  | (go_simp; go_at_call 98; (with_reducible refine ((HPL.out _ _ _ ?_ ?_ ?_).mono ?_)); (first | exact HB6.out | exact HB6.out.drew); (exact HO56.out.ints); (exact HO6.out.ints); go_loud (rintro e w7 ⟨r7, rfl, ho7, hb7⟩; have HO7 := Lib.hid ho7; have HB7 := Lib.hid hb7; clear ho7 hb7)))
 all_goals
  go_wp2_with fail
  go_ret
  exact ⟨_, rfl, HO7.out.mono HBW.out.size, HBW.out.trans (HB7.out.mono HBW.out.size)⟩
theorem inf_map {b : List Int} (l : b.length = 38) (n : Nums b) : mapB b = true := by
 unfold mapB
 rw [Bool.and_eq_true]
 exact ⟨by simp [l], nums_iff.2 n⟩
set_option maxHeartbeats 2000000 in
theorem i_checkBoth0 (w : World) (vb vc : Value) (b c : List Int) (h1 : Ints w vb b) (l1 : b.length = 38) (n1 : Nums b) (b0 : b.getD 0 0 = 0) (h2 : Ints w vc c) (l2 : c.length = 38) (n2 : Nums c) (c0 : c.getD 0 0 = 0) :
  Calls Tryz.prog 109 #[vb, vc] w fun e w' => e = .returned (.int .i64 0) /\ Below w.heap.size w w' := by
 have HC2 := Lib.hid (i_checkInf2 w vb vc b c h1 h2)
 rw [show infA b [c] = 0 from by rw [infA_one, inf_map l1 n1, inf_map l2 n2, Bool.and_self, if_pos rfl, if_pos b0]] at HC2
 have HC1 := Lib.hid (fun X (hX : Below w.heap.size w X) => i_checkInf1 X vc c (h2.below hX))
 rw [show infC c = 0 from by unfold infC; rw [if_pos (inf_map l2 n2), if_pos c0]] at HC1
 obtain ⟨Ac, cc, rfl, -, -, -⟩ := h2.open_
 clear h1 h2 l1 l2 n1 n2 b0 c0
 go_enter Tryz.func109, Tryz.ntmps109
 go_wp2_with (first
  | (go_at_call 44; (with_reducible refine (HC2.out.mono ?_)); go_loud (rintro e w1 ⟨rfl, hb1⟩; have HB1 := Lib.hid hb1; clear hb1))
  | (go_at_call 44; go_loud (refine (HC1.out _ HB1.out).mono ?_; rintro e w2 ⟨rfl, hb2⟩; have HB2 := Lib.hid (HB1.out.trans (hb2.mono HB1.out.size)); clear hb2)))
 go_ret
 exact ⟨rfl, HB2.out⟩
set_option maxHeartbeats 2000000 in
theorem i_BracketOf0 (w : World) (vb vc : Value) (b c : List Int) (h1 : Ints w vb b) (l1 : b.length = 38) (n1 : Nums b) (b0 : b.getD 0 0 = 0) (h2 : Ints w vc c) (l2 : c.length = 38) (n2 : Nums c) (c0 : c.getD 0 0 = 0) :
  Calls Tryz.prog 53 #[vb, vc] w fun e w' => ∃ x, e = .returned (.tuple #[x, .int .i64 0]) /\ OwnInts w' w.heap.size tI x (brZ b c) /\ Below w.heap.size w w' := by
 have HCH := Lib.hid (i_checkBoth0 w vb vc b c h1 l1 n1 b0 h2 l2 n2 c0)
 have HMM := Lib.hid (fun X Af cf Bp vp (hX : Below w.heap.size w X) (hP : FrC X Bp vp) => i_bracket X vp vb vc Af cf Bp b c hP (h1.below hX) l1 n1 (h2.below hX) l2 n2)
 clear h1 h2 l1 l2 n1 n2 b0 c0
 go_enter Tryz.func53, Tryz.ntmps53
 go_wp2_with (first
  | (go_at_call 109; refine HCH.out.mono ?_; rintro e w0 ⟨rfl, hb0⟩; have HB0 := Lib.hid hb0; clear hb0)
  | (go_at_call 46; go_loud (refine (i_newForms _).mono ?_; rintro e w1 ⟨f, rfl, hf, hb1⟩; obtain ⟨Af, cf, Ay, cy, rfl, hrf, hfc⟩ := hf.openC; have HFC := Lib.hid hfc; have HB1 := Lib.hid (HB0.out.trans (hb1.mono HB0.out.size)); clear hf hrf hfc hb1))
  | (go_at_call 110; go_loud (refine (HMM.out _ _ _ _ _ HB1.out HFC.out).mono ?_; rintro e w3 ⟨x3, rfl, ho3, hb3⟩; have HO3 := Lib.hid ho3; have HB3 := Lib.hid hb3; clear ho3 hb3)))
 go_ret2
 exact ⟨_, rfl, HO3.out.mono HB1.out.size, HB1.out.trans (HB3.out.mono HB1.out.size)⟩
set_option maxHeartbeats 1000000 in
theorem l_bracket9 (w : World) (vb vc : Value) (b c : List Int) (h1 : Ints w vb b) (l1 : b.length = 38) (n1 : Nums b) (b0 : b.getD 0 0 = 0) (h2 : Ints w vc c) (l2 : c.length = 38) (n2 : Nums c) (c0 : c.getD 0 0 = 0) :
  Calls Tryz.prog 15 #[vb, vc] w fun e w' => ∃ x, e = .returned x /\ OwnInts w' w.heap.size tI x (brZ b c) /\ Below w.heap.size w w' := by
 have HC := Lib.hid (i_BracketOf0 w vb vc b c h1 l1 n1 b0 h2 l2 n2 c0)
 clear h1 h2 l1 l2 n1 n2 b0 c0
 go_enter Tryz.func15, Tryz.ntmps15
 go_wp2_with (go_at_call 53; refine HC.out.mono ?_; rintro e w3 ⟨x3, rfl, ho3, hb3⟩; have HO3 := Lib.hid ho3; have HB3 := Lib.hid hb3; clear ho3 hb3)
 go_ret
 exact ⟨_, rfl, HO3.out, HB3.out⟩
set_option maxHeartbeats 2000000 in
theorem i_ExpMap0 (w : World) (vb : Value) (b : List Int) (h1 : Ints w vb b) (l1 : b.length = 38) (n1 : Nums b) (b0 : b.getD 0 0 = 0) :
  Calls Tryz.prog 9 #[vb] w fun e w' => ∃ x, e = .returned (.tuple #[x, .int .i64 0]) /\ OwnInts w' w.heap.size tI x (expZ b) /\ Below w.heap.size w w' := by
 have HCH := Lib.hid (i_checkInf1 w vb b h1)
 rw [show infC b = 0 from by unfold infC; rw [if_pos (inf_map l1 n1), if_pos b0]] at HCH
 have HMM := Lib.hid (fun X Af cf Bp vp (hX : Below w.heap.size w X) (hP : FrC X Bp vp) => i_expMap X vp vb Af cf Bp b hP (h1.below hX) l1 n1)
 clear h1 l1 n1 b0
 go_enter Tryz.func9, Tryz.ntmps9
 go_wp2_with (first
  | (go_at_call 44; refine HCH.out.mono ?_; rintro e w0 ⟨rfl, hb0⟩; have HB0 := Lib.hid hb0; clear hb0)
  | (go_at_call 46; go_loud (refine (i_newForms _).mono ?_; rintro e w1 ⟨f, rfl, hf, hb1⟩; obtain ⟨Af, cf, Ay, cy, rfl, hrf, hfc⟩ := hf.openC; have HFC := Lib.hid hfc; have HB1 := Lib.hid (HB0.out.trans (hb1.mono HB0.out.size)); clear hf hrf hfc hb1))
  | (go_at_call 45; go_loud (refine (HMM.out _ _ _ _ _ HB1.out HFC.out).mono ?_; rintro e w3 ⟨x3, rfl, ho3, hb3⟩; have HO3 := Lib.hid ho3; have HB3 := Lib.hid hb3; clear ho3 hb3)))
 go_ret2
 exact ⟨_, rfl, HO3.out.mono HB1.out.size, HB1.out.trans (HB3.out.mono HB1.out.size)⟩
set_option maxHeartbeats 4000000 in
theorem i_OrderOfMap0 (w : World) (va : Value) (a : List Int) (h1 : Ints w va a) (h : Chr a) :
  Calls Tryz.prog 19 #[va] w fun e w' => e = .returned (.tuple #[.int .i64 (agZ a EX), .int .i64 0]) /\ Below w.heap.size w w' := by
 have HCH := Lib.hid (i_checkCharacter w va a h1)
 rw [show chrC a = 0 from by unfold chrC; rw [if_pos (inf_map h.len h.num), if_pos h.one]] at HCH
 obtain ⟨Aa, ca, rfl, -, -, -⟩ := h1.open_
 have HA := Lib.hid h1
 have HL := Lib.hid h.len
 clear h1 h
 go_enter Tryz.func19, Tryz.ntmps19
 go_upto_region 5 with (first
  | (go_at_call 48; refine HCH.out.mono ?_; rintro e w0 ⟨rfl, hb0⟩; have HB0 := Lib.hid (show Below w.heap.size w w0 from by first | exact hb0 | (rw [<- hb0]; exact Below.refl _ _)); clear hb0)
  | (go_at_call 46; go_loud (refine (i_newForms _).mono ?_; rintro e w1 ⟨f, rfl, hf, hb1⟩; obtain ⟨Af, cf, Ay, my, cy, rfl, hrf⟩ := hf.opens'; have HRF := Lib.hid hrf; have HB1 := Lib.hid (HB0.out.trans (hb1.mono HB0.out.size)); clear hf hrf hb1)))
 obtain ⟨q, hq⟩ : ∃ q, q = w1.heap.size := ⟨_, rfl⟩
 obtain ⟨W, hW⟩ : ∃ W, W = w1.alloc (.cells #[.slice Af 37 cf, .slice Ay my cy] tFo) := ⟨_, rfl⟩
 have HKF := Lib.hid (show Blk W q tFo #[.slice Af 37 cf, .slice Ay my cy] from by rw [hW, hq]; exact Blk.new _ _ _)
 have HBW := Lib.hid (show Below w.heap.size w W from by rw [hW]; exact HB1.out.trans ((below1 w1 _).mono HB1.out.size))
 have HRW := Lib.hid (show Rows W (.slice Af 37 cf) (T6n.map up) from by rw [hW]; exact HRF.out.below (below1 _ _))
 have HAW := Lib.hid (HA.out.below HBW.out)
 rw [<- hW, <- hq]
 clear hW hq HRF HB1 HA HCH
 have HEX := Lib.hid (show ∀ X, Below W.heap.size W X -> Calls Tryz.prog 66 #[.agg #[.slice Af 37 cf, .slice Ay my cy]] X (fun e w' => ∃ x, e = .returned x /\ OwnInts w' W.heap.size tI x EX /\ Below W.heap.size W w') from fun X hX => by
  have h := i_exactMap X (.slice Af 37 cf) Ay my cy (HRW.out.below hX)
  exact h.mono (by rintro e w5 ⟨r5, rfl, ho5, hb5⟩; exact ⟨r5, rfl, ho5.mono hX.size, hX.trans (hb5.mono hX.size)⟩))
 have HAG := Lib.hid (show ∀ X x, Below W.heap.size W X -> Ints X x EX -> Calls Tryz.prog 65 #[.agg #[.slice Af 37 cf, .slice Ay my cy], .slice Aa a.length ca, x] X (fun e w' => e = .returned (.int .i64 (agZ a EX)) /\ Below W.heap.size W w') from fun X x hX hx => by
  have h := i_agreeTo X (.slice Af 37 cf) (.slice Aa a.length ca) x Ay my cy a EX (HRW.out.below hX) (HAW.out.below hX) hx HL.out EX_len
  exact h.mono (by rintro e w5 ⟨rfl, hb5⟩; exact ⟨rfl, hX.trans (hb5.mono hX.size)⟩))
 have q0 : W.cell? ⟨q, 0, none⟩ = some (.slice Af 37 cf) := HKF.out.cell 0
 have q1 : W.cell? ⟨q, 1, none⟩ = some (.slice Ay my cy) := HKF.out.cell 1
 go_region_law (first
  | (go_simp; go_at_call 66; (with_reducible refine ((HEX.out _ ?_).mono ?_)); (first | exact Below.refl _ _ | exact (Below.refl _ _).drew); go_loud (rintro e w5 ⟨r5, rfl, ho5, hb5⟩; have HO5 := Lib.hid ho5; have HB5 := Lib.hid hb5; have m1 : w5.cell? ⟨q, 0, none⟩ = some (.slice Af 37 cf) := (HKF.out.below hb5 HKF.out.lt).cell 0; have m2 : w5.cell? ⟨q, 1, none⟩ = some (.slice Ay my cy) := (HKF.out.below hb5 HKF.out.lt).cell 1; clear ho5 hb5))
  | (go_simp; go_at_call 65; (with_reducible refine ((HAG.out _ _ ?_ ?_).mono ?_)); (first | exact HB5.out | exact HB5.out.drew); (exact HO5.out.ints); go_loud (rintro e w6 ⟨rfl, hb6⟩; have HB6 := Lib.hid hb6; clear hb6)))
 all_goals
  go_wp2_with fail
  go_ret2
  exact ⟨rfl, HBW.out.trans (HB6.out.mono HBW.out.size)⟩
def lenV9 : Value -> Nat
 | .slice _ n _ => n
 | _ => 0
set_option maxHeartbeats 8000000 in
theorem l_hamilton9 (w : World) (B p : Nat) (h : Src w B tDc p) :
  Calls Tryz.prog 8 #[at0 p] w fun e w' => ∃ x, e = .returned x /\ ∃ zs, Nums zs /\ OwnInts w' w.heap.size tI x (hamZ zs) /\ w.grownBy w' (some p) /\ Src w' B tDc p := by
 have hpl := h.lt
 have hpg := h.ge
 have OL := Lib.hid (own_lit w tI [] (by simp [maxLen]))
 have HS0 := Lib.hid (h.below (below1 w (.cells #[] tI)))
 clear h
 go_enter Tryz.func8, Tryz.ntmps8
 go_wp2_with fail
 go_loopw [3] (fun o wr => ∃ (zs : List Int) (A : Option Addr) (c : Nat), zs.length <= 10 /\ o = .slice A zs.length c /\ OwnInts wr w.heap.size tI o zs /\ Hid (Nums zs) /\ w.grownBy wr (some p) /\ Src wr B tDc p) (fun o _ => 10 - lenV9 o)
 case atStart => exact ⟨[], _, _, Nat.zero_le _, rfl, ⟨by simpa [ints] using OL.out, by simp⟩, (fun z hz => by cases hz), gof (below1 w _), HS0.out⟩
 case round =>
  obtain ⟨zs, A, c, hl, rfl, ho, HN, hg, hs⟩ := hrel
  rename World => wq
  clear OL HS0
  have HO := Lib.hid ho
  have HG := Lib.hid hg
  have HS := Lib.hid hs
  clear ho hg hs
  by_cases hlt : zs.length < 10
  · have hli : (zs.length : Int) < 10 := by omega
    go_wp2_with (first
     | (go_at_call 42; go_loud (refine (l_below wq B p 10007 HS.out (by omega) (by omega)).mono ?_; rintro e w1 ⟨x, rfl, x0, x1, hg, hs⟩; have HX := Lib.hid (And.intro x0 x1); have HG1 := Lib.hid (gtrans HG.out hg); have HS1 := Lib.hid hs; have HO1 := Lib.hid (show OwnInts w1 w.heap.size tI (.slice A zs.length c) zs from ⟨HO.out.1.src hpl hg, HO.out.2⟩); clear hg hs x0 x1))
     | (at_builtin; go_loud (refine wpList_app1 T_int HO1.out.1 (by rw [ints_len]; omega) HG1.out.size (by rfl) rfl (by rfl) (by rfl) (by rfl) ?_; intro v3 w3 hown3 hgr3; obtain ⟨A3, c3, hv3, -, -⟩ := hown3.cells.open_; rw [show (ints zs ++ [Value.int .i64 x]).length = (zs ++ [x]).length from by simp [ints]] at hv3; subst hv3; have HN3 := Lib.hid hown3; have HR3 := Lib.hid hgr3; clear hown3 hgr3)))
    go_roundw
    case rel =>
     refine ⟨zs ++ [x], A3, c3, by simp; omega, by rw [List.length_append, List.length_singleton], ⟨by simpa [ints] using HN3.out, fun y hy => ?_⟩, (fun y hy => ?_), gthen HG1.out HR3.out.1 HO1.out.1.ge, HS1.out.kept HR3.out.1 (fun e => by have := HO1.out.1.ge _ e; omega) (fun b hb => ?_)⟩
     · rcases List.mem_append.1 hy with hy | hy
       · exact HO1.out.2 y hy
       · simp at hy; subst hy; have := HX.out; unfold In64; omega
     · rcases List.mem_append.1 hy with hy | hy
       · exact HN.out y hy
       · simp at hy; subst hy; have := HX.out; omega
     · exact Nat.le_trans (Nat.le_trans HS1.out.ge (Nat.le_of_lt hpl)) (HO1.out.1.ge b hb)
    case measure => simp [lenV9]; omega
  · have hl10 : zs.length = 10 := by omega
    obtain ⟨g, cap, hge, hgg⟩ : ∃ g cap, Value.slice A zs.length c = .slice (some ⟨g, 0, none⟩) zs.length cap /\ w.heap.size <= g := by
     rcases HO.out.1.cases with ⟨-, e⟩ | ⟨g, cap, cur, e, hb, -⟩
     · have := congrArg List.length e
       rw [ints_len] at this
       simp at this
       subst this
       simp at hl10
     · rw [ints_len] at e
       exact ⟨g, cap, e, hb⟩
    simp only [Value.slice.injEq, true_and] at hge
    obtain ⟨rfl, rfl⟩ := hge
    have HL := Lib.hid hl10
    rw [hl10] at HO ⊢
    clear hl10 hl hlt
    have HHM := Lib.hid (fun (X : World) (ys : List Int) (hy : Ints X (.slice (some ⟨g, 0, none⟩) 10 c) ys) (hl : ys.length = 10) (hn : Nums ys) => by
     have h := i_HamiltonianOf X _ ys hy
     have ho : hamOk ys = true := by unfold hamOk; rw [Bool.and_eq_true]; exact ⟨decide_eq_true hl, nums_iff.2 hn⟩
     rw [show hamC ys = 0 from if_pos ho, show hamR ys = hamZ ys from if_pos ho] at h
     exact h)
    go_upto_if 17 with (go_at_call 42; go_loud (refine (l_below wq B p 2 HS.out (by omega) (by omega)).mono ?_; rintro e w1 ⟨x, rfl, x0, x1, hg, hs⟩; have HG1 := Lib.hid (gtrans HG.out hg); have HS1 := Lib.hid hs; have HO1 := Lib.hid (show OwnInts w1 w.heap.size tI (.slice (some ⟨g, 0, none⟩) 10 c) zs from ⟨HO.out.1.src hpl hg, HO.out.2⟩); clear hg hs x0 x1))
    generalize (x == 0) = cc at *
    cases cc with
    | true =>
     obtain ⟨u0, -, hc, hfz, -, -, hst, hgw⟩ := Own.storeAt HO1.out.1 (k := 0) (by rw [ints_len, HL.out]; omega) (.int .i64 1)
     have HI2 := Lib.hid (show Ints (w1.setCell ⟨g, 0, none⟩ (.int .i64 1)) (.slice (some ⟨g, 0, none⟩) 10 c) (zs.set 0 1) from ⟨by have h := hst.cells; rw [show (ints zs).set 0 (.int .i64 1) = ints (zs.set 0 1) from by simp [ints, List.map_set]] at h; exact h, fun y hy => by
      rcases List.mem_or_eq_of_mem_set hy with hy | rfl
      · exact HO1.out.2 y hy
      · unfold In64; omega⟩)
     have HN2 := Lib.hid (show Nums (zs.set 0 1) from fun y hy => by
      rcases List.mem_or_eq_of_mem_set hy with hy | rfl
      · exact HN.out y hy
      · omega)
     have HG2 := Lib.hid (gthen HG1.out hgw (by rintro b ⟨⟩; exact hgg))
     have HS2 := Lib.hid (HS1.out.kept hgw (fun e => by injection e with e; omega) (by rintro b ⟨⟩; have := HS1.out.ge; omega))
     clear hst hgw
     go_wp2_with (go_at_call 43; go_loud (refine (HHM.out _ (zs.set 0 1) HI2.out (by rw [List.length_set]; exact HL.out) HN2.out).mono ?_; rintro e w3 ⟨x3, rfl, ho3, hb3⟩; have HO3 := Lib.hid ho3; have HB3 := Lib.hid hb3; clear ho3 hb3))
     go_ret
     exact ⟨_, rfl, _, HN2.out, HO3.out.mono HG2.out.size, gtrans HG2.out (gof HB3.out), HS2.out.below HB3.out⟩
    | false =>
     go_wp2_with (go_at_call 43; go_loud (refine (HHM.out _ zs HO1.out.ints HL.out HN.out).mono ?_; rintro e w3 ⟨x3, rfl, ho3, hb3⟩; have HO3 := Lib.hid ho3; have HB3 := Lib.hid hb3; clear ho3 hb3))
     go_ret
     exact ⟨_, rfl, _, HN.out, HO3.out.mono HG1.out.size, gtrans HG1.out (gof HB3.out), HS1.out.below HB3.out⟩
theorem Blk.grow {w w' : World} {g : Nat} {t : TypeId} {cs : Array Value} {v v' : Value} (h : Blk w g t cs) (hg : Grow w w' v v') (hne : v.ownBlock ≠ some g) : Blk w' g t cs :=
 (hg.1.block g h.lt (fun e => hne e.symm)).trans h
structure Fill (w0 w : World) (p : Nat) (va vb : Value) (vs : List Value) (N : Nat) (rows : List (List Int)) (Bs : List Int) : Prop where
 blk : Blk w p 37 #[va, vb]
 own : Own w (p + 1) tL va vs
 rows : RowsOwn w (p + 1) w.heap.size tI vs rows
 ws : OI w N p tI vb Bs
 le : w0.heap.size <= N
 below : Below w0.heap.size w0 w
section
variable {w0 wr w2 w3 : World} {p N : Nat} {va vb v1 r : Value} {vs : List Value} {rows : List (List Int)} {zs Bs : List Int}
end
structure NumTab (A : List (List Int)) (Bs : List Int) : Prop where
 la : A.length <= 1000
 lb : Bs.length <= 1000
 rows : ∀ zs ∈ A, Nums zs /\ zs.length <= 1000
 ws : Nums Bs
def tl (p : List Int) (d : Int) : List Int := addk ((-d) % 10007) (0 :: p) (p ++ [0])
def part (k : Int) (p : List Int) (m : Nat) : List Int := scl k (p.take m) ++ p.drop m
set_option maxHeartbeats 1000000 in
theorem s_l09Ones (w : World) (n : Nat) (hn : n <= 1000) :
  Calls Tryz.prog 183 #[.int .i64 (n : Int)] w fun e w' => ∃ r, e = .returned r /\ OwnInts w' w.heap.size tI r (List.replicate n 1) /\ Below w.heap.size w w' := by
 have OL := Lib.hid (own_lit w tI [] (by simp [maxLen]))
 go_enter Tryz.func183, Tryz.ntmps183
 go_wp2_with fail
 go_loopw [3, 0] (fun o i wr => ∃ j : Nat, j <= n /\ i = .int .i64 ((n : Int) - (j : Int)) /\ Own wr w.heap.size tI o (ints (List.replicate j 1)) /\ Below w.heap.size w wr) (fun _ i _ => (intOf i).toNat)
 case atStart => exact ⟨0, Nat.zero_le _, by simp, by simpa [ints] using OL.out, below1 _ _⟩
 case round =>
  obtain ⟨j, hj, rfl, hown, hb⟩ := hrel
  clear OL
  have HO := Lib.hid hown
  have HB := Lib.hid hb
  clear hown hb
  by_cases hlt : j < n
  · have hge : 0 < (n : Int) - (j : Int) := by omega
    have HR := Lib.hid (show (List.replicate (j + 1) (1 : Int)) = List.replicate j 1 ++ [1] from List.replicate_succ')
    go_wp2_with (at_builtin; refine wpList_app1 T_int HO.out (by rw [ints_len, List.length_replicate]; omega) HB.out.size (by rfl) rfl (by rfl) (by rfl) (by rfl) ?_; intro v1 w1 hown1 hgr1)
    go_roundw
    case rel =>
     refine ⟨j + 1, by omega, by congr 1; omega, ?_, hgr1.below HB.out HB.out.size HO.out.ge⟩
     rw [HR.out]
     simpa [ints] using hown1
    case measure => simp [intOf]; omega
  · have : j = n := by omega
    subst this
    have hneg : ¬ (0 : Int) < (j : Int) - (j : Int) := by omega
    go_wp2_with fail
    go_ret
    exact ⟨_, rfl, ⟨HO.out, fun z hz => by have := (List.mem_replicate.1 hz).2; subst this; unfold In64; omega⟩, HB.out⟩
end Go.Proofs.YtofabikjjkapmaaGreat
