import Derived.Test.YtofabikjjkapmaaGreatSm31
import Derived.Test.YtofabikjjkapmaaGreatSm3
import Derived.Test.YtofabikjjkapmaaGreatSm6
import Derived.Test.YtofabikjjkapmaaGreatSm5
import Derived.Test.YtofabikjjkapmaaGreatSm2
set_option maxRecDepth 100000
set_option linter.unusedVariables false
set_option linter.unusedSimpArgs false
namespace Go.Proofs.YtofabikjjkapmaaGreat
open Go.RowKit
abbrev tSc : TypeId := 110
set_option maxHeartbeats 4000000 in
theorem s_l01Next (w : World) (B p : Nat) (n : Int) (h : Src w B tSc p) (hn : n <= 4611686018427387904) (hn0 : 1 <= n) :
  Calls Tryz.prog 111 #[at0 p, .int .i64 n] w fun e w' => ∃ x, e = .returned (.int .i64 x) /\ 0 <= x /\ x < n /\ w.grownBy w' (some p) /\ Src w' B tSc p := by
 obtain ⟨A, m, c, k, hs, hk, hB, hby, hkm, hm, h0, h1⟩ := h
 have HK := Lib.hid hk
 have HBY := Lib.hid hby
 have k2 : w.cell? ⟨p, 2, none⟩ = some (.int .u64 hs) := hk.cell 2
 have f2 : w.frozen? ⟨p, 2, none⟩ = false := hk.frozen 2
 clear hk hby
 go_enter Tryz.func111, Tryz.ntmps111
 go_upto_region 5 with fail
 obtain ⟨x, y, hx, x0, x1, hy, hw, y0, y1⟩ := hash_bd (IntKind.u64.wrap (hs * 6364136223846793005) + 1442695040888963407)
 rw [<- hx, hw, <- hy]
 clear hx hy hw h0 h1 f2 k2
 have HK1 := Lib.hid (HK.out.set_ 2 (.int .u64 x))
 have HG1 := Lib.hid (gset w p 2 (.int .u64 x))
 generalize w.setCell ⟨p, 2, none⟩ (.int .u64 x) = w1 at HK1 HG1 ⊢
 generalize x / 8589934592 = x9
 generalize IntKind.u64.wrap (hs * 6364136223846793005) = x8
 have HBY1 := Lib.hid (HBY.out.grown HG1.out hB)
 have HK1 := Lib.hid (show Blk w1 p tSc #[.slice A m c, .int .i64 k, .int .u64 x] from HK1.out)
 have k0 : w1.cell? ⟨p, 0, none⟩ = some (.slice A m c) := HK1.out.cell 0
 have k1 : w1.cell? ⟨p, 1, none⟩ = some (.int .i64 k) := HK1.out.cell 1
 have f1 : w1.frozen? ⟨p, 1, none⟩ = false := HK1.out.frozen 1
 clear HK HBY
 by_cases hlt : k < m
 · obtain ⟨ad, z, rfl, a1, a2, z0, z1, hc⟩ := HBY1.out k hlt
   have hkk : (k : Int) < (m : Int) := by omega
   have hw1 : wrap64 (y + z) = y + z := w64_dr _ (by omega)
   have hwk : wrap64 ((k : Int) + 1) = (k : Int) + 1 := w64_dr _ (by omega)
   clear a1 a2
   go_quiet (fail)
   go_upto_region 6 with fail
   rename Nat => nq0
   have k0' : (w1.drewN nq0).cell? ⟨p, 0, none⟩ = some (.slice (some ad) m c) := k0
   have k1' : (w1.drewN nq0).cell? ⟨p, 1, none⟩ = some (.int .i64 k) := k1
   have hc' : (w1.drewN nq0).cell? (ad.add k) = some (.int .u8 z) := hc
   go_quiet (fail)
   go_wp2_with fail
   go_ret
   obtain ⟨r0, r1⟩ := rem_bd (x := y + z) (n := n) (by omega) hn0
   have HB2 : w1.grownBy ((w1.drewN (nq0 + nq)).setCell ⟨p, 1, none⟩ (.int .i64 ((k : Int) + 1))) (some p) := gtrans (gof (below_drewN (Below.refl _ _) _)) (gset _ _ _ _)
   exact ⟨_, rfl, r0, r1, gtrans HG1.out HB2, some ad, m, c, k + 1, x, by simpa using (HK1.out.drewN _).set_ 1 (.int .i64 ((k : Int) + 1)), hB, HBY1.out.grown HB2 hB, hlt, hm, x0, x1⟩
 · have hkk : ¬ ((k : Int) < (m : Int)) := by omega
   go_quiet (fail)
   go_wp2_with fail
   go_ret
   obtain ⟨r0, r1⟩ := rem_bd (x := y) (n := n) (by omega) hn0
   rename Nat => nq0
   have HB2 : w1.grownBy (w1.drewN nq0) (some p) := gof (below_drewN (Below.refl _ _) _)
   exact ⟨_, rfl, r0, r1, gtrans HG1.out HB2, A, m, c, k, x, HK1.out.drewN _, hB, HBY1.out.grown HB2 hB, hkm, hm, x0, x1⟩
set_option maxHeartbeats 4000000 in
theorem s_l01From (w : World) (A : Option Addr) (n c : Nat) (hb : ByB w w.heap.size A n) (hn : n <= 4096) :
  Calls Tryz.prog 68 #[.slice A n c] w fun e w' => ∃ p, e = .returned (at0 p) /\ Src w' w.heap.size tSc p /\ Below w.heap.size w w' := by
 have HBY := Lib.hid hb
 have hs2 : 0 <= 5381 + (n : Int) /\ 5381 + (n : Int) < 18446744073709551616 := by omega
 clear hb
 go_enter Tryz.func68, Tryz.ntmps68
 go_wp2_with fail
 obtain ⟨h0, hh0⟩ : ∃ h0, h0 = 5381 + (n : Int) := ⟨_, rfl⟩
 rw [<- hh0] at hs2 ⊢
 obtain ⟨W, hW⟩ : ∃ W, W = w.alloc (Obj.cells #[Value.slice A n c, Value.int IntKind.i64 0, Value.int IntKind.u64 h0] tSc) := ⟨_, rfl⟩
 have HBW := Lib.hid (show Below w.heap.size w W from by rw [hW]; exact below1 w _)
 have HK := Lib.hid (show Blk W w.heap.size tSc #[Value.slice A n c, Value.int IntKind.i64 0, Value.int IntKind.u64 h0] from by rw [hW]; exact Blk.new _ _ _)
 rw [<- hW]
 clear hW hh0
 obtain ⟨g0, g1⟩ := hs2
 go_loopw [4] (fun x wr => ∃ (j : Nat) (h : Int), j <= n /\ x = .int .i64 j /\ 0 <= h /\ h < 18446744073709551616 /\ Blk wr w.heap.size tSc #[Value.slice A n c, Value.int IntKind.i64 0, Value.int IntKind.u64 h] /\ Below w.heap.size w wr) (fun x _ => n - (intOf x).toNat)
 case atStart => exact ⟨0, h0, Nat.zero_le _, rfl, g0, g1, HK.out, HBW.out⟩
 case round =>
  obtain ⟨j, h, hj, rfl, q0, q1, hk, hb⟩ := hrel
  rename World => wq
  clear HK HBW
  have HK := Lib.hid hk
  have HB := Lib.hid hb
  have k2 : wq.cell? ⟨w.heap.size, 2, none⟩ = some (.int .u64 h) := hk.cell 2
  have f2 : wq.frozen? ⟨w.heap.size, 2, none⟩ = false := hk.frozen 2
  clear hk hb
  by_cases hlt : j < n
  · have hj4 : (j : Int) < 4096 := by omega
    have hjj : (j : Int) < (n : Int) := by omega
    obtain ⟨ad, z, rfl, a1, a2, z0, z1, hc⟩ := HBY.out j hlt
    have hc1 : wq.cell? (ad.add j) = some (.int .u8 z) := by rw [HB.out.cell (by rw [block_add]; exact a1)]; exact hc
    have hjk : wrap64 ((j : Int) + 1) = (j : Int) + 1 := w64_dr _ (by omega)
    clear a1 a2 hc
    go_upto_region 5 with fail
    go_region_law (fail)
    all_goals
     obtain ⟨y, hy⟩ : ∃ y, y = IntKind.u64.wrap (IntKind.u64.wrap (IntKind.u64.wrap (h * 1099511628211) + IntKind.u64.wrap z) + 11) := ⟨_, rfl⟩
     obtain ⟨b0, b1⟩ : 0 <= y /\ y < 18446744073709551616 := by rw [hy]; exact u64_bd _
     rw [<- hy]
     clear hy
     go_wp2_with fail
     go_roundw
     case rel =>
      exact ⟨j + 1, _, by omega, by go_num, b0, b1, (HK.out.set_ 2 _).drewN 1, (HB.out.setCell (Nat.le_refl _) _).drew⟩
     case measure => simp [intOf]; omega
  · have hjn : j = n := by omega
    subst hjn
    go_wp2_with fail
    go_ret
    exact ⟨_, rfl, ⟨A, j, c, 0, h, HK.out, Nat.le_refl _, fun k hk => by obtain ⟨ad, z, e, a1, a2, z0, z1, hc⟩ := HBY.out k hk; exact ⟨ad, z, e, a1, Nat.lt_of_lt_of_le a1 HB.out.size, z0, z1, by rw [HB.out.cell (by rw [block_add]; exact a1)]; exact hc⟩, Nat.zero_le _, (by omega), q0, q1⟩, HB.out⟩
theorem wrap_i64 (x : Int) (h : -9223372036854775808 <= x /\ x <= 9223372036854775807) : IntKind.i64.wrap x = x := IntWalk.i64_in _ (by omega)
theorem lit_keep (w : World) (p : Nat) (zs : List Int) (hz : ∀ z ∈ zs, In64 z) (hl : zs.length <= 1000) (hp : p < w.heap.size) :
  ∀ W, (w.alloc (.cells (ints zs).toArray tI)).grownBy W (some p) -> Ints W (.slice (some ⟨w.heap.size, 0, none⟩) zs.length zs.length) zs := fun W hg => by
 have h := own_lit w tI (ints zs) (by rw [ints_len]; simp [maxLen]; omega)
 rw [ints_len] at h
 exact ⟨(h.kept hg (.inr (fun e => by simp [Value.ownBlock] at e; omega))).cells, hz⟩
set_option maxHeartbeats 4000000 in
theorem s_l01Pick (w : World) (B p : Nat) (v : Value) (zs : List Int) (h : Src w B tSc p) (hv : ∀ W, w.grownBy W (some p) -> Ints W v zs) (h1 : 1 <= zs.length) (h2 : zs.length <= 1000) :
  Calls Tryz.prog 126 #[at0 p, v] w fun e w' => ∃ z, e = .returned (.int .i64 z) /\ z ∈ zs /\ w.grownBy w' (some p) /\ Src w' B tSc p := by
 obtain ⟨A, c, rfl, g1, g2, g3⟩ := (hv w (World.grownBy.refl _ _)).open_
 have HV := Lib.hid hv
 have HN := Lib.hid (s_l01Next w B p (zs.length : Nat) h (by omega) (by omega))
 clear g3 h hv
 go_enter Tryz.func126, Tryz.ntmps126
 go_wp2_with (go_at_call 111; go_loud (refine HN.out.mono ?_; rintro e w1 ⟨x, rfl, x0, x1, hg, hs⟩; obtain ⟨k, rfl⟩ : ∃ k : Nat, x = k := ⟨x.toNat, by omega⟩; obtain ⟨A', c', he, -, -, g3⟩ := (HV.out w1 hg).open_; (simp only [Value.slice.injEq] at he); obtain ⟨rfl, -, rfl⟩ := he; obtain ⟨ad, z, rfl, hz, hz2, hc⟩ := g3 k (by omega); have HZ := Lib.hid (List.mem_of_getElem? hz); have HG := Lib.hid hg; have HS := Lib.hid hs; have hkl : k < zs.length := (by omega); clear g3 hz hz2 hg hs x0 x1))
 go_ret
 exact ⟨_, rfl, HZ.out, HG.out, HS.out⟩
theorem nume_bd (x : Int) : 0 <= x % 10007 /\ x % 10007 <= 10006 := by omega
set_option maxHeartbeats 1000000 in
theorem s_l01FracZ (w : World) (p q : Int) (h0 : -1000000 <= p) (h1 : p <= 1000000) (g0 : 0 <= q) (g1 : q <= 1000000) :
  Calls Tryz.prog 119 #[.int .i64 p, .int .i64 q] w fun e w' => ∃ z, e = .returned (.int .i64 z) /\ (0 <= z /\ z <= 10006) /\ w = w' := by
 have hp := pw_bd (q % 10007) 10005
 have hq : 0 <= q % 10007 /\ q % 10007 <= 10006 := by omega
 have hq2 : 0 <= p % 10007 /\ p % 10007 <= 10006 := by omega
 go_enter Tryz.func119, Tryz.ntmps119
 go_wp2_with (first
  | (go_at_call 178; (with_reducible refine (s_l01Inv _ _ (by omega) (by omega)).mono ?_); rintro e w2 ⟨rfl, rfl⟩)
  | (go_at_call 176; (with_reducible refine (s_l01Mul _ _ _ (by omega) (by omega) (by omega) (by omega)).mono ?_); rintro e w2 ⟨rfl, rfl⟩)
  | (go_at_call 177; (with_reducible refine (s_l01Mod _ _ (by omega) (by omega)).mono ?_); rintro e w2 ⟨rfl, rfl⟩))
 go_ret
 exact ⟨_, rfl, nume_bd _, rfl⟩
set_option maxHeartbeats 4000000 in
theorem s_l01Number (w : World) (B p : Nat) (h : Src w B tSc p) :
  Calls Tryz.prog 114 #[at0 p] w fun e w' => ∃ z, e = .returned (.int .i64 z) /\ (0 <= z /\ z <= 10006) /\ w.grownBy w' (some p) /\ Src w' B tSc p := by
 have HN := Lib.hid (s_l01Next w B p 5 h (by omega) (by omega))
 have hpl := h.lt
 clear h
 go_enter Tryz.func114, Tryz.ntmps114
 go_upto_region 2 with (go_at_call 111; go_loud (refine HN.out.mono ?_; rintro e w1 ⟨x, rfl, x0, x1, hg, hs⟩; have HG := Lib.hid hg; have HS := Lib.hid hs; clear hg hs))
 have hpl1 : p < w1.heap.size := Nat.lt_of_lt_of_le hpl HG.out.size
 by_cases hx0 : x = 0
 · have hd0 : (x == 0) = true := by simp [hx0]
   have HN1 := Lib.hid (s_l01Next w1 B p 10007 HS.out (by omega) (by omega))
   clear hx0 x0 x1
   go_wp2_with (go_at_call 111; go_loud (refine HN1.out.mono ?_; rintro e w2 ⟨y, rfl, y0, y1, hg, hs⟩; have HG2 := Lib.hid (gtrans HG.out hg); have HS2 := Lib.hid hs; clear hg hs))
   go_ret
   exact ⟨_, rfl, ⟨y0, by omega⟩, HG2.out, HS2.out⟩
 · have hd0 : (x == 0) = false := by simp [hx0]
   by_cases hx1 : x = 1
   · have hd1 : (x == 1) = true := by simp [hx1]
     have HL := Lib.hid (lit_keep w1 p [0, 1, 0, 1, 10006, 2] (by intro z hz; simp at hz; unfold In64; omega) (by simp) hpl1)
     have HSL := Lib.hid (HS.out.below (below1 w1 (.cells (ints [0, 1, 0, 1, 10006, 2]).toArray tI)))
     have HPK := Lib.hid (s_l01Pick _ B p _ [0, 1, 0, 1, 10006, 2] HSL.out HL.out (by simp) (by simp))
     clear hx0 hx1 x0 x1
     go_wp2_with (go_at_call 126; go_loud (refine HPK.out.mono ?_; rintro e w2 ⟨y, rfl, hy, hg, hs⟩; have HG2 := Lib.hid (gtrans (gtrans HG.out (gof (below1 w1 _))) hg); have HS2 := Lib.hid hs; have HY := Lib.hid hy; clear hg hs hy))
     go_ret
     exact ⟨_, rfl, by have := HY.out; simp at this; omega, HG2.out, HS2.out⟩
   · have hd1 : (x == 1) = false := by simp [hx1]
     have HN1 := Lib.hid (s_l01Next w1 B p 15 HS.out (by omega) (by omega))
     have hw := fun y (h : 0 <= y /\ y < 15) => wrap_i64 (y - 7) (by omega)
     have hw2 := fun y (h : 0 <= y /\ y < 12) => w64_dr (1 + y) (by omega)
     clear hx0 hx1 x0 x1
     go_wp2_with (first
      | (go_at_call 111; (with_reducible refine HN1.out.mono ?_); go_loud (rintro e w2 ⟨y, rfl, y0, y1, hg, hs⟩; have HG2 := Lib.hid (gtrans HG.out hg); have HS2 := Lib.hid hs; have hwy := hw y ⟨y0, y1⟩; clear hg hs))
      | (go_at_call 111; (with_reducible refine (s_l01Next w2 B p 12 HS2.out (by omega) (by omega)).mono ?_); go_loud (rintro e w3 ⟨u, rfl, u0, u1, hg, hs⟩; have HG3 := Lib.hid (gtrans HG2.out hg); have HS3 := Lib.hid hs; have hwu := hw2 u ⟨u0, u1⟩; clear hg hs))
      | (go_at_call 119; go_loud (refine (s_l01FracZ _ _ _ (by omega) (by omega) (by omega) (by omega)).mono ?_; rintro e w4 ⟨z, rfl, hz, rfl⟩; have HZ := Lib.hid hz; clear hz)))
     go_ret
     exact ⟨_, rfl, HZ.out, HG3.out, HS3.out⟩
def Nl (n : Nat) (zs : List Int) : Prop := zs.length = n /\ Nums zs
def Sqm (m n : Nat) (xss : List (List Int)) : Prop := xss.length = m /\ ∀ zs ∈ xss, Nl n zs
theorem Nl.snoc {n : Nat} {zs : List Int} {z : Int} (h : Nl n zs) (hz : 0 <= z /\ z <= 10006) : Nl (n + 1) (zs ++ [z]) := by
 refine ⟨by rw [List.length_append, h.1]; rfl, fun y hy => ?_⟩
 rcases List.mem_append.1 hy with hy | hy
 · exact h.2 y hy
 · simp at hy; subst hy; exact hz
theorem Nl.in64 {n : Nat} {zs : List Int} (h : Nl n zs) : ∀ z ∈ zs, In64 z := fun z hz => by have := h.2 z hz; unfold In64; omega
theorem Sqm.snoc {m n : Nat} {xss : List (List Int)} {zs : List Int} (h : Sqm m n xss) (hz : Nl n zs) : Sqm (m + 1) n (xss ++ [zs]) := by
 refine ⟨by rw [List.length_append, h.1]; rfl, fun y hy => ?_⟩
 rcases List.mem_append.1 hy with hy | hy
 · exact h.2 y hy
 · simp at hy; subst hy; exact hz
theorem Nl.nil : Nl 0 [] := ⟨rfl, fun z hz => by simp at hz⟩
theorem Sqm.nil (n : Nat) : Sqm 0 n [] := ⟨rfl, fun z hz => by simp at hz⟩
theorem ownNl {w : World} {B n : Nat} {v : Value} {zs : List Int} (h : Nl n zs) (ho : Own w B tI v (ints zs)) : OwnInts w B tI v zs := ⟨ho, h.in64⟩
abbrev tTb : TypeId := 37
def DT (w : World) (B : Nat) (v : Value) (n : Nat) : Prop := ∃ A Bs, OT w B w.heap.size v A Bs /\ Sqm n n A /\ Nl n Bs
end Go.Proofs.YtofabikjjkapmaaGreat
