/- The law FnExactIsField, walked: it returns true. -/
import Derived.Test.YtgnmnpjbmdifbaaFld3
import Derived.Test.YtgnmnpjbmdifbaaFld5
import Derived.Test.YtgnmnpjbmdifbaaFld7
import Derived.Test.YtgnmnpjbmdifbaaFld10
import Derived.Test.YtgnmnpjbmdifbaaFld13
import Derived.WalkLawsBesides
import Derived.Deep.RegionHeld3
set_option maxRecDepth 100000
set_option linter.unusedVariables false
set_option linter.unusedSimpArgs false
namespace Go.Proofs.Ytgnmnpjbmdifbaa
open Go.RowKit

abbrev tFa : TypeId := 35
abbrev tFi : TypeId := 40

theorem OF.arg {w : World} {B C : Nat} {u : Value} {n : Int} {pss : List (List Mono)} (h : OF w B C u pss) (hn : In64 n) : FieldArg w (.agg #[.int .i64 n, u]) n pss := ⟨_, rfl, hn, h.rows⟩
theorem OF.open_ {w : World} {B C : Nat} {u : Value} {pss : List (List Mono)} (h : OF w B C u pss) : ∃ A c, u = .slice A pss.length c := by obtain ⟨_, g, h, -⟩ := h; exact ⟨_, _, h⟩

set_option maxHeartbeats 2000000 in
theorem law_IsField (w : World) (v : Value) (n : Int) (pss : List (List Mono)) (ha : FieldArg w v n pss) :
    Calls Try.prog 4 #[v] w fun e w' => e = .returned (.bool true) ∧ Below w.heap.size w w' := by
  have HA := Lib.hid ha
  obtain ⟨u, rfl, hn64, hu⟩ := ha
  obtain ⟨A, c, rfl, -, -, -⟩ := hu.open_
  have HN := Lib.hid hn64
  have B0 := Lib.hid (below1 w (.cells #[.int .i64 n, .slice A pss.length c] tFa))
  have K0 := Lib.hid (Blk.new w #[.int .i64 n, .slice A pss.length c] tFa)
  clear hu hn64
  by_cases hs : szFld 1048576 pss < 0
  · go_enter Try.func4, Try.ntmps4
    go_wp2_with fail
    refine (l_szField _ _ n pss _ (HA.out.below B0.out) (by omega) (by omega)).mono ?_
    rintro e w1 ⟨rfl, hb1⟩
    have B1 := Lib.hid (B0.out.trans (hb1.mono B0.out.size))
    clear hb1
    go_wp2_with fail
    go_ret
    exact ⟨rfl, B1.out⟩
  · have hsh := szFld_short (by omega : 0 ≤ szFld 1048576 pss) (by omega)
    have HS1 := Lib.hid hsh.1
    have HS2 := Lib.hid hsh.2.1
    have HS3 := Lib.hid hsh.2.2
    have hs0 : 0 ≤ szFld 1048576 pss := by omega
    clear hsh hs
    go_enter Try.func4, Try.ntmps4
    go_wp2_with fail
    refine (l_szField _ _ n pss _ (HA.out.below B0.out) (by omega) (by omega)).mono ?_
    rintro e w1 ⟨rfl, hb1⟩
    have B1 := Lib.hid (B0.out.trans (hb1.mono B0.out.size))
    have K1 := Lib.hid (K0.out.below hb1 (by simp))
    have c10 := K1.out.cell 0
    have c11 := K1.out.cell 1
    clear hb1 K0
    generalize szFld 1048576 pss = left at hs0 ⊢
    go_wp2_with fail
    refine (l_toField _ _ n pss (HA.out.below B1.out) HS1.out HS2.out HS3.out).mono ?_
    rintro e w2 ⟨t, rfl, -, ht, hb2⟩
    have B2 := Lib.hid (B1.out.trans (hb2.mono B1.out.size))
    have K2 := Lib.hid (K1.out.below hb2 K1.out.lt)
    have T2 := Lib.hid ht
    clear hb2 K1 c10 c11 ht B1
    go_wp2_with fail
    refine (s_IsField _ _ n pss (T2.out.arg HN.out) HS3.out).mono ?_
    rintro e w3 ⟨rfl, hb3⟩
    have B3 := Lib.hid (B2.out.trans (hb3.mono B2.out.size))
    have K3 := Lib.hid (K2.out.below hb3 K2.out.lt)
    have c30 := K3.out.cell 0
    have c31 := K3.out.cell 1
    clear hb3 K2 T2 B2
    go_wp2_with fail
    refine (l_toField _ _ n pss (HA.out.below B3.out) HS1.out HS2.out HS3.out).mono ?_
    rintro e w4 ⟨x0, rfl, -, hx0, hb4⟩
    obtain ⟨Xa, xa, rfl⟩ := hx0.open_
    have B4 := Lib.hid ((B3.out.trans (hb4.mono B3.out.size)).alloc (by have h1 := B3.out.size; have h2 := hb4.size; omega) (.cells #[.int .i64 n, .slice Xa pss.length xa] tFi))
    have K4 := Lib.hid ((K3.out.below hb4 K3.out.lt).alloc (.cells #[.int .i64 n, .slice Xa pss.length xa] tFi))
    have X4 := Lib.hid (hx0.below (below1 _ (.cells #[.int .i64 n, .slice Xa pss.length xa] tFi)))
    have Y4 := Lib.hid (Blk.new w4 #[.int .i64 n, .slice Xa pss.length xa] tFi)
    clear hb4 K3 c30 c31 B3 hx0
    go_wp2_with fail
    refine (i_IsField _ _ n pss (X4.out.arg HN.out) HS3.out).mono ?_
    rintro e w5 ⟨rfl, hb5⟩
    have B5 := Lib.hid (B4.out.trans (hb5.mono B4.out.size))
    have K5 := Lib.hid (K4.out.below hb5 K4.out.lt)
    have Y5 := Lib.hid (Y4.out.below hb5 Y4.out.lt)
    have X5 := Lib.hid (X4.out.below hb5)
    have hsz5 := hb5.size
    clear hb5 K4 Y4 X4 B4
    go_wp2_with fail
    have e0 : w5.cell? ⟨w.heap.size, 0, none⟩ = some (.int .i64 n) := K5.out.cell 0
    have e1 : w5.cell? ⟨w.heap.size, 1, none⟩ = some (.slice A pss.length c) := K5.out.cell 1
    have e2 : w5.cell? ⟨w4.heap.size, 0, none⟩ = some (.int .i64 n) := Y5.out.cell 0
    have e3 : w5.cell? ⟨w4.heap.size, 1, none⟩ = some (.slice Xa pss.length xa) := Y5.out.cell 1
    have hd : (decide (n = n) && decide (pss = pss)) = true := by simp
    go_region_held3 (fun w' => w'.cell? ⟨w.heap.size, 0, none⟩ = some (.int .i64 n) ∧ w'.cell? ⟨w.heap.size, 1, none⟩ = some (.slice A pss.length c) ∧ w'.cell? ⟨w4.heap.size, 0, none⟩ = some (.int .i64 n) ∧ w'.cell? ⟨w4.heap.size, 1, none⟩ = some (.slice Xa pss.length xa)) ((go_split_ands; refine ⟨?_, ?_, ?_, ?_⟩ <;> (first | (rw [hb7.cell (by have h1 := K5.out.lt; have h2 := Y5.out.lt; have h3 := hb6.size; simp at h3 ⊢; omega)]; assumption) | (rw [hb6.cell (by first | exact K5.out.lt | exact Y5.out.lt)]; assumption) | go_keep)))
      (first | (go_at_call 20; refine (l_toField _ _ n pss (by exact HA.out.below B5.out.drew) HS1.out HS2.out HS3.out).mono ?_; rintro e w6 ⟨x1, rfl, hn6, hx1, hb6⟩) | (go_at_call 22; refine (l_eqField _ _ _ n n pss pss (by exact (X5.out.arg HN.out).below (below_of_drew hb6)) (by exact hx1.arg HN.out)).mono ?_; rintro e w7 ⟨rfl, hb7⟩))
    go_wp2_with fail
    go_ret
    have h1 := B5.out.size
    have h2 := hb6.size
    simp at h2
    exact ⟨rfl, (B5.out.trans ((below_of_drew hb6).mono (by simp; exact h1))).trans (hb7.mono (by omega))⟩

theorem law_IsField' (w : World) (v : Value) (d : Int × List (List Mono)) (ha : FieldArg w v d.1 d.2) :
    Calls Try.prog 4 #[v] w fun e w' => e = .returned (.bool true) ∧ Below w.heap.size w w' := law_IsField w v d.1 d.2 ha
end Go.Proofs.Ytgnmnpjbmdifbaa
