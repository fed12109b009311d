/- The law FnExactIsCollocation, walked: it returns true. -/
import Derived.Test.YtgbfifcbbfhpmaaRows
import Derived.Test.YtgbfifcbbfhpmaaMem
import Derived.Test.YtgbfifcbbfhpmaaMem2
import Derived.Test.YtgbfifcbbfhpmaaLR
import Derived.Test.YtgbfifcbbfhpmaaTab
import Derived.Test.YtgbfifcbbfhpmaaIc3
import Derived.WalkLawsBesides
import Derived.Deep.RegionHeld3
set_option linter.unusedVariables false
set_option linter.unusedSimpArgs false
namespace Go.Proofs.Ytgbfifcbbfhpmaa
open Go.RowKit

def IsIc (A : List (List Int)) (Bs : List Int) (b : Bool) (c : Int) : Prop := b = isColB A Bs ∧ c = isColC A Bs
theorem IsIc.unique {A : List (List Int)} {Bs : List Int} {b b' : Bool} {c c' : Int} (h : IsIc A Bs b c) (h' : IsIc A Bs b' c') : b = b' ∧ c = c' := by
  obtain ⟨rfl, rfl⟩ := h
  obtain ⟨rfl, rfl⟩ := h'
  exact ⟨rfl, rfl⟩
theorem s_IsCollocationE (w : World) (v : Value) (A : List (List Int)) (Bs : List Int) (ha : TabArg w v A Bs) :
    Calls Try.prog 25 #[v] w fun e w' => ∃ b c, e = .returned (.tuple #[.bool b, .int .i64 c]) ∧ IsIc A Bs b c ∧ Below w.heap.size w w' :=
  (s_IsCollocation w v A Bs ha).mono fun e w' ⟨he, hb⟩ => ⟨_, _, he, ⟨rfl, rfl⟩, hb⟩
theorem i_IsCollocationE (w : World) (v : Value) (A : List (List Int)) (Bs : List Int) (ha : TabArg w v A Bs) :
    Calls Try.prog 26 #[v] w fun e w' => ∃ b c, e = .returned (.tuple #[.bool b, .int .i64 c]) ∧ IsIc A Bs b c ∧ Below w.heap.size w w' :=
  (i_IsCollocation w v A Bs ha).mono fun e w' ⟨he, hb⟩ => ⟨_, _, he, ⟨rfl, rfl⟩, hb⟩

set_option maxRecDepth 100000 in
set_option maxHeartbeats 2000000 in
theorem law_IsCollocation (w : World) (v : Value) (A : List (List Int)) (Bs : List Int) (ha : TabArg w v A Bs) :
    Calls Try.prog 6 #[v] w fun e w' => e = .returned (.bool true) ∧ Below w.heap.size w w' := by
  obtain ⟨Aa, ca, Ab, cb, rfl⟩ := ha.open_
  have B0 := Lib.hid (below1 w (.cells #[.slice Aa A.length ca, .slice Ab Bs.length cb] 25))
  have HA := Lib.hid ha
  have K0 := Lib.hid (Blk.new w #[.slice Aa A.length ca, .slice Ab Bs.length cb] 25)
  clear ha
  by_cases hs : szTab 1048576 A Bs < 0
  · go_enter Try.func6, Try.ntmps6
    go_wp2_with fail
    refine (l_szTableau _ _ _ _ _ (HA.out.below B0.out) (by omega) (by omega)).mono ?_
    rintro e w1 ⟨rfl, hb1⟩
    have B1 := Lib.hid (B0.out.trans (hb1.mono B0.out.size))
    clear hb1
    go_wp2_with fail
    go_ret
    exact ⟨rfl, B1.out⟩
  · have hsh := szTab_short (by omega : 0 ≤ szTab 1048576 A Bs) (by omega)
    have HSA := Lib.hid hsh.1
    have HSB := Lib.hid hsh.2.1
    have hs0 : 0 ≤ szTab 1048576 A Bs := by omega
    clear hsh hs
    go_enter Try.func6, Try.ntmps6
    go_wp2_with fail
    refine (l_szTableau _ _ _ _ _ (HA.out.below B0.out) (by omega) (by omega)).mono ?_
    rintro e w1 ⟨rfl, hb1⟩
    have B1 := Lib.hid (B0.out.trans (hb1.mono B0.out.size))
    have K1 := Lib.hid (K0.out.below hb1 (by simp))
    have c10 := K1.out.cell 0
    have c11 := K1.out.cell 1
    clear hb1 K0
    go_wp2_with fail
    refine (l_toTableau _ _ _ _ (HA.out.below B1.out) HSA.out HSB.out).mono ?_
    rintro e w2 ⟨t, rfl, ht, hb2⟩
    have B2 := Lib.hid (B1.out.trans (hb2.mono B1.out.size))
    have K2 := Lib.hid (K1.out.below hb2 K1.out.lt)
    have T2 := Lib.hid ht
    clear hb2 K1 c10 c11 ht B1
    go_wp2_with fail
    refine (s_IsCollocationE _ _ _ _ T2.out.arg).mono ?_
    rintro e w3 ⟨b1, c1, rfl, hp1, hb3⟩
    have P1 := Lib.hid hp1
    clear hp1
    have B3 := Lib.hid (B2.out.trans (hb3.mono B2.out.size))
    have K3 := Lib.hid (K2.out.below hb3 K2.out.lt)
    have c30 := K3.out.cell 0
    have c31 := K3.out.cell 1
    clear hb3 K2 T2 B2
    go_wp2_with fail
    refine (l_toTableau _ _ _ _ (HA.out.below B3.out) HSA.out HSB.out).mono ?_
    rintro e w4 ⟨x0, rfl, hx0, hb4⟩
    obtain ⟨Xa, xa, Xb, xb, rfl⟩ := hx0.open_
    have B4 := Lib.hid ((B3.out.trans (hb4.mono B3.out.size)).alloc (by have h1 := B3.out.size; have h2 := hb4.size; omega) (.cells #[.slice Xa A.length xa, .slice Xb Bs.length xb] 27))
    have K4 := Lib.hid ((K3.out.below hb4 K3.out.lt).alloc (.cells #[.slice Xa A.length xa, .slice Xb Bs.length xb] 27))
    have X4 := Lib.hid (hx0.below (below1 _ (.cells #[.slice Xa A.length xa, .slice Xb Bs.length xb] 27)))
    have Y4 := Lib.hid (Blk.new w4 #[.slice Xa A.length xa, .slice Xb Bs.length xb] 27)
    clear hb4 K3 c30 c31 B3 hx0
    go_wp2_with fail
    refine (i_IsCollocationE _ _ _ _ X4.out.arg).mono ?_
    rintro e w5 ⟨b2, c2, rfl, hp2, hb5⟩
    obtain ⟨rfl, rfl⟩ := hp2.unique P1.out
    have B5 := Lib.hid (B4.out.trans (hb5.mono B4.out.size))
    have K5 := Lib.hid (K4.out.below hb5 K4.out.lt)
    have Y5 := Lib.hid (Y4.out.below hb5 Y4.out.lt)
    have X5 := Lib.hid (X4.out.below hb5)
    have hsz5 := hb5.size
    clear hb5 K4 Y4 X4 B4
    go_wp2_with fail
    have e0 : w5.cell? ⟨w.heap.size, 0, none⟩ = some (.slice Aa A.length ca) := K5.out.cell 0
    have e1 : w5.cell? ⟨w.heap.size, 1, none⟩ = some (.slice Ab Bs.length cb) := K5.out.cell 1
    have e2 : w5.cell? ⟨w4.heap.size, 0, none⟩ = some (.slice Xa A.length xa) := Y5.out.cell 0
    have e3 : w5.cell? ⟨w4.heap.size, 1, none⟩ = some (.slice Xb Bs.length xb) := Y5.out.cell 1
    go_region_held3 (fun w' => w'.cell? ⟨w.heap.size, 0, none⟩ = some (.slice Aa A.length ca) ∧ w'.cell? ⟨w.heap.size, 1, none⟩ = some (.slice Ab Bs.length cb) ∧ w'.cell? ⟨w4.heap.size, 0, none⟩ = some (.slice Xa A.length xa) ∧ w'.cell? ⟨w4.heap.size, 1, none⟩ = some (.slice Xb Bs.length xb)) ((go_split_ands; refine ⟨?_, ?_, ?_, ?_⟩ <;> (first | (rw [hb7.cell (by have h1 := K5.out.lt; have h2 := Y5.out.lt; have h3 := hb6.size; simp at h3 ⊢; omega)]; assumption) | (rw [hb6.cell (by first | exact K5.out.lt | exact Y5.out.lt)]; assumption) | go_keep)))
      (first | (go_at_call 13; refine (l_toTableau _ _ _ _ (by exact HA.out.below B5.out.drew) HSA.out HSB.out).mono ?_; rintro e w6 ⟨x1, rfl, hx1, hb6⟩) | (go_at_call 15; refine (l_eqTableau _ _ _ _ _ _ _ (by exact X5.out.arg.below (below_of_drew hb6)) (by exact hx1.arg)).mono ?_; rintro e w7 ⟨rfl, hb7⟩))
    go_wp2_with fail
    go_ret
    have h1 := B5.out.size
    have h2 := hb6.size
    simp at h2
    exact ⟨rfl, (B5.out.trans ((below_of_drew hb6).mono (by simp; exact h1))).trans (hb7.mono (by omega))⟩
end Go.Proofs.Ytgbfifcbbfhpmaa
