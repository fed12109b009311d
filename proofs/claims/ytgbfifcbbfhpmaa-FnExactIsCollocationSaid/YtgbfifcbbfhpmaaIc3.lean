/- Walks: equality of tableaus, IsCollocation of the program. -/
import Derived.Test.YtgbfifcbbfhpmaaIc2
import Derived.Test.YtgbfifcbbfhpmaaCol7
import Derived.Deep.RegionHeld3
set_option maxRecDepth 100000
set_option linter.unusedVariables false
set_option linter.unusedSimpArgs false
namespace Go.Proofs.Ytgbfifcbbfhpmaa
open Go.RowKit

/-- a quiet call behind draws: for go_quiet -/
theorem quiet_more0 {P : Program} {f : FuncId} {args : Array Value} {w : World} {n : Nat} {v : Value}
    (h : Calls P f args (w.drewN n) fun e w' => e = .returned v ∧ ∃ m, w' = (w.drewN n).drewN m) :
    Calls P f args (w.drewN n) fun e w'' => e = .returned v ∧ ∃ m, w'' = w.drewN m :=
  h.mono fun _ _ ⟨he, m, hm⟩ => ⟨he, n + m, by rw [hm, World.drewN_drewN]⟩

def tabEq (A A' : List (List Int)) (Bs Bs' : List Int) : Bool := decide (Bs = Bs') && decide (A = A')

set_option maxHeartbeats 2000000 in
theorem im_equal (w : World) (v v' : Value) (A A' : List (List Int)) (Bs Bs' : List Int) (ha : TabArg w v A Bs) (hb : TabArg w v' A' Bs') :
    Calls Try.prog 70 #[v, v'] w fun e w' => e = .returned (.bool (tabEq A A' Bs Bs')) ∧ Below w.heap.size w w' := by
  obtain ⟨va, vb, rfl, hA, hB⟩ := ha
  obtain ⟨va', vb', rfl, hA', hB'⟩ := hb
  have BB := Lib.hid (below2 w (.cells #[va, vb] 27) (.cells #[va', vb'] 27))
  have HA := Lib.hid hA
  have HB := Lib.hid hB
  have HA' := Lib.hid hA'
  have HB' := Lib.hid hB'
  obtain ⟨A1, c1, rfl, -, -, -⟩ := hA.open_
  obtain ⟨A2, c2, rfl, -, -, -⟩ := hB.open_
  obtain ⟨A3, c3, rfl, -, -, -⟩ := hA'.open_
  obtain ⟨A4, c4, rfl, -, -, -⟩ := hB'.open_
  clear hA hB hA' hB'
  go_enter Try.func70, Try.ntmps70
  by_cases hq : Bs = Bs'
  · have HQ := Lib.hid hq
    have hd : decide (Bs = Bs') = true := by simp [hq]
    clear hq
    go_wp2_with fail
    refine (lib_Equal _ _ _ _ _ (HB.out.below BB.out) (HB'.out.below BB.out)).mono ?_
    rintro e w1 ⟨rfl, n1, rfl⟩
    rw [hd]
    go_wp2_with fail
    refine (lib_EqualFunc _ _ _ _ _ ((HA.out.below BB.out).drewN n1) ((HA'.out.below BB.out).drewN n1)).mono ?_
    rintro e w2 ⟨rfl, n2, rfl⟩
    go_wp2_with fail
    go_ret
    exact ⟨ret_bool (by simp [tabEq, HQ.out]), below_drewN BB.out _⟩
  · have HQ := Lib.hid hq
    have hd : decide (Bs = Bs') = false := by simp [hq]
    clear hq
    go_wp2_with fail
    refine (lib_Equal _ _ _ _ _ (HB.out.below BB.out) (HB'.out.below BB.out)).mono ?_
    rintro e w1 ⟨rfl, n1, rfl⟩
    rw [hd]
    go_wp2_with fail
    go_ret
    exact ⟨ret_bool (by simp [tabEq, HQ.out]), below_drewN BB.out _⟩

set_option maxHeartbeats 2000000 in
theorem s_l09Same (w : World) (v v' : Value) (A A' : List (List Int)) (Bs Bs' : List Int) (ha : TabArg w v A Bs) (hb : TabArg w v' A' Bs') :
    Calls Try.prog 68 #[v, v'] w fun e w' => e = .returned (.bool (tabEq A A' Bs Bs')) ∧ Below w.heap.size w w' := by
  obtain ⟨va, vb, rfl, hA, hB⟩ := ha
  obtain ⟨va', vb', rfl, hA', hB'⟩ := hb
  have BB := Lib.hid (below2 w (.cells #[va, vb] 27) (.cells #[va', vb'] 27))
  have HA := Lib.hid hA
  have HB := Lib.hid hB
  have HA' := Lib.hid hA'
  have HB' := Lib.hid hB'
  obtain ⟨A1, c1, rfl, -, -, -⟩ := hA.open_
  obtain ⟨A2, c2, rfl, -, -, -⟩ := hB.open_
  obtain ⟨A3, c3, rfl, -, -, -⟩ := hA'.open_
  obtain ⟨A4, c4, rfl, -, -, -⟩ := hB'.open_
  clear hA hB hA' hB'
  go_enter Try.func68, Try.ntmps68
  by_cases hq : A = A'
  · have HQ := Lib.hid hq
    have hd : decide (A = A') = true := by simp [hq]
    clear hq
    go_wp2_with fail
    refine (s_l01Same2 _ _ _ _ _ (HA.out.below BB.out) (HA'.out.below BB.out)).mono ?_
    rintro e w1 ⟨rfl, n1, rfl⟩
    rw [hd]
    go_wp2_with fail
    refine (s_l01Same _ _ _ _ _ ((HB.out.below BB.out).drewN n1) ((HB'.out.below BB.out).drewN n1)).mono ?_
    rintro e w2 ⟨rfl, n2, rfl⟩
    go_wp2_with fail
    go_ret
    exact ⟨ret_bool (by simp [tabEq, HQ.out]), below_drewN BB.out _⟩
  · have HQ := Lib.hid hq
    have hd : decide (A = A') = false := by simp [hq]
    clear hq
    go_wp2_with fail
    refine (s_l01Same2 _ _ _ _ _ (HA.out.below BB.out) (HA'.out.below BB.out)).mono ?_
    rintro e w1 ⟨rfl, n1, rfl⟩
    rw [hd]
    go_wp2_with fail
    go_ret
    exact ⟨ret_bool (by simp [tabEq, HQ.out]), below_drewN BB.out _⟩

def isColB (A : List (List Int)) (Bs : List Int) : Bool := tabB A Bs && (decide (nodesC (nodesOf A) = 0) && tabEq (colA (nodesOf A) (nodesOf A).length) A (colB (nodesOf A) (nodesOf A).length) Bs)
def isColC (A : List (List Int)) (Bs : List Int) : Int := if tabB A Bs then 0 else 1

set_option maxHeartbeats 2000000 in
theorem i_IsCollocation (w : World) (v : Value) (A : List (List Int)) (Bs : List Int) (ha : TabArg w v A Bs) :
    Calls Try.prog 26 #[v] w fun e w' => e = .returned (.tuple #[.bool (isColB A Bs), .int .i64 (isColC A Bs)]) ∧ Below w.heap.size w w' := by
  have HT := Lib.hid ha
  obtain ⟨Aa, ca, Ab, cb, rfl⟩ := ha.open_
  have B0 := Lib.hid (below1 w (.cells #[.slice Aa A.length ca, .slice Ab Bs.length cb] 27))
  have K0 := Lib.hid (Blk.new w #[.slice Aa A.length ca, .slice Ab Bs.length cb] 27)
  clear ha
  go_enter Try.func26, Try.ntmps26
  go_wp2_with fail
  refine (i_IsTableau _ _ _ _ (HT.out.below B0.out)).mono ?_
  rintro e w1 ⟨rfl, hb1⟩
  have B1 := Lib.hid (B0.out.trans (hb1.mono B0.out.size))
  have K1 := Lib.hid (K0.out.below hb1 K0.out.lt)
  have g0 : w1.cell? ⟨w.heap.size, 0, none⟩ = some (.slice Aa A.length ca) := K1.out.cell 0
  have g1 : w1.cell? ⟨w.heap.size, 1, none⟩ = some (.slice Ab Bs.length cb) := K1.out.cell 1
  have hlt1 := K1.out.lt
  clear hb1
  cases ht : tabB A Bs with
  | false =>
    go_wp2_with fail
    go_ret2
    exact ⟨by simp [isColB, isColC, ht], B1.out⟩
  | true =>
    have HI := Lib.hid (isTab_of ht)
    have HQ := Lib.hid ht
    clear ht
    by_cases hc : nodesC (nodesOf A) = 0
    · have HC := Lib.hid hc
      have HK := Lib.hid (nodesC_ok hc)
      have hle := (nodesC_ok hc).2.1
      go_wp2_with fail
      go_region_held3 (fun w' => w'.cell? ⟨w.heap.size, 0, none⟩ = some (.slice Aa A.length ca) ∧ w'.cell? ⟨w.heap.size, 1, none⟩ = some (.slice Ab Bs.length cb)) ((go_split_ands; refine ⟨?_, ?_⟩ <;> (first
          | (rw [hb8.cell (by have h5 := hb5.size; have h6 := hb6.size; have h7 := hb7.size; simp at h5 h6 h7 ⊢; omega)]; assumption)
          | (rw [hb7.cell (by have h5 := hb5.size; have h6 := hb6.size; simp at h5 h6 ⊢; omega)]; assumption)
          | (rw [hb6.cell (by have h5 := hb5.size; simp at h5 ⊢; omega)]; assumption)
          | (rw [hb5.cell (by simp; omega)]; assumption)
          | go_keep)))
        (first
          | (go_at_call 55; refine (i_checkNodesList _ _ _ (by exact ho5.ints)).mono ?_; rintro e w' ⟨rfl, rfl⟩; rw [HC.out])
          | (go_at_call 69; refine (im_nodes _ _ A Bs (by exact HT.out.below (B1.out.trans ((below_of_drew hb5).mono B1.out.size))) HI.out.numTab).mono ?_; rintro e w6 ⟨v6, rfl, ho6, hb6⟩)
          | (go_at_call 69; refine (im_nodes _ _ A Bs (by exact HT.out.below B1.out.drew) HI.out.numTab).mono ?_; rintro e w5 ⟨v5, rfl, ho5, hb5⟩)
          | (go_at_call 56; refine (i_collocation _ _ _ (by exact ho6.ints) HK.out.2.2 (by omega)).mono ?_; rintro e w7 ⟨v7, rfl, ho7, hb7⟩)
          | (go_at_call 70; refine (im_equal _ _ _ _ _ _ _ (by exact ho7.arg) (by exact HT.out.below (B1.out.trans ((((below_of_drew hb5).trans (hb6.mono hb5.size)).trans (hb7.mono (Nat.le_trans hb5.size hb6.size))).mono B1.out.size)))).mono ?_; rintro e w8 ⟨rfl, hb8⟩))
      go_wp2_with fail
      go_ret2
      exact ⟨by simp [isColB, isColC, HQ.out, HC.out], B1.out.trans (((((below_of_drew hb5).trans (hb6.mono hb5.size)).trans (hb7.mono (Nat.le_trans hb5.size hb6.size))).trans (hb8.mono (Nat.le_trans (Nat.le_trans hb5.size hb6.size) hb7.size))).mono B1.out.size)⟩
    · have HC := Lib.hid hc
      go_wp2_with fail
      go_region_law (first
          | (go_simp; go_at_call 55; refine (i_checkNodesList _ _ _ (by exact ho5.ints)).mono ?_; rintro e w' ⟨rfl, rfl⟩)
          | (go_simp; go_at_call 69; refine (im_nodes _ _ A Bs (by exact HT.out.below B1.out.drew) HI.out.numTab).mono ?_; rintro e w5 ⟨v5, rfl, ho5, hb5⟩))
      all_goals
        go_wp2_with fail
        go_ret2
        exact ⟨by simp [isColB, isColC, HQ.out, HC.out, Act.put], B1.out.trans ((below_of_drew hb5).mono B1.out.size)⟩

set_option maxHeartbeats 2000000 in
theorem s_IsCollocation (w : World) (v : Value) (A : List (List Int)) (Bs : List Int) (ha : TabArg w v A Bs) :
    Calls Try.prog 25 #[v] w fun e w' => e = .returned (.tuple #[.bool (isColB A Bs), .int .i64 (isColC A Bs)]) ∧ Below w.heap.size w w' := by
  have HT := Lib.hid ha
  obtain ⟨va, vb, rfl, hA, hB⟩ := ha
  have HA := Lib.hid hA
  obtain ⟨Aa, ca, rfl, -, -, -⟩ := hA.open_
  obtain ⟨Ab, cb, rfl, -, -, -⟩ := hB.open_
  have B0 := Lib.hid (below1 w (.cells #[.slice Aa A.length ca, .slice Ab Bs.length cb] 27))
  have K0 := Lib.hid (Blk.new w #[.slice Aa A.length ca, .slice Ab Bs.length cb] 27)
  clear hA hB
  go_enter Try.func25, Try.ntmps25
  go_wp2_with fail
  refine (s_l09Is _ _ _ _ (HT.out.below B0.out)).mono ?_
  rintro e w1 ⟨rfl, hb1⟩
  have B1 := Lib.hid (B0.out.trans (hb1.mono B0.out.size))
  have K1 := Lib.hid (K0.out.below hb1 K0.out.lt)
  have g0 : w1.cell? ⟨w.heap.size, 0, none⟩ = some (.slice Aa A.length ca) := K1.out.cell 0
  have g1 : w1.cell? ⟨w.heap.size, 1, none⟩ = some (.slice Ab Bs.length cb) := K1.out.cell 1
  have hlt1 := K1.out.lt
  clear hb1
  cases ht : tabB A Bs with
  | false =>
    go_wp2_with fail
    go_ret2
    exact ⟨by simp [isColB, isColC, ht], B1.out⟩
  | true =>
    have HI := Lib.hid (isTab_of ht)
    have HQ := Lib.hid ht
    have hal := HI.out.numTab.la
    have hbl := HI.out.numTab.lb
    clear ht
    go_wp2_with fail
    go_region_held3 (fun w' => w'.cell? ⟨w.heap.size, 0, none⟩ = some (.slice Aa A.length ca) ∧ w'.cell? ⟨w.heap.size, 1, none⟩ = some (.slice Ab Bs.length cb)) ((go_split_ands; refine ⟨?_, ?_⟩ <;> (first
        | (rw [hb6.cell (by have h5 := hb5.size; simp at h5 ⊢; omega)]; assumption)
        | (rw [hb5.cell (by simp; omega)]; assumption)
        | go_keep)))
      (first
        | (go_at_call 67; refine (s_l09Ones _ Bs.length hbl).mono ?_; rintro e w5 ⟨v5, rfl, ho5, hb5⟩)
        | (go_at_call 66; refine (s_l09TimesOnes _ _ _ A Bs.length (by exact HA.out.below (B1.out.trans ((below_of_drew hb5).mono B1.out.size))) (by exact ho5.ints) (fun zs hz => ⟨nums_iff.1 (HI.out.row zs hz).2, Nat.le_of_eq (HI.out.row zs hz).1⟩) hal hbl).mono ?_; rintro e w6 ⟨v6, rfl, ho6, hb6⟩))
    have B6 := Lib.hid (B1.out.trans (((below_of_drew hb5).trans (hb6.mono hb5.size)).mono B1.out.size))
    have K6 := Lib.hid (K1.out.below ((below_of_drew hb5).trans (hb6.mono hb5.size)) K1.out.lt)
    have HO6 := Lib.hid ho6.ints
    have k0 : w6.cell? ⟨w.heap.size, 0, none⟩ = some (.slice Aa A.length ca) := K6.out.cell 0
    have k1 : w6.cell? ⟨w.heap.size, 1, none⟩ = some (.slice Ab Bs.length cb) := K6.out.cell 1
    have hlt6 := K6.out.lt
    clear ho5 hb5 ho6 hb6 g0 g1
    by_cases hc : nodesC (nodesOf A) = 0
    · have HC := Lib.hid hc
      have HK := Lib.hid (nodesC_ok hc)
      have hle := (nodesC_ok hc).2.1
      go_wp2_with fail
      go_region_held3 (fun w' => w'.cell? ⟨w.heap.size, 0, none⟩ = some (.slice Aa A.length ca) ∧ w'.cell? ⟨w.heap.size, 1, none⟩ = some (.slice Ab Bs.length cb)) ((go_split_ands; refine ⟨?_, ?_⟩ <;> (first
          | (rw [hb8.cell (by have h7 := hb7.size; simp at h7 ⊢; omega)]; assumption)
          | (rw [hb7.cell (by simp; omega)]; assumption)
          | go_keep)))
        (first
          | (go_at_call 53; refine (s_l11Nodes _ _ _ (by exact HO6.out)).mono ?_; rintro e w' ⟨rfl, n7, rfl⟩; rw [HC.out])
          | (go_at_call 54; refine (s_l11Collocation _ _ _ (by exact HO6.out) HK.out.2.2 (by omega)).mono ?_; rintro e w7 ⟨v7, rfl, ho7, hb7⟩; have hb7' : Below w6.heap.size w6 w7 := ⟨hb7.os, hb7.tape, hb7.output, hb7.size, hb7.block⟩)
          | (go_at_call 68; refine (s_l09Same _ _ _ _ _ _ _ (by exact ho7.arg) (by exact HT.out.below (B6.out.trans (hb7'.mono B6.out.size)))).mono ?_; rintro e w8 ⟨rfl, hb8⟩))
      go_wp2_with fail
      go_ret2
      exact ⟨by simp [isColB, isColC, HQ.out, HC.out], B6.out.trans ((hb7'.trans (hb8.mono hb7'.size)).mono B6.out.size)⟩
    · have HC := Lib.hid hc
      go_wp2_with fail
      have hd : decide (nodesC (nodesOf A) = 0) = false := by simp [hc]
      go_quiet ((go_at_call 53; first | exact quiet_more (s_l11Nodes _ _ _ (by exact HO6.out.drewN _)) | exact quiet_more0 (s_l11Nodes _ _ _ (by exact HO6.out.drewN _))))
      go_wp2_with fail
      go_ret2
      exact ⟨by simp [isColB, isColC, HQ.out, HC.out, Act.put], below_drewN B6.out _⟩
end Go.Proofs.Ytgbfifcbbfhpmaa
