/- Walks: SymplecticFault of the program and of the reference. -/
import Derived.Test.YthkiokgfeckbeaaSymp2
set_option linter.unusedVariables false
set_option linter.unusedSimpArgs false
namespace Go.Proofs.Ythkiokgfeckbeaa
open Go.RowKit

/-- what SymplecticFault answers -/
def IsSf (A : List (List Int)) (Bs : List Int) (r : List Int) (c : Int) : Prop := (tabB A Bs = false ∧ r = [] ∧ c = 1) ∨ (tabB A Bs = true ∧ IsFault A Bs r ∧ c = if r = [] then 4 else 0)
theorem IsSf.unique {A : List (List Int)} {Bs : List Int} {r r' : List Int} {c c' : Int} (h : IsSf A Bs r c) (h' : IsSf A Bs r' c') : r = r' ∧ c = c' := by
  rcases h with ⟨h1, rfl, rfl⟩ | ⟨h1, h2, rfl⟩
  · rcases h' with ⟨_, rfl, rfl⟩ | ⟨h3, _⟩
    · exact ⟨rfl, rfl⟩
    · rw [h1] at h3; cases h3
  · rcases h' with ⟨h3, _⟩ | ⟨_, h4, rfl⟩
    · rw [h1] at h3; cases h3
    · obtain rfl := h2.unique h4
      exact ⟨rfl, rfl⟩
theorem IsSf.short {A : List (List Int)} {Bs : List Int} {r : List Int} {c : Int} (h : IsSf A Bs r c) : r.length ≤ 2 := by
  rcases h with ⟨_, rfl, _⟩ | ⟨_, h, _⟩
  · simp
  · exact h.short

set_option maxHeartbeats 1000000 in
theorem s_SymplecticFault (w : World) (v : Value) (A : List (List Int)) (Bs : List Int) (ha : TabArg w v A Bs) :
    Calls Try.prog 10 #[v] w fun e w' => ∃ r v' c, e = .returned (.tuple #[v', .int .i64 c]) ∧ IsSf A Bs r c ∧ OwnInts w' w.heap.size tI v' r ∧ Below w.heap.size w w' := by
  have HT := Lib.hid ha
  obtain ⟨Aa, ca, Ab, cb, rfl⟩ := ha.open_
  have B0 := Lib.hid (below1 w (.cells #[.slice Aa A.length ca, .slice Ab Bs.length cb] 29))
  have K0 := Lib.hid (Blk.new w #[.slice Aa A.length ca, .slice Ab Bs.length cb] 29)
  clear ha
  cases ht : tabB A Bs with
  | false =>
    go_enter Try.func10, Try.ntmps10
    go_wp2_with fail
    refine (s_l09Is _ _ _ _ (HT.out.below B0.out)).mono ?_
    rintro e w1 ⟨rfl, hb1⟩
    have B1 := Lib.hid (B0.out.trans (hb1.mono B0.out.size))
    clear hb1
    go_wp2_with fail
    go_ret2
    exact ⟨_, _, _, rfl, .inl ⟨ht, rfl, rfl⟩, OwnInts.nil _ _ _, B1.out⟩
  | true =>
    have HI := Lib.hid (isTab_of ht)
    go_enter Try.func10, Try.ntmps10
    go_wp2_with fail
    refine (s_l09Is _ _ _ _ (HT.out.below B0.out)).mono ?_
    rintro e w1 ⟨rfl, hb1⟩
    have B1 := Lib.hid (B0.out.trans (hb1.mono B0.out.size))
    have K1 := Lib.hid (K0.out.below hb1 K0.out.lt)
    have g0 : w1.cell? ⟨w.heap.size, 0, none⟩ = some (.slice Aa A.length ca) := K1.out.cell 0
    have g1 : w1.cell? ⟨w.heap.size, 1, none⟩ = some (.slice Ab Bs.length cb) := K1.out.cell 1
    clear hb1
    go_wp2_with fail
    refine (s_l12Fault _ _ _ _ (HT.out.below B1.out) HI.out).mono ?_
    rintro e w2 ⟨r, v2, rfl, hr, ho2, hb2⟩
    obtain ⟨A2, c2, rfl, _, _, -⟩ := ho2.ints.open_
    have B2 := Lib.hid (B1.out.trans (hb2.mono B1.out.size))
    have HR := Lib.hid hr
    have HO2 := Lib.hid (ho2.mono B1.out.size)
    clear hb2 ho2 hr
    by_cases hr0 : r = []
    · subst hr0
      go_wp2_with fail
      go_ret2
      exact ⟨_, _, _, rfl, .inr ⟨ht, HR.out, by simp⟩, OwnInts.nil _ _ _, B2.out⟩
    · have hl : ((r.length : Int) == 0) = false := by
        have : r.length ≠ 0 := fun h => hr0 (List.eq_nil_of_length_eq_zero h)
        simp; omega
      have HR0 := Lib.hid hr0
      clear hr0
      go_wp2_with fail
      go_ret2
      exact ⟨_, _, _, rfl, .inr ⟨ht, HR.out, by rw [if_neg HR0.out]⟩, HO2.out, B2.out⟩


set_option maxHeartbeats 1000000 in
theorem i_SymplecticFault (w : World) (v : Value) (A : List (List Int)) (Bs : List Int) (ha : TabArg w v A Bs) :
    Calls Try.prog 12 #[v] w fun e w' => ∃ r v' c, e = .returned (.tuple #[v', .int .i64 c]) ∧ IsSf A Bs r c ∧ OwnInts w' w.heap.size tI v' r ∧ Below w.heap.size w w' := by
  have HT := Lib.hid ha
  obtain ⟨Aa, ca, Ab, cb, rfl⟩ := ha.open_
  have B0 := Lib.hid (below1 w (.cells #[.slice Aa A.length ca, .slice Ab Bs.length cb] 29))
  have K0 := Lib.hid (Blk.new w #[.slice Aa A.length ca, .slice Ab Bs.length cb] 29)
  clear ha
  cases ht : tabB A Bs with
  | false =>
    go_enter Try.func12, Try.ntmps12
    go_wp2_with fail
    refine (i_IsTableau _ _ _ _ (HT.out.below B0.out)).mono ?_
    rintro e w1 ⟨rfl, hb1⟩
    have B1 := Lib.hid (B0.out.trans (hb1.mono B0.out.size))
    clear hb1
    go_wp2_with fail
    go_ret2
    exact ⟨_, _, _, rfl, .inl ⟨ht, rfl, rfl⟩, OwnInts.nil _ _ _, B1.out⟩
  | true =>
    have HI := Lib.hid (isTab_of ht)
    go_enter Try.func12, Try.ntmps12
    go_wp2_with fail
    refine (i_IsTableau _ _ _ _ (HT.out.below B0.out)).mono ?_
    rintro e w1 ⟨rfl, hb1⟩
    have B1 := Lib.hid (B0.out.trans (hb1.mono B0.out.size))
    have K1 := Lib.hid (K0.out.below hb1 K0.out.lt)
    have g0 : w1.cell? ⟨w.heap.size, 0, none⟩ = some (.slice Aa A.length ca) := K1.out.cell 0
    have g1 : w1.cell? ⟨w.heap.size, 1, none⟩ = some (.slice Ab Bs.length cb) := K1.out.cell 1
    clear hb1
    have en := fun (W : World) (a : Option Addr) (n c : Nat) => Lib.run_eql_slice_nil (P := Try.prog) W 23 2 a n c 0 0 Try.underlying23
    go_wp2_with fail
    refine (im_symplecticFault _ _ _ _ (HT.out.below B1.out) HI.out).mono ?_
    rintro e w2 ⟨r, v2, rfl, hr, ho2, hv2, hb2⟩
    have B2 := Lib.hid (B1.out.trans (hb2.mono B1.out.size))
    have HR := Lib.hid hr
    clear hb2 hr g0 g1
    by_cases hr0 : r = []
    · obtain rfl := hv2 hr0
      subst hr0
      clear ho2 hv2
      go_wp2_with fail
      go_ret2
      exact ⟨_, _, _, rfl, .inr ⟨ht, HR.out, by simp⟩, OwnInts.nil _ _ _, B2.out⟩
    · have HO2 := Lib.hid (ho2.mono B1.out.size)
      rcases ho2.1.cases with ⟨_, h⟩ | ⟨g, cap, cur, rfl, _⟩
      · exact absurd (by simpa [ints] using h) hr0
      · have HR0 := Lib.hid hr0
        clear hr0 ho2 hv2
        go_wp2_with fail
        go_ret2
        exact ⟨_, _, _, rfl, .inr ⟨ht, HR.out, by rw [if_neg HR0.out]⟩, HO2.out, B2.out⟩
end Go.Proofs.Ythkiokgfeckbeaa
