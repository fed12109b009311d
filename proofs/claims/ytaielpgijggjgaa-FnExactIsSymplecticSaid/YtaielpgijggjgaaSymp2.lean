/- Walks: the reference's list of a fault; IsSymplectic of the program and of the reference. -/
import Derived.Test.YtaielpgijggjgaaSymp
set_option linter.unusedVariables false
set_option linter.unusedSimpArgs false
namespace Go.Proofs.Ytaielpgijggjgaa
open Go.RowKit

set_option maxHeartbeats 2000000 in
theorem s_l12Fault (w : World) (v : Value) (A : List (List Int)) (Bs : List Int) (ha : TabArg w v A Bs) (hI : IsTab A Bs) :
    Calls Try.prog 41 #[v] w fun e w' => ∃ r v', e = .returned v' ∧ IsFault A Bs r ∧ OwnInts w' w.heap.size tI v' r ∧ Below w.heap.size w w' := by
  have HT := Lib.hid ha
  obtain ⟨Aa, ca, Ab, cb, rfl⟩ := ha.open_
  have B0 := Lib.hid (below1 w (.cells #[.slice Aa A.length ca, .slice Ab Bs.length cb] 37))
  have K0 := Lib.hid (Blk.new w #[.slice Aa A.length ca, .slice Ab Bs.length cb] 37)
  have HI := Lib.hid hI
  have hn8 := hI.hi
  clear ha hI
  go_enter Try.func41, Try.ntmps41
  go_wp2_with fail
  go_loopw [3] (fun i wr => ∃ j : Nat, j ≤ Bs.length ∧ i = .int .i64 j ∧ Below w.heap.size w wr ∧ Blk wr w.heap.size 37 #[.slice Aa A.length ca, .slice Ab Bs.length cb] ∧ Hid (∀ a b, a < j → a ≤ b → b < Bs.length → cnd A Bs a b = 0)) (fun i _ => Bs.length - (intOf i).toNat)
  case atStart => exact ⟨0, Nat.zero_le _, rfl, B0.out, K0.out, fun a b h => by omega⟩
  case round =>
    obtain ⟨j, hj, rfl, hb, hk, hP⟩ := hrel
    have g0 : wr.cell? ⟨w.heap.size, 0, none⟩ = some (.slice Aa A.length ca) := hk.cell 0
    have g1 : wr.cell? ⟨w.heap.size, 1, none⟩ = some (.slice Ab Bs.length cb) := hk.cell 1
    have HB := Lib.hid hb
    have HK := Lib.hid hk
    clear hb hk
    by_cases hlt : j < Bs.length
    · have hlt' : (j : Int) < (Bs.length : Int) := by omega
      go_wp2_with fail
      clear g0 g1
      obtain ⟨wo, rfl⟩ : ∃ wo : World, wo = wr := ⟨_, rfl⟩
      go_loopw [4] (fun i wr => ∃ k : Nat, j ≤ k ∧ k ≤ Bs.length ∧ i = .int .i64 k ∧ Below w.heap.size w wr ∧ Blk wr w.heap.size 37 #[.slice Aa A.length ca, .slice Ab Bs.length cb] ∧ Hid (∀ b, j ≤ b → b < k → cnd A Bs j b = 0)) (fun i _ => Bs.length - (intOf i).toNat)
      case atStart => exact ⟨j, Nat.le_refl _, hj, rfl, HB.out, HK.out, fun b h => by omega⟩
      case round =>
        obtain ⟨k, hjk, hkk, rfl, hb, hk, hQ⟩ := hrel
        have g0 : wr.cell? ⟨w.heap.size, 0, none⟩ = some (.slice Aa A.length ca) := hk.cell 0
        have g1 : wr.cell? ⟨w.heap.size, 1, none⟩ = some (.slice Ab Bs.length cb) := hk.cell 1
        have GB := Lib.hid hb
        have GK := Lib.hid hk
        clear hb hk HB HK
        by_cases hlt2 : k < Bs.length
        · have hlt2' : (k : Int) < (Bs.length : Int) := by omega
          go_wp2_with fail
          refine (s_l12Condition _ _ _ _ _ _ (HT.out.below GB.out) HI.out hlt hlt2).mono ?_
          rintro e w1 ⟨rfl, hb1⟩
          have B1 := Lib.hid (GB.out.trans (hb1.mono GB.out.size))
          have K1 := Lib.hid (GK.out.below hb1 GK.out.lt)
          clear hb1 g0 g1
          go_wp2_with fail
          · have hne : (cnd A Bs j k != 0) = true := by assumption
            go_ret
            refine ⟨_, _, rfl, .inr ⟨j, k, hjk, hlt2, rfl, by simpa using hne, fun a b hab hb hlt => ?_⟩, ?_, ?_⟩
            · rcases hlt with h | ⟨h, h'⟩
              · exact hP.out a b h hab hb
              · subst h; exact hQ.out b hab h'
            · exact (own_two _ j k (by omega) (by omega)).mono B1.out.size
            · exact B1.out.alloc B1.out.size _
          · have hne : (cnd A Bs j k != 0) = false := by assumption
            go_roundw
            case rel =>
              refine ⟨k + 1, by omega, by omega, by go_num, B1.out, K1.out, fun b hb1 hb2 => ?_⟩
              by_cases e : b = k
              · subst e
                simpa using hne
              · exact hQ.out b hb1 (by omega)
            case measure => simp [intOf]; omega
        · have : k = Bs.length := by omega
          subst this
          go_wp2_with fail
          go_roundw
          case rel =>
            refine ⟨j + 1, by omega, by go_num, GB.out, GK.out, fun a b ha hab hb => ?_⟩
            by_cases e : a = j
            · subst e
              exact hQ.out b hab hb
            · exact hP.out a b (by omega) hab hb
          case measure => simp [intOf]; omega
    · have : j = Bs.length := by omega
      subst this
      go_wp2_with fail
      go_ret
      exact ⟨[], _, rfl, .inl ⟨rfl, fun i k hik hk => hP.out i k (by omega) hik hk⟩, OwnInts.nil _ _ _, HB.out⟩

/-- the answer, with the fault r -/
def IsSp (A : List (List Int)) (Bs : List Int) (b : Bool) (c : Int) : Prop := (tabB A Bs = false ∧ b = false ∧ c = 1) ∨ (tabB A Bs = true ∧ c = 0 ∧ ∃ r, IsFault A Bs r ∧ b = decide (r = []))
theorem IsSp.unique {A : List (List Int)} {Bs : List Int} {b b' : Bool} {c c' : Int} (h : IsSp A Bs b c) (h' : IsSp A Bs b' c') : b = b' ∧ c = c' := by
  rcases h with ⟨h1, rfl, rfl⟩ | ⟨h1, rfl, r, h2, rfl⟩
  · rcases h' with ⟨_, rfl, rfl⟩ | ⟨h3, _⟩
    · exact ⟨rfl, rfl⟩
    · rw [h1] at h3; cases h3
  · rcases h' with ⟨h3, _⟩ | ⟨_, rfl, r', h4, rfl⟩
    · rw [h1] at h3; cases h3
    · rw [h2.unique h4]; exact ⟨rfl, rfl⟩

set_option maxHeartbeats 1000000 in
theorem s_IsSymplectic (w : World) (v : Value) (A : List (List Int)) (Bs : List Int) (ha : TabArg w v A Bs) :
    Calls Try.prog 22 #[v] w fun e w' => ∃ b c, e = .returned (.tuple #[.bool b, .int .i64 c]) ∧ IsSp A Bs b c ∧ Below w.heap.size w w' := by
  have HT := Lib.hid ha
  obtain ⟨Aa, ca, Ab, cb, rfl⟩ := ha.open_
  have B0 := Lib.hid (below1 w (.cells #[.slice Aa A.length ca, .slice Ab Bs.length cb] 37))
  have K0 := Lib.hid (Blk.new w #[.slice Aa A.length ca, .slice Ab Bs.length cb] 37)
  clear ha
  cases ht : tabB A Bs with
  | false =>
    go_enter Try.func22, Try.ntmps22
    go_wp2_with fail
    refine (s_l09Is _ _ _ _ (HT.out.below B0.out)).mono ?_
    rintro e w1 ⟨rfl, hb1⟩
    have B1 := Lib.hid (B0.out.trans (hb1.mono B0.out.size))
    clear hb1
    go_wp2_with fail
    go_ret2
    exact ⟨_, _, rfl, .inl ⟨ht, rfl, rfl⟩, B1.out⟩
  | true =>
    have HI := Lib.hid (isTab_of ht)
    go_enter Try.func22, Try.ntmps22
    go_wp2_with fail
    refine (s_l09Is _ _ _ _ (HT.out.below B0.out)).mono ?_
    rintro e w1 ⟨rfl, hb1⟩
    have B1 := Lib.hid (B0.out.trans (hb1.mono B0.out.size))
    have K1 := Lib.hid (K0.out.below hb1 K0.out.lt)
    have g0 : w1.cell? ⟨w.heap.size, 0, none⟩ = some (.slice Aa A.length ca) := K1.out.cell 0
    have g1 : w1.cell? ⟨w.heap.size, 1, none⟩ = some (.slice Ab Bs.length cb) := K1.out.cell 1
    clear hb1
    go_wp2_with fail
    refine (s_l12Fault _ _ _ _ (HT.out.below B1.out) HI.out).mono ?_
    rintro e w2 ⟨r, v2, rfl, hr, ho2, hb2⟩
    obtain ⟨A2, c2, rfl, _, _, -⟩ := ho2.ints.open_
    have B2 := Lib.hid (B1.out.trans (hb2.mono B1.out.size))
    have HR := Lib.hid hr
    clear hb2 ho2 hr
    by_cases hr0 : r = []
    · subst hr0
      go_wp2_with fail
      go_ret2
      exact ⟨_, _, rfl, .inr ⟨ht, rfl, _, HR.out, by simp⟩, B2.out⟩
    · have hl : ((r.length : Int) == 0) = false := by
        have : r.length ≠ 0 := fun h => hr0 (List.eq_nil_of_length_eq_zero h)
        simp; omega
      have HR0 := Lib.hid hr0
      clear hr0
      go_wp2_with fail
      go_ret2
      exact ⟨_, _, rfl, .inr ⟨ht, rfl, _, HR.out, by simp [HR0.out]⟩, B2.out⟩

set_option maxHeartbeats 1000000 in
theorem i_IsSymplectic (w : World) (v : Value) (A : List (List Int)) (Bs : List Int) (ha : TabArg w v A Bs) :
    Calls Try.prog 23 #[v] w fun e w' => ∃ b c, e = .returned (.tuple #[.bool b, .int .i64 c]) ∧ IsSp A Bs b c ∧ Below w.heap.size w w' := by
  have HT := Lib.hid ha
  obtain ⟨Aa, ca, Ab, cb, rfl⟩ := ha.open_
  have B0 := Lib.hid (below1 w (.cells #[.slice Aa A.length ca, .slice Ab Bs.length cb] 37))
  have K0 := Lib.hid (Blk.new w #[.slice Aa A.length ca, .slice Ab Bs.length cb] 37)
  clear ha
  cases ht : tabB A Bs with
  | false =>
    go_enter Try.func23, Try.ntmps23
    go_wp2_with fail
    refine (i_IsTableau _ _ _ _ (HT.out.below B0.out)).mono ?_
    rintro e w1 ⟨rfl, hb1⟩
    have B1 := Lib.hid (B0.out.trans (hb1.mono B0.out.size))
    clear hb1
    go_wp2_with fail
    go_ret2
    exact ⟨_, _, rfl, .inl ⟨ht, rfl, rfl⟩, B1.out⟩
  | true =>
    have HI := Lib.hid (isTab_of ht)
    go_enter Try.func23, Try.ntmps23
    go_wp2_with fail
    refine (i_IsTableau _ _ _ _ (HT.out.below B0.out)).mono ?_
    rintro e w1 ⟨rfl, hb1⟩
    have B1 := Lib.hid (B0.out.trans (hb1.mono B0.out.size))
    have K1 := Lib.hid (K0.out.below hb1 K0.out.lt)
    have g0 : w1.cell? ⟨w.heap.size, 0, none⟩ = some (.slice Aa A.length ca) := K1.out.cell 0
    have g1 : w1.cell? ⟨w.heap.size, 1, none⟩ = some (.slice Ab Bs.length cb) := K1.out.cell 1
    clear hb1
    have en := fun (W : World) (a : Option Addr) (n c : Nat) => Lib.run_eql_slice_nil (P := Try.prog) W 22 2 a n c 0 0 Try.underlying22
    go_wp2_with fail
    refine (im_symplecticFault _ _ _ _ (HT.out.below B1.out) HI.out).mono ?_
    rintro e w2 ⟨r, v2, rfl, hr, ho2, hv2, hb2⟩
    have B2 := Lib.hid (B1.out.trans (hb2.mono B1.out.size))
    have HR := Lib.hid hr
    clear hb2 hr g0 g1
    by_cases hr0 : r = []
    · obtain rfl := hv2 hr0
      subst hr0
      clear ho2 hv2
      go_wp2_with fail
      go_ret2
      exact ⟨_, _, rfl, .inr ⟨ht, rfl, _, HR.out, by simp⟩, B2.out⟩
    · rcases ho2.1.cases with ⟨_, h⟩ | ⟨g, cap, cur, rfl, _⟩
      · exact absurd (by simpa [ints] using h) hr0
      · have HR0 := Lib.hid hr0
        clear hr0 ho2 hv2
        go_wp2_with fail
        go_ret2
        exact ⟨_, _, rfl, .inr ⟨ht, rfl, _, HR.out, by simp [HR0.out]⟩, B2.out⟩
end Go.Proofs.Ytaielpgijggjgaa
