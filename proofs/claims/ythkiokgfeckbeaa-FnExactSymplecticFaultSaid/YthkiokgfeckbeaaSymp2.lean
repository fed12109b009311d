/- Walks: the reference's list of a fault; IsSymplectic of the program and of the reference. -/
import Derived.Test.YthkiokgfeckbeaaSymp
set_option linter.unusedVariables false
set_option linter.unusedSimpArgs false
namespace Go.Proofs.Ythkiokgfeckbeaa
open Go.RowKit

set_option maxHeartbeats 2000000 in
theorem s_l12Fault (w : World) (v : Value) (A : List (List Int)) (Bs : List Int) (ha : TabArg w v A Bs) (hI : IsTab A Bs) :
    Calls Try.prog 33 #[v] w fun e w' => ∃ r v', e = .returned v' ∧ IsFault A Bs r ∧ OwnInts w' w.heap.size tI v' r ∧ Below w.heap.size w w' := by
  have HT := Lib.hid ha
  obtain ⟨Aa, ca, Ab, cb, rfl⟩ := ha.open_
  have B0 := Lib.hid (below1 w (.cells #[.slice Aa A.length ca, .slice Ab Bs.length cb] 29))
  have K0 := Lib.hid (Blk.new w #[.slice Aa A.length ca, .slice Ab Bs.length cb] 29)
  have HI := Lib.hid hI
  have hn8 := hI.hi
  clear ha hI
  go_enter Try.func33, Try.ntmps33
  go_wp2_with fail
  go_loopw [3] (fun i wr => ∃ j : Nat, j ≤ Bs.length ∧ i = .int .i64 j ∧ Below w.heap.size w wr ∧ Blk wr w.heap.size 29 #[.slice Aa A.length ca, .slice Ab Bs.length cb] ∧ Hid (∀ a b, a < j → a ≤ b → b < Bs.length → cnd A Bs a b = 0)) (fun i _ => Bs.length - (intOf i).toNat)
  case atStart => exact ⟨0, Nat.zero_le _, rfl, B0.out, K0.out, fun a b h => by omega⟩
  case round =>
    obtain ⟨j, hj, rfl, hb, hk, hP⟩ := hrel
    have g0 : wr.cell? ⟨w.heap.size, 0, none⟩ = some (.slice Aa A.length ca) := hk.cell 0
    have g1 : wr.cell? ⟨w.heap.size, 1, none⟩ = some (.slice Ab Bs.length cb) := hk.cell 1
    have HB := Lib.hid hb
    have HK := Lib.hid hk
    clear hb hk
    by_cases hlt : j < Bs.length
    · have hlt' : (j : Int) < (Bs.length : Int) := by omega
      go_wp2_with fail
      clear g0 g1
      obtain ⟨wo, rfl⟩ : ∃ wo : World, wo = wr := ⟨_, rfl⟩
      go_loopw [4] (fun i wr => ∃ k : Nat, j ≤ k ∧ k ≤ Bs.length ∧ i = .int .i64 k ∧ Below w.heap.size w wr ∧ Blk wr w.heap.size 29 #[.slice Aa A.length ca, .slice Ab Bs.length cb] ∧ Hid (∀ b, j ≤ b → b < k → cnd A Bs j b = 0)) (fun i _ => Bs.length - (intOf i).toNat)
      case atStart => exact ⟨j, Nat.le_refl _, hj, rfl, HB.out, HK.out, fun b h => by omega⟩
      case round =>
        obtain ⟨k, hjk, hkk, rfl, hb, hk, hQ⟩ := hrel
        have g0 : wr.cell? ⟨w.heap.size, 0, none⟩ = some (.slice Aa A.length ca) := hk.cell 0
        have g1 : wr.cell? ⟨w.heap.size, 1, none⟩ = some (.slice Ab Bs.length cb) := hk.cell 1
        have GB := Lib.hid hb
        have GK := Lib.hid hk
        clear hb hk HB HK
        by_cases hlt2 : k < Bs.length
        · have hlt2' : (k : Int) < (Bs.length : Int) := by omega
          go_wp2_with fail
          refine (s_l12Condition _ _ _ _ _ _ (HT.out.below GB.out) HI.out hlt hlt2).mono ?_
          rintro e w1 ⟨rfl, hb1⟩
          have B1 := Lib.hid (GB.out.trans (hb1.mono GB.out.size))
          have K1 := Lib.hid (GK.out.below hb1 GK.out.lt)
          clear hb1 g0 g1
          go_wp2_with fail
          · have hne : (cnd A Bs j k != 0) = true := by assumption
            go_ret
            refine ⟨_, _, rfl, .inr ⟨j, k, hjk, hlt2, rfl, by simpa using hne, fun a b hab hb hlt => ?_⟩, ?_, ?_⟩
            · rcases hlt with h | ⟨h, h'⟩
              · exact hP.out a b h hab hb
              · subst h; exact hQ.out b hab h'
            · exact (own_two _ j k (by omega) (by omega)).mono B1.out.size
            · exact B1.out.alloc B1.out.size _
          · have hne : (cnd A Bs j k != 0) = false := by assumption
            go_roundw
            case rel =>
              refine ⟨k + 1, by omega, by omega, by go_num, B1.out, K1.out, fun b hb1 hb2 => ?_⟩
              by_cases e : b = k
              · subst e
                simpa using hne
              · exact hQ.out b hb1 (by omega)
            case measure => simp [intOf]; omega
        · have : k = Bs.length := by omega
          subst this
          go_wp2_with fail
          go_roundw
          case rel =>
            refine ⟨j + 1, by omega, by go_num, GB.out, GK.out, fun a b ha hab hb => ?_⟩
            by_cases e : a = j
            · subst e
              exact hQ.out b hab hb
            · exact hP.out a b (by omega) hab hb
          case measure => simp [intOf]; omega
    · have : j = Bs.length := by omega
      subst this
      go_wp2_with fail
      go_ret
      exact ⟨[], _, rfl, .inl ⟨rfl, fun i k hik hk => hP.out i k (by omega) hik hk⟩, OwnInts.nil _ _ _, HB.out⟩

/-- the answer, with the fault r -/
def IsSp (A : List (List Int)) (Bs : List Int) (b : Bool) (c : Int) : Prop := (tabB A Bs = false ∧ b = false ∧ c = 1) ∨ (tabB A Bs = true ∧ c = 0 ∧ ∃ r, IsFault A Bs r ∧ b = decide (r = []))
theorem IsSp.unique {A : List (List Int)} {Bs : List Int} {b b' : Bool} {c c' : Int} (h : IsSp A Bs b c) (h' : IsSp A Bs b' c') : b = b' ∧ c = c' := by
  rcases h with ⟨h1, rfl, rfl⟩ | ⟨h1, rfl, r, h2, rfl⟩
  · rcases h' with ⟨_, rfl, rfl⟩ | ⟨h3, _⟩
    · exact ⟨rfl, rfl⟩
    · rw [h1] at h3; cases h3
  · rcases h' with ⟨h3, _⟩ | ⟨_, rfl, r', h4, rfl⟩
    · rw [h1] at h3; cases h3
    · rw [h2.unique h4]; exact ⟨rfl, rfl⟩

end Go.Proofs.Ythkiokgfeckbeaa
