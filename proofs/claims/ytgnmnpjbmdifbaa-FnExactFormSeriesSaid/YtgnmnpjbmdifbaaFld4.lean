/- The laws' helpers: the sizes of monomials. -/
import Derived.Test.YtgnmnpjbmdifbaaMono
import Derived.Test.YtgnmnpjbmdifbaaLR
set_option maxRecDepth 100000
set_option linter.unusedVariables false
set_option linter.unusedSimpArgs false
namespace Go.Proofs.Ytgnmnpjbmdifbaa
open Go.RowKit

def szMs (left : Int) (ms : List Mono) : Int := if left - ms.length < 0 then -1 else szR (left - ms.length) (ms.map (·.2))

set_option maxHeartbeats 1000000 in
theorem l_szMonomial (w : World) (v : Value) (m : Mono) (left : Int) (ha : MonoArg w v m) (h0 : 0 ≤ left) (h1 : left ≤ 4294967296) :
    Calls Try.prog 166 #[v, .int .i64 left] w fun e w' => e = .returned (.int .i64 (szI left m.2.length)) ∧ Below w.heap.size w w' := by
  obtain ⟨u, rfl, hf, hu⟩ := ha
  have HU := Lib.hid (hu.below (below1 w (.cells #[.int .i64 m.1, u] 142)))
  have B0 := Lib.hid (below1 w (.cells #[.int .i64 m.1, u] 142))
  by_cases hs : szI left m.2.length < 0
  · have HS := Lib.hid (show szI left m.2.length = -1 by unfold szI at hs ⊢; split at hs <;> first | omega | (split <;> omega))
    go_enter Try.func166, Try.ntmps166
    go_wp2_with (go_at_call 52; refine (l_szInt64S _ _ _ _ HU.out (by omega) (by omega)).mono ?_; rintro e w' ⟨rfl, rfl⟩)
    go_ret
    exact ⟨ret_int HS.out.symm, B0.out⟩
  · go_enter Try.func166, Try.ntmps166
    go_wp2_with (go_at_call 52; refine (l_szInt64S _ _ _ _ HU.out (by omega) (by omega)).mono ?_; rintro e w' ⟨rfl, rfl⟩)
    go_ret
    exact ⟨rfl, B0.out⟩

set_option maxHeartbeats 2000000 in
theorem l_szMonomialS (w : World) (v : Value) (ms : List Mono) (left : Int) (ha : Monos w v ms) (h0 : 0 ≤ left) (h1 : left ≤ 4294967296) :
    Calls Try.prog 110 #[v, .int .i64 left] w fun e w' => e = .returned (.int .i64 (szMs left ms)) ∧ Below w.heap.size w w' := by
  obtain ⟨A, c, rfl, g1, g2, g3⟩ := ha.open_
  have G3 := Lib.hid g3
  clear ha g3
  by_cases h : left - ms.length < 0
  · have HF := Lib.hid (show szMs left ms = -1 by simp [szMs, h])
    go_enter Try.func110, Try.ntmps110
    go_wp2
    go_ret
    exact ⟨ret_int HF.out.symm, Below.refl _ _⟩
  · have HF := Lib.hid (show szMs left ms = szR (left - ms.length) (ms.map (·.2)) by simp [szMs, h])
    go_enter Try.func110, Try.ntmps110
    go_wp2
    go_loopw [1, 5] (fun l i wr => ∃ (k : Nat) (m : Int), k ≤ ms.length ∧ i = .int .i64 k ∧ l = .int .i64 m ∧ 0 ≤ m ∧ m ≤ 4294967296 ∧ Hid (szR m ((ms.map (·.2)).drop k) = szR (left - ms.length) (ms.map (·.2))) ∧ Below w.heap.size w wr) (fun _ i _ => ms.length - (intOf i).toNat)
    case atStart => exact ⟨0, _, Nat.zero_le _, rfl, rfl, by omega, by omega, rfl, Below.refl _ _⟩
    case round =>
      obtain ⟨k, m, hk, rfl, rfl, hm0, hm1, hI, hb⟩ := hrel
      have HB := Lib.hid hb
      clear h h0 h1 hb
      by_cases hlt : k < ms.length
      · obtain ⟨b, o, mm, u, rfl, hmk, hf64, hu, hcf, hcu⟩ := G3.out k hlt
        obtain ⟨f, ps⟩ := mm
        simp only at hf64 hu hcf hcu
        have HD := Lib.hid (szR_drop (left := m) (show (ms.map (·.2))[k]? = some ps by simp [hmk]))
        have hab : b < w.heap.size := World.block_lt_of_cell? w _ hcf
        have q0 : wr.cell? ⟨b, o + k * 2, none⟩ = some (.int .i64 f) := by rw [HB.out.cell (by exact hab)]; exact hcf
        have q1 : wr.cell? ⟨b, o + k * 2 + 1, none⟩ = some u := by rw [HB.out.cell (by exact hab)]; exact hcu
        have HMA := Lib.hid ((show MonoArg w (.agg #[.int .i64 f, u]) (f, ps) from ⟨_, rfl, hf64, hu⟩).below HB.out)
        clear hmk hf64 hu hcf hcu
        by_cases hs : szI m ps.length < 0
        · have HS := Lib.hid hs
          go_wp2_with (go_at_call 166; refine (l_szMonomial _ _ (f, ps) _ HMA.out (by omega) (by omega)).mono ?_; rintro e w5 ⟨rfl, hb5⟩)
          go_ret
          refine ⟨ret_int ?_, HB.out.trans (hb5.mono HB.out.size)⟩
          rw [HF.out, ← hI.out, HD.out, if_pos HS.out]
        · have hle := szI_le (left := m) (n := ps.length) (by omega)
          have HS := Lib.hid hs
          go_wp2_with (go_at_call 166; refine (l_szMonomial _ _ (f, ps) _ HMA.out (by omega) (by omega)).mono ?_; rintro e w5 ⟨rfl, hb5⟩)
          go_roundw
          case rel =>
            refine ⟨k + 1, _, by omega, by go_num, rfl, by omega, by omega, ?_, HB.out.trans (hb5.mono HB.out.size)⟩
            unfold Hid
            rw [← hI.out, HD.out, if_neg (by have := HS.out; omega)]
          case measure => simp [intOf]; omega
      · have : k = ms.length := by omega
        subst this
        go_wp2_with fail
        go_ret
        refine ⟨ret_int ?_, HB.out⟩
        rw [HF.out, ← hI.out, show (ms.map (·.2)).drop ms.length = [] from by simp]
        rfl
end Go.Proofs.Ytgnmnpjbmdifbaa
