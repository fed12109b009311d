/- The laws' helper: a monomial made anew. -/
import Derived.Test.YtgnmnpjbmdifbaaMono
import Derived.Test.YtgnmnpjbmdifbaaL
import Derived.Test.YtgnmnpjbmdifbaaLR
set_option maxRecDepth 100000
set_option linter.unusedVariables false
set_option linter.unusedSimpArgs false
namespace Go.Proofs.Ytgnmnpjbmdifbaa
open Go.RowKit

set_option maxHeartbeats 2000000 in
theorem l_toMonomial (w : World) (v : Value) (m : Mono) (ha : MonoArg w v m) (hn : m.2.length ≤ 4294967296) :
    Calls Try.prog 167 #[v] w fun e w' => ∃ u, e = .returned (.agg #[.int .i64 m.1, u]) ∧ OI w' w.heap.size w'.heap.size tI u m.2 ∧ Below w.heap.size w w' := by
  obtain ⟨f, ps⟩ := m
  obtain ⟨u, rfl, hf, hu⟩ := ha
  simp only at hf hu hn ⊢
  obtain ⟨A, c, rfl, -, -, -⟩ := hu.open_
  have HU := Lib.hid hu
  clear hu
  go_enter Try.func167, Try.ntmps167
  go_wp2_with fail
  have B0 := Lib.hid (below3 w (.cells #[.int .i64 f, .slice A ps.length c] 142) (.cells #[.int .i64 0, .slice none 0 0] 80) (.cells #[.int .i64 f, .slice none 0 0] 80))
  have K1 := Lib.hid ((Blk.new1 w (.cells #[.int .i64 f, .slice A ps.length c] 142) #[.int .i64 0, .slice none 0 0] 80).alloc (.cells #[.int .i64 f, .slice none 0 0] 80))
  have K2 := Lib.hid (Blk.new2 w (.cells #[.int .i64 f, .slice A ps.length c] 142) (.cells #[.int .i64 0, .slice none 0 0] 80) #[.int .i64 f, .slice none 0 0] 80)
  generalize (((w.alloc (.cells #[.int .i64 f, .slice A ps.length c] 142)).alloc (.cells #[.int .i64 0, .slice none 0 0] 80)).alloc (.cells #[.int .i64 f, .slice none 0 0] 80)) = w1 at B0 K1 K2 ⊢
  refine (l_toInt64S _ _ ps (HU.out.below B0.out) hn).mono ?_
  rintro e w2 ⟨v2, rfl, ho, hb⟩
  obtain ⟨A2, c2, hv, -, -, -⟩ := ho.ints.open_
  subst hv
  have X1 := Lib.hid (K1.out.below hb K1.out.lt)
  have X2 := Lib.hid (K2.out.below hb K2.out.lt)
  have BW := Lib.hid (B0.out.trans (hb.mono B0.out.size))
  have HO := Lib.hid ho
  have hl1 := K2.out.lt
  have e0 : w2.cell? ⟨w.heap.size + 1 + 1, 0, none⟩ = some (.int .i64 f) := X2.out.cell 0
  have e1 : w2.cell? ⟨w.heap.size + 1 + 1, 1, none⟩ = some (.slice none 0 0) := X2.out.cell 1
  have e2 := X2.out.frozen 1
  have f0 : w2.cell? ⟨w.heap.size + 1, 0, none⟩ = some (.int .i64 0) := X1.out.cell 0
  have f1 : w2.cell? ⟨w.heap.size + 1, 1, none⟩ = some (.slice none 0 0) := X1.out.cell 1
  have f2 := X1.out.frozen 0
  have f3 := X1.out.frozen 1
  clear ho hb
  go_wp2_with fail
  have c0 := Chg.refl (w.heap.size + 1) (w.heap.size + 1 + 1 + 1) w2
  have c1 := c0.setCell (p := ⟨w.heap.size + 1 + 1, 1, none⟩) (by simp) (by simp) (.slice A2 ps.length c2)
  have c2' := c1.setCell (p := ⟨w.heap.size + 1, 0, none⟩) (by simp) (by simp <;> omega) (.int .i64 f)
  have c3 := c2'.setCell (p := ⟨w.heap.size + 1, 1, none⟩) (by simp) (by simp <;> omega) (.slice A2 ps.length c2)
  have hoi : OI w2 w1.heap.size w2.heap.size tI (.slice A2 ps.length c2) ps := OI.of HO.out
  refine bodyPost_ret (v := .agg #[.int .i64 f, .slice A2 ps.length c2]) (by simp [results, Try.results167, go_sem, f0, f1]) rfl ⟨_, rfl, (hoi.kept c3 (.inr (by omega))).mono (by omega) c3.size, c3.below BW.out (by omega) BW.out.size⟩
end Go.Proofs.Ytgnmnpjbmdifbaa
