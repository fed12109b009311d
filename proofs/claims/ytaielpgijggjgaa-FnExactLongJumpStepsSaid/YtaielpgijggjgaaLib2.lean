/- Walks of the library's Repeat at a list of one number. -/
import Derived.Test.YtaielpgijggjgaaLib1
import Derived.Deep.RegionLaw
import Derived.Deep.RegionHeld3
import Derived.Laws.CopyOwn
set_option linter.unusedVariables false
set_option linter.unusedSimpArgs false
namespace Go.Proofs.Ytaielpgijggjgaa
open Go.RowKit

theorem Own.whole {w : World} {B : Nat} {e : TypeId} {g n : Nat} {vs : List Value} (h : Own w B e (.slice (some ⟨g, 0, none⟩) n n) vs) (hl : vs.length = n) : w.heap[g]? = some (.cells vs.toArray e (0, 0)) := by
  rcases h.cases with ⟨h, _⟩ | ⟨g', cap, cur, hv, _, _, hg, hc, _, hs, ht⟩
  · cases h
  · simp only [Value.slice.injEq, Option.some.injEq, Addr.mk.injEq, and_true, true_and] at hv
    obtain ⟨rfl, rfl, rfl⟩ := hv
    rw [hg]
    have : cur.toList = vs := by rw [← ht, hl, List.take_of_length_le (by rw [Array.length_toList, hs]; exact Nat.le_refl _)]
    rw [← this]
theorem Own.of_whole {w : World} {B : Nat} {e : TypeId} {g n : Nat} {vs : List Value} (h : w.heap[g]? = some (.cells vs.toArray e (0, 0))) (hl : vs.length = n) (hB : B ≤ g) (hn : n ≤ maxLen) : Own w B e (.slice (some ⟨g, 0, none⟩) n n) vs := by
  subst hl
  exact ⟨by simp, .inr ⟨g, _, _, rfl, hB, h, Nat.le_refl _, hn, by simp, by simp⟩⟩

set_option maxHeartbeats 1000000 in
theorem lib_Mul1 (w : World) (n : Nat) (h1 : 1 ≤ n) (h8 : n ≤ 8) :
    Calls Try.prog 66 #[.int .u64 1, .int .u64 (n : Int)] w fun e w' => e = .returned (.tuple #[.int .u64 0, .int .u64 (n : Int)]) ∧ w = w' := by
  have : n = 1 ∨ n = 2 ∨ n = 3 ∨ n = 4 ∨ n = 5 ∨ n = 6 ∨ n = 7 ∨ n = 8 := by omega
  rcases this with rfl | rfl | rfl | rfl | rfl | rfl | rfl | rfl
  all_goals
    go_enter Try.func66, Try.ntmps66
    go_wp2
    go_ret2
    exact ⟨rfl, rfl⟩

/-- m times g, then zeros up to n -/
def fillG (g : Int) (m n : Nat) : List Value := List.replicate m (Value.int .i64 g) ++ List.replicate (n - m) (Value.int .i64 0)
theorem fillG_len {g : Int} {m n : Nat} (h : m ≤ n) : (fillG g m n).length = n := by simp [fillG]; omega
theorem fillG_splice {g : Int} {m n c : Nat} (h : m + c ≤ n) : splice (fillG g m n) m (List.replicate c (Value.int .i64 g)) = fillG g (m + c) n := by
  unfold splice fillG
  rw [List.take_left' (by simp), List.length_replicate, List.drop_append]
  simp only [List.length_replicate, List.drop_replicate]
  rw [show m - (m + c) = 0 by omega, show m + c - m = c by omega, show n - m - c = n - (m + c) by omega]
  simp only [List.replicate_zero, List.nil_append]
  rw [← List.append_assoc, List.replicate_append_replicate]
theorem fillG_get {g : Int} {m n j : Nat} (h : j < m) : (fillG g m n)[j]? = some (Value.int .i64 g) := by
  unfold fillG
  rw [List.getElem?_append_left (by simpa using h)]
  simp [h]

theorem size_int : (Try.prog.info? tI).map (·.size) = some 1 := by kernel_rfl

theorem copy_src {w w1 : World} {ad : Addr} {g : Int} (hb : Below w.heap.size w w1) (hc : w.cell? (ad.add 0) = some (.int .i64 g)) : ∀ (j : Nat) (u : Value), [Value.int .i64 g][j]? = some u → w1.cell? (ad.add j) = some u := by
  intro j u hj
  cases j with
  | zero =>
    simp at hj; subst hj
    rw [hb.cell (World.block_lt_of_cell? w _ hc)]; exact hc
  | succ j => simp at hj

set_option maxHeartbeats 1000000 in
theorem lib_Repeat1 (w : World) (v : Value) (g : Int) (n : Nat) (ha : Ints w v [g]) (h1 : 1 ≤ n) (h8 : n ≤ 8) :
    Calls Try.prog 59 #[v, .int .i64 (n : Int)] w fun e w' => ∃ r, e = .returned r ∧ OwnInts w' w.heap.size tI r (List.replicate n g) ∧ Below w.heap.size w w' := by
  have HA := Lib.hid ha
  obtain ⟨A, c, rfl, l1, l2, l3⟩ := ha.open_
  obtain ⟨ad, z, rfl, hz, hz2, hc⟩ := l3 0 (by simp)
  obtain rfl : g = z := by simpa using hz
  have HC0 := Lib.hid hc
  clear l3 ha hz hc
  have H64 := Lib.hid hz2
  clear hz2
  go_enter Try.func59, Try.ntmps59
  go_wp2_with fail
  refine (lib_Mul1 _ n h1 h8).mono ?_
  rintro e w' ⟨rfl, rfl⟩
  go_wp2_with (first | (at_make; refine wpList_mk rfl _ _ _ rfl _ _ _ T_int n _ (by rfl) (by rfl) (by rfl) (by omega) _ ?_; intro w1 hown hb hs1; have HOWN := Lib.hid hown; have HB1 := Lib.hid hb; clear hown hb) | (refine wpList_copy_splice rfl (.tmp 31) (.tmp 32) _ _ (by rfl) tI T_int.under size_int (some ⟨w.heap.size, 0, none⟩) (some ad) n n 1 c (by rfl) (by rfl) w.heap.size 0 (fillG g 0 n) tI (by simpa [fillG] using HOWN.out.whole (by simp)) [.int .i64 g] (Nat.min_eq_left h1).symm (fun _ => ⟨rfl, ad, rfl, copy_src HB1.out HC0.out⟩) (by rw [fillG_len (by omega)]; simp; omega) (by simp [Value.oneCell']) w.heap.size w HB1.out (Nat.le_refl _) ?_; intro w2 hg2 hb2; have HB2 := Lib.hid hb2; clear hb2))
  have hg3 : Hid (w2.heap[w.heap.size]? = some (.cells (fillG g 1 n).toArray tI (0, 0))) := by
    have e : splice (fillG g 0 n) 0 [Value.int .i64 g] = fillG g 1 n := by simpa using fillG_splice (g := g) (m := 0) (c := 1) (n := n) (by omega)
    have := hg2.out
    rw [e] at this
    exact this
  clear hg2 HB1 HOWN
  go_loopw [8] (fun i wr => ∃ m : Nat, 1 ≤ m ∧ m ≤ n ∧ i = .int .i64 m ∧ Hid (wr.heap[w.heap.size]? = some (.cells (fillG g m n).toArray tI (0, 0))) ∧ Below w.heap.size w wr) (fun i _ => n - (intOf i).toNat)
  case atStart => exact ⟨1, Nat.le_refl _, h1, rfl, hg3, HB2.out⟩
  case round =>
    obtain ⟨m, hm1, hmn, rfl, hgm, hb⟩ := hrel
    clear hg3 HB2
    have HB := Lib.hid hb
    clear hb
    by_cases hlt : m < n
    · have hlt' : (m : Int) < (n : Int) := by omega
      have hne : ¬ n = m := by omega
      have hm0 : (0 : Int) ≤ (m : Int) := by omega
      have hmle : (m : Int) ≤ (n : Int) := by omega
      have hcm : m + Nat.min m (n - m) ≤ n := by
        have : Nat.min m (n - m) ≤ n - m := Nat.min_le_right _ _
        omega
      have hc1 : 1 ≤ Nat.min m (n - m) := Nat.le_min.2 ⟨hm1, by omega⟩
      have HSP := Lib.hid (fillG_splice (g := g) hcm)
      have HSRC := Lib.hid (show ∀ (j : Nat) (u : Value), (List.replicate (Nat.min m (n - m)) (Value.int .i64 g))[j]? = some u → wr.cell? ((⟨w.heap.size, 0, none⟩ : Addr).add j) = some u from fun j u hj => by
        have hj1 := (List.getElem?_eq_some_iff.1 hj).1
        simp only [List.length_replicate] at hj1
        have hjm : j < m := by have : Nat.min m (n - m) ≤ m := Nat.min_le_left _ _; omega
        have hju : u = .int .i64 g := by
          obtain ⟨_, e⟩ := List.getElem?_eq_some_iff.1 hj
          simp at e
          exact e.symm
        subst hju
        rw [Addr.add_lit, Nat.zero_add, cell_of_row wr _ j _ tI (0, 0) hgm.out]
        simpa using fillG_get hjm)
      generalize hcc : Nat.min m (n - m) = cc at hcm hc1 HSP HSRC
      have HCC := Lib.hid hcc
      clear hcc
      have wcc : IntKind.i64.wrap ((m : Int) + (cc : Int)) = (m : Int) + (cc : Int) := IntWalk.i64_in _ (by omega)
      go_wp2_with fail
      go_region_held3 (fun _ => True) (exact trivial) ((refine step_copy_splice rfl (.tmp 41) (.tmp 44) 22 22 (by rfl) tI T_int.under size_int (some ⟨w.heap.size, m, none⟩) (some ⟨w.heap.size, 0, none⟩) (n - m) (n - m) m n (by rfl) (by rfl) w.heap.size m (fillG g m n) tI hgm.out (List.replicate cc (.int .i64 g)) (by rw [List.length_replicate]; exact HCC.out.symm) (fun _ => ⟨rfl, _, rfl, HSRC.out⟩) (by rw [List.length_replicate, fillG_len hmn]; exact hcm) (by intro v hv; obtain ⟨_, rfl⟩ := List.mem_replicate.1 hv; rfl) w.heap.size w HB.out.drew (Nat.le_refl _) ?_; intro w4 hg4 hb4))
      have HG4 : Hid (w4.heap[w.heap.size]? = some (.cells (fillG g (m + cc) n).toArray tI (0, 0))) := by
        have := hg4.out
        rw [HSP.out] at this
        exact this
      have HB4 := Lib.hid hb4
      clear hg4 hb4
      go_wp2_with fail
      go_roundw
      case rel => exact ⟨m + cc, by omega, hcm, by go_num, HG4, HB4.out⟩
      case measure => simp [intOf]; omega
    · have : m = n := by omega
      subst this
      go_wp2_with fail
      go_ret
      have e : fillG g m m = ints (List.replicate m g) := by simp [fillG, ints]
      have hh := hgm.out
      rw [e] at hh
      refine ⟨_, rfl, ⟨Own.of_whole hh (by simp [ints]) (Nat.le_refl _) (by simp only [maxLen]; omega), fun z hz => ?_⟩, HB.out⟩
      obtain ⟨_, rfl⟩ := List.mem_replicate.1 hz
      exact H64.out
end Go.Proofs.Ytaielpgijggjgaa
