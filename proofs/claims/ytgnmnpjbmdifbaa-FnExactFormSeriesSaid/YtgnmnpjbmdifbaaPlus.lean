/- Walks: plus of the program, l02Add of the reference. -/
import Derived.Test.YtgnmnpjbmdifbaaScaleP
set_option linter.unusedVariables false
set_option linter.unusedSimpArgs false
namespace Go.Proofs.Ytgnmnpjbmdifbaa
open Go.RowKit

/-- the first j places of a + k b -/
def addTo (k : Int) (a b : List Int) (j : Nat) : List Int := (List.range j).map fun i => (a.getD i 0 + k * b.getD i 0) % 10007
def addk (k : Int) (a b : List Int) : List Int := addTo k a b a.length
theorem addTo_len (k : Int) (a b : List Int) (j : Nat) : (addTo k a b j).length = j := by simp [addTo]
theorem addTo_succ {k : Int} {a b : List Int} {j : Nat} {x y : Int} (hx : a[j]? = some x) (hy : b[j]? = some y) : addTo k a b (j + 1) = addTo k a b j ++ [(x + k * y) % 10007] := by
  simp [addTo, List.range_succ, List.getD, hx, hy]
theorem addTo_nums (k : Int) (a b : List Int) (j : Nat) : Nums (addTo k a b j) := by
  intro z hz
  obtain ⟨i, _, rfl⟩ := List.mem_map.1 hz
  omega
theorem nums_in {zs : List Int} (h : Nums zs) : ∀ z ∈ zs, In64 z := by
  intro z hz
  have := h z hz
  unfold In64
  omega

set_option maxRecDepth 100000 in
set_option maxHeartbeats 1000000 in
theorem i_plus (w : World) (v v' : Value) (a b : List Int) (k : Int) (ha : Ints w v a) (hb : Ints w v' b) (hA : Nums a) (hB : Nums b) (hl : a.length ≤ b.length) (hn : a.length ≤ 4294967296) (h0 : -4000000000000000000 ≤ k) (h1 : k ≤ 4000000000000000000) :
    Calls Try.prog 73 #[v, v', .int .i64 k] w fun e w' => ∃ r, e = .returned r ∧ OwnInts w' w.heap.size tI r (addk (k % 10007) a b) ∧ Below w.heap.size w w' := by
  obtain ⟨A, c, rfl, l1, l2, h3⟩ := ha.open_
  obtain ⟨A', c', rfl, l1', l2', h3'⟩ := hb.open_
  have H3 := Lib.hid h3
  have G3 := Lib.hid h3'
  have HN := Lib.hid hA
  have HM := Lib.hid hB
  clear ha hb h3 h3' hA hB
  have OL := Lib.hid (own_lit w tI [] (by simp [maxLen]))
  go_enter Try.func73, Try.ntmps73
  go_wp2_with fail
  go_loopw [7, 13] (fun o i wr => ∃ j : Nat, j ≤ a.length ∧ i = .int .i64 j ∧ Own wr w.heap.size tI o (ints (addTo (k % 10007) a b j)) ∧ Below w.heap.size w wr) (fun _ i _ => a.length - (intOf i).toNat)
  case atStart => exact ⟨0, Nat.zero_le _, rfl, by simpa [addTo, ints] using OL.out, (Below.refl _ _).alloc (Nat.le_refl _) _⟩
  case round =>
    obtain ⟨j, hj, rfl, hown, hb⟩ := hrel
    clear OL
    have HO := Lib.hid hown
    have HB := Lib.hid hb
    clear hown hb
    by_cases hlt : j < a.length
    · obtain ⟨ad, x, rfl, hx, -, hcx⟩ := H3.out j hlt
      obtain ⟨ad', y, rfl, hy, -, hcy⟩ := G3.out j (by omega)
      have hc : wr.cell? (ad.add j) = some (.int .i64 x) := by
        rw [HB.out.cell (by rw [block_add]; have := World.block_lt_of_cell? w _ hcx; rwa [block_add] at this)]; exact hcx
      have hc' : wr.cell? (ad'.add j) = some (.int .i64 y) := by
        rw [HB.out.cell (by rw [block_add]; have := World.block_lt_of_cell? w _ hcy; rwa [block_add] at this)]; exact hcy
      have hxn := HN.out x (List.mem_of_getElem? hx)
      have hyn := HM.out y (List.mem_of_getElem? hy)
      have HS := Lib.hid (addTo_succ (k := k % 10007) hx hy)
      have hm0 : 0 ≤ k % 10007 ∧ k % 10007 ≤ 10006 := by omega
      obtain ⟨p1, p2⟩ := mul_bd 10006 10006 hm0.1 hm0.2 hyn.1 hyn.2
      have hjb : (j : Int) < (b.length : Int) := by omega
      have hjb' : j < b.length := by omega
      clear hx hy hcx hcy
      go_wp2_with fail
      have wA : IntKind.i64.wrap (k % 10007 * y) = k % 10007 * y := IntWalk.i64_in _ (by omega)
      have wB : IntKind.i64.wrap (x + k % 10007 * y) = x + k % 10007 * y := IntWalk.i64_in _ (by omega)
      go_region_law (first | (refine step_app1 T_int (B := w.heap.size) (W := wr.drew) (by exact HO.out) (by rw [ints_len, addTo_len]; omega) (by exact HB.out.size) (by rfl) rfl (by rfl) (by rfl) (by rfl) ?_; intro v1 w1 hown1 hgr1) | (go_simp; go_at_call 57; refine (i_num _ _ (by omega) (by omega)).mono ?_; rintro e w' ⟨rfl, rfl⟩))
      all_goals
        go_wp2_with fail
        go_roundw
        case rel =>
          refine ⟨j + 1, by omega, by go_num, ?_, hgr1.below HB.out.drew HB.out.size HO.out.ge⟩
          rw [HS.out]
          simpa [ints] using hown1
        case measure => simp [intOf]; omega
    · have : j = a.length := by omega
      subst this
      go_wp2_with fail
      go_ret
      exact ⟨_, rfl, ⟨HO.out, nums_in (addTo_nums _ _ _ _)⟩, HB.out⟩
set_option maxRecDepth 100000 in
set_option maxHeartbeats 1000000 in
theorem s_l02Add (w : World) (v v' : Value) (a b : List Int) (ha : Ints w v a) (hb : Ints w v' b) (hA : Nums a) (hB : Nums b) (hl : a.length ≤ b.length) (hn : a.length ≤ 4294967296) :
    Calls Try.prog 72 #[v, v'] w fun e w' => ∃ r, e = .returned r ∧ OwnInts w' w.heap.size tI r (addk 1 a b) ∧ Below w.heap.size w w' := by
  obtain ⟨A, c, rfl, l1, l2, h3⟩ := ha.open_
  obtain ⟨A', c', rfl, l1', l2', h3'⟩ := hb.open_
  have H3 := Lib.hid h3
  have G3 := Lib.hid h3'
  have HN := Lib.hid hA
  have HM := Lib.hid hB
  clear ha hb h3 h3' hA hB
  have OL := Lib.hid (own_lit w tI [] (by simp [maxLen]))
  go_enter Try.func72, Try.ntmps72
  go_wp2_with fail
  go_loopw [5, 6] (fun o i wr => ∃ j : Nat, j ≤ a.length ∧ i = .int .i64 j ∧ Own wr w.heap.size tI o (ints (addTo 1 a b j)) ∧ Below w.heap.size w wr) (fun _ i _ => a.length - (intOf i).toNat)
  case atStart => exact ⟨0, Nat.zero_le _, rfl, by simpa [addTo, ints] using OL.out, (Below.refl _ _).alloc (Nat.le_refl _) _⟩
  case round =>
    obtain ⟨j, hj, rfl, hown, hb⟩ := hrel
    clear OL
    have HO := Lib.hid hown
    have HB := Lib.hid hb
    clear hown hb
    by_cases hlt : j < a.length
    · obtain ⟨ad, x, rfl, hx, -, hcx⟩ := H3.out j hlt
      obtain ⟨ad', y, rfl, hy, -, hcy⟩ := G3.out j (by omega)
      have hc : wr.cell? (ad.add j) = some (.int .i64 x) := by
        rw [HB.out.cell (by rw [block_add]; have := World.block_lt_of_cell? w _ hcx; rwa [block_add] at this)]; exact hcx
      have hc' : wr.cell? (ad'.add j) = some (.int .i64 y) := by
        rw [HB.out.cell (by rw [block_add]; have := World.block_lt_of_cell? w _ hcy; rwa [block_add] at this)]; exact hcy
      have hxn := HN.out x (List.mem_of_getElem? hx)
      have hyn := HM.out y (List.mem_of_getElem? hy)
      have HS := Lib.hid (show addTo 1 a b (j + 1) = addTo 1 a b j ++ [(x + y) % 10007] by simpa using addTo_succ (k := 1) hx hy)
      have hjb : (j : Int) < (b.length : Int) := by omega
      have hjb' : j < b.length := by omega
      clear hx hy hcx hcy
      go_wp2_with fail
      go_region_law (first | (refine step_app1 T_int (B := w.heap.size) (W := wr.drew) (by exact HO.out) (by rw [ints_len, addTo_len]; omega) (by exact HB.out.size) (by rfl) rfl (by rfl) (by rfl) (by rfl) ?_; intro v1 w1 hown1 hgr1) | (go_simp; go_at_call 54; refine (s_l01Add _ _ _ (by omega) (by omega) (by omega) (by omega)).mono ?_; rintro e w' ⟨rfl, rfl⟩))
      all_goals
        go_wp2_with fail
        go_roundw
        case rel =>
          refine ⟨j + 1, by omega, by go_num, ?_, hgr1.below HB.out.drew HB.out.size HO.out.ge⟩
          rw [HS.out]
          simpa [ints] using hown1
        case measure => simp [intOf]; omega
    · have : j = a.length := by omega
      subst this
      go_wp2_with fail
      go_ret
      exact ⟨_, rfl, ⟨HO.out, nums_in (addTo_nums _ _ _ _)⟩, HB.out⟩
end Go.Proofs.Ytgnmnpjbmdifbaa
