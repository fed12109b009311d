/- Walks: cloning a list, the product of a polynomial and z - d, a column. -/
import Derived.Test.YtgbfifcbbfhpmaaCol2
import Derived.Test.YtgbfifcbbfhpmaaLR
set_option maxRecDepth 100000
set_option linter.unusedVariables false
set_option linter.unusedSimpArgs false
namespace Go.Proofs.Ytgbfifcbbfhpmaa
open Go.RowKit

theorem ints_one (zs : List Int) : ∀ u ∈ ints zs, u.oneCell' = true := by
  intro u hu
  obtain ⟨z, _, rfl⟩ := List.mem_map.1 hu
  rfl

set_option maxHeartbeats 1000000 in
theorem lib_Clone (w : World) (v : Value) (zs : List Int) (ha : Ints w v zs) (hn : zs.length ≤ 4294967296) :
    Calls Try.prog 147 #[v] w fun e w' => ∃ r, e = .returned r ∧ OwnInts w' w.heap.size tI r zs ∧ Below w.heap.size w w' := by
  obtain ⟨A, c, rfl, l1, l2, h3⟩ := ha.open_
  have HA := Lib.hid ha
  clear h3 ha
  have OL := Lib.hid (own_lit w tI [] (by simp [maxLen]))
  have B1 := Lib.hid (below1 w (.cells #[] tI))
  have en := fun (W : World) (a : Option Addr) (n c : Nat) => Lib.run_eql_slice_nil (P := Try.prog) W 23 2 a n c 0 0 Try.underlying23
  go_enter Try.func147, Try.ntmps147
  cases A with
  | none =>
    have HZ := Lib.hid (show zs = [] by
      obtain ⟨A, c', hv, -, -, h3⟩ := HA.out.open_
      simp only [Value.slice.injEq] at hv
      obtain ⟨rfl, -, -⟩ := hv
      cases zs with
      | nil => rfl
      | cons z r => obtain ⟨ad, _, hA, _⟩ := h3 0 (by simp); cases hA)
    go_wp2_with fail
    go_ret
    refine ⟨_, rfl, ?_, Below.refl _ _⟩
    rw [HZ.out]
    exact OwnInts.nil _ _ _
  | some ad =>
    go_wp2_with (at_builtin; refine wpList_appN T_int OL.out (HA.out.below B1.out).1 (by rw [ints_len]; simp; omega) B1.out.size (ints_one _) rfl (by rfl) (by rfl) (by rfl) ?_; intro v1 w2 hown1 hgr1)
    go_ret
    exact ⟨_, rfl, ⟨by simpa using hown1, HA.out.2⟩, hgr1.below B1.out (by simp) OL.out.ge⟩

set_option maxHeartbeats 2000000 in
theorem i_timesLinear (w : World) (v : Value) (p : List Int) (d : Int) (ha : Ints w v p) (hN : Nums p) (hn : p.length ≤ 1000) (h0 : 0 ≤ d) (h1 : d ≤ 10006) :
    Calls Try.prog 108 #[v, .int .i64 d] w fun e w' => ∃ r, e = .returned r ∧ OwnInts w' w.heap.size tI r (tl p d) ∧ Below w.heap.size w w' := by
  obtain ⟨A, c, rfl, l1, l2, h3⟩ := ha.open_
  have HA := Lib.hid ha
  have HN := Lib.hid hN
  clear h3 ha hN
  have OL := Lib.hid (own_lit w tI [.int .i64 0] (by simp [maxLen]))
  have B1 := Lib.hid (below1 w (.cells #[.int .i64 0] tI))
  go_enter Try.func108, Try.ntmps108
  go_wp2_with (first
    | (at_builtin; refine wpList_appN T_int OL.out (HA.out.below B1.out).1 (by rw [ints_len]; simp; omega) B1.out.size (ints_one _) rfl (by rfl) (by rfl) (by rfl) ?_; intro v1 w1 hown1 hgr1; have B2 := hgr1.below B1.out (by simp) OL.out.ge)
    | (go_at_call 147; refine (lib_Clone _ _ p (HA.out.below B2) (by omega)).mono ?_; rintro e w2 ⟨v2, rfl, ho2, hb2⟩)
    | (at_builtin; refine wpList_app1 T_int ho2.1 (by rw [ints_len]; omega) hb2.size (by rfl) rfl (by rfl) (by rfl) (by rfl) ?_; intro v3 w3 hown3 hgr3; have B3 := hgr3.below hb2 hb2.size ho2.1.ge)
    | (go_at_call 85; refine (i_plus _ _ _ (0 :: p) (p ++ [0]) (-d) (by refine ⟨(hown1.below B3).cells, ?_⟩; exact nums_in (by intro z hz; rcases List.mem_cons.1 hz with rfl | hz; omega; exact HN.out z hz)) (by refine ⟨by simpa [ints] using hown3.cells, ?_⟩; exact nums_in (by intro z hz; rcases List.mem_append.1 hz with hz | hz; exact HN.out z hz; simp at hz; omega)) (by intro z hz; rcases List.mem_cons.1 hz with rfl | hz; omega; exact HN.out z hz) (by intro z hz; rcases List.mem_append.1 hz with hz | hz; exact HN.out z hz; simp at hz; omega) (by simp) (by simp; omega) (by omega) (by omega)).mono ?_; rintro e w4 ⟨v4, rfl, ho4, hb4⟩))
  go_ret
  have B4 := B2.trans (B3.mono B2.size)
  exact ⟨_, rfl, ho4.mono B4.size, B4.trans (hb4.mono B4.size)⟩

set_option maxHeartbeats 1000000 in
theorem i_column (w : World) (v : Value) (xss : List (List Int)) (k : Nat) (ha : Rows w v xss) (hk : ∀ zs ∈ xss, k < zs.length) (hn : xss.length ≤ 1000) :
    Calls Try.prog 111 #[v, .int .i64 (k : Int)] w fun e w' => ∃ r, e = .returned r ∧ OwnInts w' w.heap.size tI r (xss.map fun zs => zs.getD k 0) ∧ Below w.heap.size w w' := by
  obtain ⟨A, c, rfl, l1, l2, h3⟩ := ha.open_
  have H3 := Lib.hid h3
  have HK := Lib.hid hk
  clear h3 ha hk
  have OL := Lib.hid (own_lit w tI [] (by simp [maxLen]))
  go_enter Try.func111, Try.ntmps111
  go_wp2_with fail
  go_loopw [5, 11] (fun o i wr => ∃ j : Nat, j ≤ xss.length ∧ i = .int .i64 j ∧ OwnInts wr w.heap.size tI o ((xss.take j).map fun zs => zs.getD k 0) ∧ Below w.heap.size w wr) (fun _ i _ => xss.length - (intOf i).toNat)
  case atStart => exact ⟨0, Nat.zero_le _, rfl, ⟨by simpa [ints] using OL.out, fun z hz => by simp at hz⟩, below1 _ _⟩
  case round =>
    obtain ⟨j, hj, rfl, hown, hb⟩ := hrel
    clear OL
    have HO := Lib.hid hown
    have HB := Lib.hid hb
    clear hown hb
    by_cases hlt : j < xss.length
    · obtain ⟨ad, u, zs, rfl, hz, hu, hc0⟩ := H3.out j hlt
      have hkz := HK.out zs (List.mem_of_getElem? hz)
      obtain ⟨A5, c5, rfl, p1, p2, hu3⟩ := hu.open_
      obtain ⟨ad5, x, rfl, hx, hx64, hcx0⟩ := hu3 k hkz
      have hc : wr.cell? (ad.add j) = some (.slice (some ad5) zs.length c5) := by
        rw [HB.out.cell (by rw [block_add]; have := World.block_lt_of_cell? w _ hc0; rwa [block_add] at this)]; exact hc0
      have hcx : wr.cell? (ad5.add k) = some (.int .i64 x) := by
        rw [HB.out.cell (by rw [block_add]; have := World.block_lt_of_cell? w _ hcx0; rwa [block_add] at this)]; exact hcx0
      have HS := Lib.hid (show ((xss.take (j + 1)).map fun zs => zs.getD k 0) = ((xss.take j).map fun zs => zs.getD k 0) ++ [x] by
        rw [List.take_add_one, hz]; simp [List.getD, hx])
      have hki : (k : Int) < (zs.length : Int) := by omega
      have HX := Lib.hid hx64
      clear hz hu hc0 hu3 hx hx64 hcx0
      go_wp2_with (at_builtin; refine wpList_app1 T_int HO.out.1 (by rw [ints_len, List.length_map, List.length_take]; omega) HB.out.size (by rfl) rfl (by rfl) (by rfl) (by rfl) ?_; intro v1 w1 hown1 hgr1)
      go_roundw
      case rel =>
        refine ⟨j + 1, by omega, by go_num, ⟨?_, ?_⟩, hgr1.below HB.out HB.out.size HO.out.1.ge⟩
        · rw [HS.out]
          simpa [ints] using hown1
        · rw [HS.out]
          intro z hz
          rcases List.mem_append.1 hz with hz | hz
          · exact HO.out.2 z hz
          · simp at hz; subst hz; exact HX.out
      case measure => simp [intOf]; omega
    · have : j = xss.length := by omega
      subst this
      rw [List.take_length] at HO
      go_wp2_with fail
      go_ret
      exact ⟨_, rfl, HO.out, HB.out⟩
end Go.Proofs.Ytgbfifcbbfhpmaa
