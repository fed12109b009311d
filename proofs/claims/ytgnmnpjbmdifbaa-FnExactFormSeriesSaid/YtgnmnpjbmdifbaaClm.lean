/- Walks: slices.Clone at numbers; the columns of both. -/
import Derived.Test.YtgnmnpjbmdifbaaLR
import Derived.Test.YtgnmnpjbmdifbaaL
import Derived.WalkSpells
import Derived.Deep.RegionLaw
set_option maxRecDepth 100000
set_option linter.unusedVariables false
set_option linter.unusedSimpArgs false
namespace Go.Proofs.Ytgnmnpjbmdifbaa
open Go.RowKit

theorem ints_oneV (zs : List Int) : ∀ u ∈ ints zs, u.oneCell' = true := by
  intro u hu
  obtain ⟨z, _, rfl⟩ := List.mem_map.1 hu
  rfl

set_option maxHeartbeats 1000000 in
theorem lib_Clone (w : World) (v : Value) (zs : List Int) (ha : Ints w v zs) (hn : zs.length ≤ 4294967296) :
    Calls Try.prog 187 #[v] w fun e w' => ∃ r, e = .returned r ∧ OwnInts w' w.heap.size tI r zs ∧ Below w.heap.size w w' := by
  obtain ⟨A, c, rfl, l1, l2, h3⟩ := ha.open_
  have HA := Lib.hid ha
  clear h3 ha
  have OL := Lib.hid (own_lit w tI [] (by simp [maxLen]))
  have B1 := Lib.hid (below1 w (.cells #[] tI))
  have en := fun (W : World) (a : Option Addr) (n c : Nat) => Lib.run_eql_slice_nil (P := Try.prog) W 23 2 a n c 0 0 Try.underlying23
  go_enter Try.func187, Try.ntmps187
  cases A with
  | none =>
    have HZ := Lib.hid (show zs = [] by
      obtain ⟨A, c', hv, -, -, h3⟩ := HA.out.open_
      simp only [Value.slice.injEq] at hv
      obtain ⟨rfl, -, -⟩ := hv
      cases zs with
      | nil => rfl
      | cons z r => obtain ⟨ad, _, hA, _⟩ := h3 0 (by simp); cases hA)
    go_wp2_with fail
    go_ret
    refine ⟨_, rfl, ?_, Below.refl _ _⟩
    rw [HZ.out]
    exact OwnInts.nil _ _ _
  | some ad =>
    go_wp2_with (at_builtin; refine wpList_appN T_int OL.out (HA.out.below B1.out).1 (by rw [ints_len]; simp; omega) B1.out.size (ints_oneV _) rfl (by rfl) (by rfl) (by rfl) ?_; intro v1 w2 hown1 hgr1)
    go_ret
    exact ⟨_, rfl, ⟨by simpa using hown1, HA.out.2⟩, hgr1.below B1.out (by simp) OL.out.ge⟩

set_option maxHeartbeats 1000000 in
theorem i_column (w : World) (v : Value) (xss : List (List Int)) (k : Nat) (ha : Rows w v xss) (hk : ∀ zs ∈ xss, k < zs.length) (hn : xss.length ≤ 1000) :
    Calls Try.prog 127 #[v, .int .i64 (k : Int)] w fun e w' => ∃ r, e = .returned r ∧ OwnInts w' w.heap.size tI r (xss.map fun zs => zs.getD k 0) ∧ Below w.heap.size w w' := by
  obtain ⟨A, c, rfl, l1, l2, h3⟩ := ha.open_
  have H3 := Lib.hid h3
  have HK := Lib.hid hk
  clear h3 ha hk
  have OL := Lib.hid (own_lit w tI [] (by simp [maxLen]))
  go_enter Try.func127, Try.ntmps127
  go_wp2_with fail
  go_loopw [5, 11] (fun o i wr => ∃ j : Nat, j ≤ xss.length ∧ i = .int .i64 j ∧ OwnInts wr w.heap.size tI o ((xss.take j).map fun zs => zs.getD k 0) ∧ Below w.heap.size w wr) (fun _ i _ => xss.length - (intOf i).toNat)
  case atStart => exact ⟨0, Nat.zero_le _, rfl, ⟨by simpa [ints] using OL.out, fun z hz => by simp at hz⟩, below1 _ _⟩
  case round =>
    obtain ⟨j, hj, rfl, hown, hb⟩ := hrel
    clear OL
    have HO := Lib.hid hown
    have HB := Lib.hid hb
    clear hown hb
    by_cases hlt : j < xss.length
    · obtain ⟨ad, u, zs, rfl, hz, hu, hc0⟩ := H3.out j hlt
      have hkz := HK.out zs (List.mem_of_getElem? hz)
      obtain ⟨A5, c5, rfl, p1, p2, hu3⟩ := hu.open_
      obtain ⟨ad5, x, rfl, hx, hx64, hcx0⟩ := hu3 k hkz
      have hc : wr.cell? (ad.add j) = some (.slice (some ad5) zs.length c5) := by
        rw [HB.out.cell (by rw [block_add]; have := World.block_lt_of_cell? w _ hc0; rwa [block_add] at this)]; exact hc0
      have hcx : wr.cell? (ad5.add k) = some (.int .i64 x) := by
        rw [HB.out.cell (by rw [block_add]; have := World.block_lt_of_cell? w _ hcx0; rwa [block_add] at this)]; exact hcx0
      have HS := Lib.hid (show ((xss.take (j + 1)).map fun zs => zs.getD k 0) = ((xss.take j).map fun zs => zs.getD k 0) ++ [x] by
        rw [List.take_add_one, hz]; simp [List.getD, hx])
      have hki : (k : Int) < (zs.length : Int) := by omega
      have HX := Lib.hid hx64
      clear hz hu hc0 hu3 hx hx64 hcx0
      go_wp2_with (at_builtin; refine wpList_app1 T_int HO.out.1 (by rw [ints_len, List.length_map, List.length_take]; omega) HB.out.size (by rfl) rfl (by rfl) (by rfl) (by rfl) ?_; intro v1 w1 hown1 hgr1)
      go_roundw
      case rel =>
        refine ⟨j + 1, by omega, by go_num, ⟨?_, ?_⟩, hgr1.below HB.out HB.out.size HO.out.1.ge⟩
        · rw [HS.out]
          simpa [ints] using hown1
        · rw [HS.out]
          intro z hz
          rcases List.mem_append.1 hz with hz | hz
          · exact HO.out.2 z hz
          · simp at hz; subst hz; exact HX.out
      case measure => simp [intOf]; omega
    · have : j = xss.length := by omega
      subst this
      rw [List.take_length] at HO
      go_wp2_with fail
      go_ret
      exact ⟨_, rfl, HO.out, HB.out⟩

set_option maxHeartbeats 1000000 in
theorem s_l01Column (w : World) (v : Value) (xss : List (List Int)) (k : Nat) (ha : Rows w v xss) (hk : ∀ zs ∈ xss, k < zs.length) (hn : xss.length ≤ 1000) :
    Calls Try.prog 122 #[v, .int .i64 (k : Int)] w fun e w' => ∃ r, e = .returned r ∧ OwnInts w' w.heap.size tI r (xss.map fun zs => zs.getD k 0) ∧ Below w.heap.size w w' := by
  obtain ⟨A, c, rfl, l1, l2, h3⟩ := ha.open_
  have H3 := Lib.hid h3
  have HK := Lib.hid hk
  clear h3 ha hk
  have OL := Lib.hid (own_lit w tI [] (by simp [maxLen]))
  go_enter Try.func122, Try.ntmps122
  go_wp2_with fail
  go_loopw [5, 6] (fun o i wr => ∃ j : Nat, j ≤ xss.length ∧ i = .int .i64 j ∧ OwnInts wr w.heap.size tI o ((xss.take j).map fun zs => zs.getD k 0) ∧ Below w.heap.size w wr) (fun _ i _ => xss.length - (intOf i).toNat)
  case atStart => exact ⟨0, Nat.zero_le _, rfl, ⟨by simpa [ints] using OL.out, fun z hz => by simp at hz⟩, below1 _ _⟩
  case round =>
    obtain ⟨j, hj, rfl, hown, hb⟩ := hrel
    clear OL
    have HO := Lib.hid hown
    have HB := Lib.hid hb
    clear hown hb
    by_cases hlt : j < xss.length
    · obtain ⟨ad, u, zs, rfl, hz, hu, hc0⟩ := H3.out j hlt
      have hkz := HK.out zs (List.mem_of_getElem? hz)
      obtain ⟨A5, c5, rfl, p1, p2, hu3⟩ := hu.open_
      obtain ⟨ad5, x, rfl, hx, hx64, hcx0⟩ := hu3 k hkz
      have hc : wr.cell? (ad.add j) = some (.slice (some ad5) zs.length c5) := by
        rw [HB.out.cell (by rw [block_add]; have := World.block_lt_of_cell? w _ hc0; rwa [block_add] at this)]; exact hc0
      have hcx : wr.cell? (ad5.add k) = some (.int .i64 x) := by
        rw [HB.out.cell (by rw [block_add]; have := World.block_lt_of_cell? w _ hcx0; rwa [block_add] at this)]; exact hcx0
      have HS := Lib.hid (show ((xss.take (j + 1)).map fun zs => zs.getD k 0) = ((xss.take j).map fun zs => zs.getD k 0) ++ [x] by
        rw [List.take_add_one, hz]; simp [List.getD, hx])
      have hki : (k : Int) < (zs.length : Int) := by omega
      have HX := Lib.hid hx64
      clear hz hu hc0 hu3 hx hx64 hcx0
      go_wp2_with (at_builtin; refine wpList_app1 T_int HO.out.1 (by rw [ints_len, List.length_map, List.length_take]; omega) HB.out.size (by rfl) rfl (by rfl) (by rfl) (by rfl) ?_; intro v1 w1 hown1 hgr1)
      go_roundw
      case rel =>
        refine ⟨j + 1, by omega, by go_num, ⟨?_, ?_⟩, hgr1.below HB.out HB.out.size HO.out.1.ge⟩
        · rw [HS.out]
          simpa [ints] using hown1
        · rw [HS.out]
          intro z hz
          rcases List.mem_append.1 hz with hz | hz
          · exact HO.out.2 z hz
          · simp at hz; subst hz; exact HX.out
      case measure => simp [intOf]; omega
    · have : j = xss.length := by omega
      subst this
      rw [List.take_length] at HO
      go_wp2_with fail
      go_ret
      exact ⟨_, rfl, HO.out, HB.out⟩
end Go.Proofs.Ytgnmnpjbmdifbaa
