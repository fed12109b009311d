/- Walks: the nodes of a tableau, of the program and of the reference; equality of tableaus. -/
import Derived.Test.YtgbfifcbbfhpmaaIc1
import Derived.Test.YtgbfifcbbfhpmaaScale
import Derived.Test.YtgbfifcbbfhpmaaCol4
set_option maxRecDepth 100000
set_option linter.unusedVariables false
set_option linter.unusedSimpArgs false
namespace Go.Proofs.Ytgbfifcbbfhpmaa
open Go.RowKit

def nodeOf (r : List Int) : Int := sumF id r % 10007
def nodesOf (A : List (List Int)) : List Int := A.map nodeOf
theorem nodesOf_nums (A : List (List Int)) : Nums (nodesOf A) := by
  intro z hz
  obtain ⟨r, _, rfl⟩ := List.mem_map.1 hz
  unfold nodeOf
  omega
theorem nodesOf_len (A : List (List Int)) : (nodesOf A).length = A.length := by simp [nodesOf]
theorem nodesOf_take {A : List (List Int)} {j : Nat} {r : List Int} (h : A[j]? = some r) : nodesOf (A.take (j + 1)) = nodesOf (A.take j) ++ [nodeOf r] := by
  unfold nodesOf
  rw [List.take_add_one, h]; simp
theorem sumF_id_bd {r : List Int} (h : Nums r) : 0 ≤ sumF id r ∧ sumF id r ≤ r.length * 10006 := sumF_bd id 10006 r (fun x hx => h x hx)

set_option maxHeartbeats 2000000 in
theorem im_nodes (w : World) (v : Value) (A : List (List Int)) (Bs : List Int) (ha : TabArg w v A Bs) (hT : NumTab A Bs) :
    Calls Try.prog 69 #[v] w fun e w' => ∃ r, e = .returned r ∧ OwnInts w' w.heap.size tI r (nodesOf A) ∧ Below w.heap.size w w' := by
  obtain ⟨va, vb, rfl, hA, hB⟩ := ha
  obtain ⟨A1, c1, rfl, l1, l2, h3⟩ := hA.open_
  obtain ⟨A2, c2, rfl, -, -, -⟩ := hB.open_
  have H3 := Lib.hid h3
  have hal := hT.la
  have HT := Lib.hid hT
  have OL := Lib.hid ((own_lit (w.alloc (.cells #[.slice A1 A.length c1, .slice A2 Bs.length c2] 27)) tI [] (by simp [maxLen])).mono (B' := w.heap.size) (by simp))
  have B0 := Lib.hid (below2 w (.cells #[.slice A1 A.length c1, .slice A2 Bs.length c2] 27) (.cells #[] tI))
  clear hA hB h3 hT
  go_enter Try.func69, Try.ntmps69
  go_wp2_with fail
  go_loopw [3, 13] (fun o i wr => ∃ j : Nat, j ≤ A.length ∧ i = .int .i64 (j : Int) ∧ Own wr w.heap.size tI o (ints (nodesOf (A.take j))) ∧ Below w.heap.size w wr) (fun _ i _ => A.length - (intOf i).toNat)
  case atStart => exact ⟨0, Nat.zero_le _, rfl, by simpa [nodesOf, ints] using OL.out, B0.out⟩
  case round =>
    obtain ⟨j, hj, rfl, hown, hb⟩ := hrel
    clear OL
    have HO := Lib.hid hown
    have HB := Lib.hid hb
    clear hown hb
    by_cases hlt : j < A.length
    · obtain ⟨ad, u, zs, rfl, hz, hu, hc0⟩ := H3.out j hlt
      have hc : wr.cell? (ad.add j) = some u := by
        rw [HB.out.cell (by rw [block_add]; have := World.block_lt_of_cell? w _ hc0; rwa [block_add] at this)]; exact hc0
      obtain ⟨A5, c5, rfl, p1, p2, hu3⟩ := (hu.below HB.out).open_
      have HU := Lib.hid hu3
      have HZN := Lib.hid (HT.out.rows zs (List.mem_of_getElem? hz)).1
      have hzl := (HT.out.rows zs (List.mem_of_getElem? hz)).2
      have HS := Lib.hid (nodesOf_take hz)
      clear hz hu hc0 hu3
      go_wp2_with fail
      go_loopw [6, 19] (fun s k wi => ∃ m : Nat, m ≤ zs.length ∧ k = .int .i64 m ∧ s = .int .i64 (sumF id (zs.take m)) ∧ wi = wr) (fun _ k _ => zs.length - (intOf k).toNat)
      case atStart => exact ⟨0, Nat.zero_le _, rfl, rfl, rfl⟩
      case round =>
        obtain ⟨m, hm, rfl, rfl, rfl⟩ := hrel
        by_cases hlt2 : m < zs.length
        · obtain ⟨ad5, x, rfl, hx, -, hcx⟩ := HU.out m hlt2
          have hxn := HZN.out x (List.mem_of_getElem? hx)
          have HX := Lib.hid (sumF_take id hx)
          have hsb := sumF_id_bd (r := zs.take m) (fun z hz => HZN.out z (List.mem_of_mem_take hz))
          have hsl : ((zs.take m).length : Int) ≤ 1000 := by rw [List.length_take]; omega
          clear hx
          generalize (zs.take m).length = q at hsb hsl
          generalize sumF id (zs.take m) = s at hsb HX
          go_wp2_with fail
          go_roundw
          case rel => exact ⟨m + 1, by omega, by go_num, by rw [HX.out]; rfl, trivial⟩
          case measure => simp [intOf]; omega
        · have : m = zs.length := by omega
          subst this
          rw [List.take_length]
          have hsb := sumF_id_bd HZN.out
          have HND := Lib.hid (show sumF id zs % 10007 = nodeOf zs from rfl)
          generalize sumF id zs = s at hsb HND
          have hsl : (zs.length : Int) ≤ 1000 := by omega
          go_wp2_with (first
            | (go_at_call 109; refine (i_num _ _ (by omega) (by omega)).mono ?_; rintro e w' ⟨rfl, rfl⟩)
            | (at_builtin; refine wpList_app1 T_int HO.out (by rw [ints_len, nodesOf_len, List.length_take]; omega) HB.out.size (by rfl) rfl (by rfl) (by rfl) (by rfl) ?_; intro v1 w1 hown1 hgr1))
          go_roundw
          case rel =>
            refine ⟨j + 1, by omega, by go_num, ?_, hgr1.below HB.out HB.out.size HO.out.ge⟩
            rw [HS.out, ← HND.out]
            simpa [ints] using hown1
          case measure => simp [intOf]; omega
    · have : j = A.length := by omega
      subst this
      rw [List.take_length] at HO
      go_wp2_with fail
      go_ret
      exact ⟨_, rfl, ⟨HO.out, nums_in (nodesOf_nums _)⟩, HB.out⟩

set_option maxHeartbeats 1000000 in
theorem s_l09Ones (w : World) (n : Nat) (hn : n ≤ 1000) :
    Calls Try.prog 67 #[.int .i64 (n : Int)] w fun e w' => ∃ r, e = .returned r ∧ OwnInts w' w.heap.size tI r (List.replicate n 1) ∧ Below w.heap.size w w' := by
  have OL := Lib.hid (own_lit w tI [] (by simp [maxLen]))
  go_enter Try.func67, Try.ntmps67
  go_wp2_with fail
  go_loopw [3, 0] (fun o i wr => ∃ j : Nat, j ≤ n ∧ i = .int .i64 ((n : Int) - (j : Int)) ∧ Own wr w.heap.size tI o (ints (List.replicate j 1)) ∧ Below w.heap.size w wr) (fun _ i _ => (intOf i).toNat)
  case atStart => exact ⟨0, Nat.zero_le _, by simp, by simpa [ints] using OL.out, below1 _ _⟩
  case round =>
    obtain ⟨j, hj, rfl, hown, hb⟩ := hrel
    clear OL
    have HO := Lib.hid hown
    have HB := Lib.hid hb
    clear hown hb
    by_cases hlt : j < n
    · have hge : 0 < (n : Int) - (j : Int) := by omega
      have HR := Lib.hid (show (List.replicate (j + 1) (1 : Int)) = List.replicate j 1 ++ [1] from List.replicate_succ')
      go_wp2_with (at_builtin; refine wpList_app1 T_int HO.out (by rw [ints_len, List.length_replicate]; omega) HB.out.size (by rfl) rfl (by rfl) (by rfl) (by rfl) ?_; intro v1 w1 hown1 hgr1)
      go_roundw
      case rel =>
        refine ⟨j + 1, by omega, by congr 1; omega, ?_, hgr1.below HB.out HB.out.size HO.out.ge⟩
        rw [HR.out]
        simpa [ints] using hown1
      case measure => simp [intOf]; omega
    · have : j = n := by omega
      subst this
      have hneg : ¬ (0 : Int) < (j : Int) - (j : Int) := by omega
      go_wp2_with fail
      go_ret
      exact ⟨_, rfl, ⟨HO.out, fun z hz => by have := (List.mem_replicate.1 hz).2; subst this; unfold In64; omega⟩, HB.out⟩

set_option maxHeartbeats 1000000 in
theorem s_l01DotOnes (w : World) (v vo : Value) (zs : List Int) (n : Nat) (ha : Ints w v zs) (ho : Ints w vo (List.replicate n 1)) (hN : Nums zs) (hl : zs.length ≤ n) (hn : n ≤ 1000) :
    Calls Try.prog 118 #[v, vo] w fun e w' => e = .returned (.int .i64 (nodeOf zs)) ∧ ∃ n, w' = w.drewN n := by
  obtain ⟨A, c, rfl, l1, l2, h3⟩ := ha.open_
  obtain ⟨A', c', rfl, l1', l2', g3⟩ := ho.open_
  rw [List.length_replicate] at l1' g3 ⊢
  have H3 := Lib.hid h3
  have G3 := Lib.hid g3
  have HN := Lib.hid hN
  clear ha ho h3 g3 hN
  go_enter Try.func118, Try.ntmps118
  go_wp2_with fail
  go_loopw [5, 6] (fun s i wr => ∃ m q : Nat, m ≤ zs.length ∧ i = .int .i64 m ∧ s = .int .i64 (nodeOf (zs.take m)) ∧ wr = w.drewN q) (fun _ i _ => zs.length - (intOf i).toNat)
  case atStart => exact ⟨0, 0, Nat.zero_le _, rfl, rfl, rfl⟩
  case round =>
    obtain ⟨m, q, hm, rfl, rfl, rfl⟩ := hrel
    by_cases hlt : m < zs.length
    · obtain ⟨ad, x, rfl, hx, -, hcx⟩ := H3.out m hlt
      obtain ⟨ad', y, rfl, hy, -, hcy⟩ := G3.out m (by omega)
      have hy1 : y = 1 := by
        rw [List.getElem?_replicate, if_pos (by omega)] at hy
        simpa using hy.symm
      subst hy1
      have hxn := HN.out x (List.mem_of_getElem? hx)
      have HX := Lib.hid (show nodeOf (zs.take (m + 1)) = (nodeOf (zs.take m) + x * 1 % 10007) % 10007 by unfold nodeOf; rw [sumF_take id hx]; simp only [id]; omega)
      have hnb : 0 ≤ nodeOf (zs.take m) ∧ nodeOf (zs.take m) ≤ 10006 := by unfold nodeOf; omega
      have hmi : (m : Int) < (zs.length : Int) := by omega
      have hmn : (m : Int) < (n : Int) := by omega
      have hmn' : m < n := by omega
      clear hx hy
      generalize nodeOf (zs.take m) = s at hnb HX
      go_wp2_with fail
      go_quiet ((first | (go_at_call 112; exact quiet_same (s_l01Mul _ _ _ (by omega) (by omega) (by omega) (by omega))) | (go_at_call 133; exact quiet_same (s_l01Add _ _ _ (by omega) (by omega) (by omega) (by omega)))))
      go_wp2_with fail
      go_roundw
      case rel =>
        refine ⟨m + 1, _, by omega, by go_num, ?_, rfl⟩
        rw [HX.out]
        congr 1
        omega
      case measure => simp [intOf]; omega
    · have : m = zs.length := by omega
      subst this
      rw [List.take_length]
      go_wp2_with fail
      go_ret
      exact ⟨rfl, _, rfl⟩

set_option maxHeartbeats 1000000 in
theorem s_l09TimesOnes (w : World) (v vo : Value) (A : List (List Int)) (n : Nat) (ha : Rows w v A) (ho : Ints w vo (List.replicate n 1)) (hN : ∀ zs ∈ A, Nums zs ∧ zs.length ≤ n) (hal : A.length ≤ 1000) (hn : n ≤ 1000) :
    Calls Try.prog 66 #[v, vo] w fun e w' => ∃ r, e = .returned r ∧ OwnInts w' w.heap.size tI r (nodesOf A) ∧ Below w.heap.size w w' := by
  obtain ⟨A1, c1, rfl, l1, l2, h3⟩ := ha.open_
  obtain ⟨A', c', rfl, l1', l2', -⟩ := ho.open_
  rw [List.length_replicate] at l1' ho ⊢
  have H3 := Lib.hid h3
  have HP := Lib.hid ho
  have HN := Lib.hid hN
  clear ha ho h3 hN
  have OL := Lib.hid (own_lit w tI [] (by simp [maxLen]))
  go_enter Try.func66, Try.ntmps66
  go_wp2_with fail
  go_loopw [5, 6] (fun o i wr => ∃ j : Nat, j ≤ A.length ∧ i = .int .i64 j ∧ Own wr w.heap.size tI o (ints (nodesOf (A.take j))) ∧ Below w.heap.size w wr) (fun _ i _ => A.length - (intOf i).toNat)
  case atStart => exact ⟨0, Nat.zero_le _, rfl, by simpa [nodesOf, ints] using OL.out, below1 _ _⟩
  case round =>
    obtain ⟨j, hj, rfl, hown, hb⟩ := hrel
    clear OL
    have HO := Lib.hid hown
    have HB := Lib.hid hb
    clear hown hb
    by_cases hlt : j < A.length
    · obtain ⟨ad, u, zs, rfl, hz, hu, hc0⟩ := H3.out j hlt
      have hc : wr.cell? (ad.add j) = some u := by
        rw [HB.out.cell (by rw [block_add]; have := World.block_lt_of_cell? w _ hc0; rwa [block_add] at this)]; exact hc0
      have HU := Lib.hid (hu.below HB.out)
      have HQ := Lib.hid (HP.out.below HB.out)
      have HZN := Lib.hid (HN.out zs (List.mem_of_getElem? hz))
      have HS := Lib.hid (nodesOf_take hz)
      have hji : (j : Int) < (A.length : Int) := by omega
      clear hz hu hc0
      go_wp2_with (first
        | (go_at_call 118; refine (s_l01DotOnes _ _ _ zs n (by exact HU.out) (by exact HQ.out) HZN.out.1 HZN.out.2 hn).mono ?_; rintro e w5 ⟨rfl, n5, rfl⟩)
        | (at_builtin; refine wpList_app1 T_int (show Own (wr.drewN n5) w.heap.size tI _ (ints (nodesOf (A.take j))) from HO.out) (by rw [ints_len, nodesOf_len, List.length_take]; omega) HB.out.size (by rfl) rfl (by rfl) (by rfl) (by rfl) ?_; intro v1 w1 hown1 hgr1))
      go_roundw
      case rel =>
        refine ⟨j + 1, by omega, by go_num, ?_, hgr1.below (below_drewN HB.out _) HB.out.size HO.out.ge⟩
        rw [HS.out]
        simpa [ints] using hown1
      case measure => simp [intOf]; omega
    · have : j = A.length := by omega
      subst this
      rw [List.take_length] at HO
      go_wp2_with fail
      go_ret
      exact ⟨_, rfl, ⟨HO.out, nums_in (nodesOf_nums _)⟩, HB.out⟩
end Go.Proofs.Ytgbfifcbbfhpmaa
