/- Walks: the product of a polynomial and z - c, and the polynomials of Lagrange, of the reference. | Walks: the nodes of a tableau, of the program and of the reference; equality of tableaus. | Plain: the branches of the trees of maps as the walks meet them, with their places; stage weights as lists. No walk. | Walks of the library's Grow, Concat at lists of numbers. | Walks of the library's Repeat at a list of one number. -/
import Derived.Test.YtnlaoainhlfemaaAs10
import Derived.Deep.RegionLaw
import Derived.Test.YtnlaoainhlfemaaAs5
import Derived.Test.YtnlaoainhlfemaaAs9
import Derived.Test.YtnlaoainhlfemaaRows
import Derived.Test.YtnlaoainhlfemaaAs2
import Derived.Test.YtnlaoainhlfemaaAs3
import Derived.Test.YtnlaoainhlfemaaAs1
import Derived.WalkLawsBesides
import Derived.Lib.AppendZeros
import Derived.Deep.RegionHeld3
import Derived.Laws.CopyOwn
set_option maxRecDepth 100000
set_option linter.unusedVariables false
set_option linter.unusedSimpArgs false
namespace Go.Proofs.Ytnlaoainhlfemaa
open Go.RowKit

theorem cons0_nums {p : List Int} (hN : Nums p) (k : Nat) : 0 ≤ (0 :: p).getD k 0 ∧ (0 :: p).getD k 0 ≤ 10006 := by
  cases k with
  | zero => simp
  | succ k =>
    by_cases h : k < p.length
    · simp only [List.getD, List.getElem?_cons_succ, List.getElem?_eq_getElem h, Option.getD_some]
      exact hN _ (List.getElem_mem h)
    · simp [List.getD, List.getElem?_eq_none (Nat.le_of_not_lt h)]

set_option maxHeartbeats 2000000 in
theorem s_l11Factor (w : World) (v : Value) (p : List Int) (d : Int) (ha : Ints w v p) (hN : Nums p) (hn : p.length ≤ 1000) (h0 : 0 ≤ d) (h1 : d ≤ 10006) :
    Calls Try.prog 192 #[v, .int .i64 d] w fun e w' => ∃ r, e = .returned r ∧ OwnInts w' w.heap.size tI r (tl p d) ∧ Below w.heap.size w w' := by
  obtain ⟨A, c, rfl, l1, l2, h3⟩ := ha.open_
  have H3 := Lib.hid h3
  have HN := Lib.hid hN
  clear h3 ha hN
  have hl1 : ((p.length : Int) + 1).toNat = p.length + 1 := by omega
  go_enter Try.func192, Try.ntmps192
  go_wp2_with (at_make; refine wpList_mk rfl _ _ _ rfl _ _ _ T_int (p.length + 1) _ (by rfl) (by rfl) (by rfl) (by omega) _ ?_; intro w1 hown hb hs1; have HOWN := Lib.hid hown; have HB1 := Lib.hid hb; clear hown hb)
  go_loopw [6] (fun i wr => ∃ j : Nat, j ≤ p.length ∧ i = .int .i64 j ∧ Own wr w.heap.size tI (.slice (some ⟨w.heap.size, 0, none⟩) (p.length + 1) (p.length + 1)) (ints (facTo p d j)) ∧ Below w.heap.size w wr) (fun i _ => p.length - (intOf i).toNat)
  case atStart => exact ⟨0, Nat.zero_le _, rfl, by rw [facTo_zero]; simpa [ints] using HOWN.out, HB1.out⟩
  case round =>
    obtain ⟨j, hj, rfl, hown, hb⟩ := hrel
    clear HOWN HB1
    have HB := Lib.hid hb
    clear hb
    by_cases hlt : j < p.length
    · obtain ⟨ad, x, rfl, hx, -, hc0⟩ := H3.out j hlt
      have hxn := HN.out x (List.mem_of_getElem? hx)
      have hc : wr.cell? (ad.add j) = some (.int .i64 x) := by
        rw [HB.out.cell (by rw [block_add]; have := World.block_lt_of_cell? w _ hc0; rwa [block_add] at this)]; exact hc0
      have had : ad.block < w.heap.size := by have := World.block_lt_of_cell? w _ hc0; rwa [block_add] at this
      have hyn := cons0_nums HN.out j
      have HFS := Lib.hid (facTo_succ (c := d) hx hxn)
      have e1 := ints_get (show (facTo p d j)[j + 1]? = some 0 by rw [facTo_get (by omega), if_neg (by omega), if_neg (by omega)])
      have e2 := ints_get (show (facTo p d j)[j]? = some ((0 :: p).getD j 0) by rw [facTo_get (by omega), if_neg (by omega), if_pos rfl])
      obtain ⟨u0, hu0, hcg, hfg, hg2, hg1, hown', hgr'⟩ := hown.storeAt (k := j + 1) (by simp [ints, facTo_len]; omega) (.int .i64 ((0 + x) % 10007))
      obtain rfl : Value.int .i64 0 = u0 := by rw [e1] at hu0; simpa using hu0
      obtain ⟨u1, hu1, hcj, hfj, -, -, hown2, hgr2⟩ := hown'.storeAt (k := j) (by simp [ints, facTo_len]; omega) (.int .i64 (((0 :: p).getD j 0 - d * x % 10007) % 10007))
      obtain rfl : Value.int .i64 ((0 :: p).getD j 0) = u1 := by rw [List.getElem?_set_ne (by omega), e2] at hu1; simpa using hu1
      obtain ⟨u2, hu2, hck3, hfk3, -, -, -, -⟩ := hown.storeAt (k := j) (by simp [ints, facTo_len]; omega) (.int .i64 0)
      obtain rfl : Value.int .i64 ((0 :: p).getD j 0) = u2 := by rw [e2] at hu2; simpa using hu2
      have HO := Lib.hid hown2
      have HB2 := Lib.hid ((HB.out.setCell (p := ⟨w.heap.size, j + 1, none⟩) (Nat.le_refl _) (.int .i64 ((0 + x) % 10007))).setCell (p := ⟨w.heap.size, j, none⟩) (Nat.le_refl _) (.int .i64 (((0 :: p).getD j 0 - d * x % 10007) % 10007)))
      have hcd : ∀ y, (wr.setCell ⟨w.heap.size, j + 1, none⟩ y).cell? (ad.add j) = some (.int .i64 x) := fun y => by
        rw [World.cell?_setCell_far _ _ _ _ (by rw [block_add]; simp; omega)]; exact hc
      have hcj2 : (wr.drew.setCell ⟨w.heap.size, j + 1, none⟩ (.int .i64 ((0 + x) % 10007))).cell? ⟨w.heap.size, j, none⟩ = some (.int .i64 ((0 :: p).getD j 0)) := hcj
      have hfj2 : (wr.drew.setCell ⟨w.heap.size, j + 1, none⟩ (.int .i64 ((0 + x) % 10007))).frozen? ⟨w.heap.size, j, none⟩ = false := hfj
      clear hown hown' hown2 hu0 hu1 hu2 e1 e2 hgr' hgr2 hcj hfj hx hc0 hg1 hg2
      obtain ⟨p1, p2⟩ := mul_bd 10006 10006 h0 h1 hxn.1 hxn.2
      have hji : (j : Int) < (p.length : Int) := by omega
      have hj2 : (j : Int) + 1 < (p.length : Int) + 1 := by omega
      have hj3 : (j : Int) < (p.length : Int) + 1 := by omega
      have hjt : ((j : Int) + 1).toNat = j + 1 := by omega
      have hj4 : j < p.length + 1 := by omega
      have hj0 : (0 : Int) ≤ (j : Int) + 1 := by omega
      have hw1 : IntKind.i64.wrap ((j : Int) + 1) = (j : Int) + 1 := IntWalk.i64_in _ (by omega)
      rw [Int.zero_add] at hcj2 hfj2 HO HB2 HFS
      generalize (0 :: p).getD j 0 = y at hck3 hcj2 HO HB2 HFS hyn
      rw [show (y - d * x % 10007) % 10007 = (y - d * x) % 10007 from by omega] at HO HB2 HFS
      go_wp2_with fail
      go_region_law (go_simp; go_at_call 140; refine (s_l01Add _ _ _ (by omega) (by omega) (by omega) (by omega)).mono ?_; rintro e w' ⟨rfl, rfl⟩)
      all_goals
        go_wp2_with fail
        go_region_law (first | (go_simp; go_at_call 147; refine (s_l01Mul _ _ _ (by omega) (by omega) (by omega) (by omega)).mono ?_; rintro e w' ⟨rfl, rfl⟩) | (go_simp; go_at_call 141; refine (s_l01Sub _ _ _ (by omega) (by omega) (by omega) (by omega)).mono ?_; rintro e w' ⟨rfl, rfl⟩))
        all_goals
          go_wp2_with fail
          go_roundw
          case rel =>
            refine ⟨j + 1, by omega, by go_num, ?_, HB2.out.drew.drew⟩
            rw [← HFS.out]
            have h := HO.out
            simp only [ints, List.map_set] at h ⊢
            exact h
          case measure => simp [intOf]; omega
    · have : j = p.length := by omega
      subst this
      rw [facTo_end HN.out] at hown
      have HO := Lib.hid hown
      clear hown
      go_wp2_with fail
      go_ret
      exact ⟨_, rfl, ⟨HO.out, nums_in (tl_nums _ _)⟩, HB.out⟩

/-- the first m places times k, the others as they were -/
def part (k : Int) (p : List Int) (m : Nat) : List Int := scl k (p.take m) ++ p.drop m
theorem part_len (k : Int) (p : List Int) (m : Nat) : (part k p m).length = p.length := by simp [part, scl_len]; omega
theorem part_zero (k : Int) (p : List Int) : part k p 0 = p := by simp [part, scl]
theorem part_end (k : Int) (p : List Int) : part k p p.length = scl k p := by simp [part]
theorem part_get {k : Int} {p : List Int} {m : Nat} {x : Int} (h : p[m]? = some x) : (part k p m)[m]? = some x := by
  have hm := (List.getElem?_eq_some_iff.1 h).1
  unfold part
  rw [List.getElem?_append_right (by rw [scl_len, List.length_take]; omega), scl_len, List.length_take, Nat.min_eq_left (by omega), List.getElem?_drop]
  simpa using h
theorem part_set {k : Int} {p : List Int} {m : Nat} {x : Int} (h : p[m]? = some x) : (part k p m).set m (x * k % 10007) = part k p (m + 1) := by
  have hm := (List.getElem?_eq_some_iff.1 h).1
  unfold part
  rw [scl_take h, List.set_append_right _ _ (by rw [scl_len, List.length_take]; omega), scl_len, List.length_take, Nat.min_eq_left (by omega), Nat.sub_self, List.append_assoc]
  congr 1
  rw [List.drop_eq_getElem_cons hm]
  rfl
set_option maxHeartbeats 2000000 in
theorem s_l11Lagrange (w : World) (v : Value) (zs : List Int) (j : Nat) (ha : Ints w v zs) (hN : Nums zs) (hn : zs.length ≤ 900) (hj : j < zs.length) :
    Calls Try.prog 161 #[v, .int .i64 (j : Int)] w fun e w' => ∃ r, e = .returned r ∧ OwnInts w' w.heap.size tI r (lag zs j) ∧ Below w.heap.size w w' := by
  obtain ⟨A, c, rfl, l1, l2, h3⟩ := ha.open_
  have H3 := Lib.hid h3
  have HN := Lib.hid hN
  clear h3 ha hN
  obtain ⟨adj', cj, rfl, hcj, -, hcj0⟩ := H3.out j hj
  have HCJ := Lib.hid (show zs.getD j 0 = cj by simp [List.getD, hcj])
  have hcn := HN.out cj (List.mem_of_getElem? hcj)
  have HCC := Lib.hid hcj0
  clear hcj hcj0
  have OL := Lib.hid (own_lit w tI [.int .i64 1] (by simp [maxLen]))
  go_enter Try.func161, Try.ntmps161
  go_wp2_with fail
  go_loopw [5, 6, 7] (fun o u i wr => ∃ m : Nat, m ≤ zs.length ∧ i = .int .i64 m ∧ u = .int .i64 (valN cj zs j m) ∧ OwnInts wr w.heap.size tI o (facN zs j m) ∧ Below w.heap.size w wr) (fun _ _ i _ => zs.length - (intOf i).toNat)
  case atStart => exact ⟨0, Nat.zero_le _, rfl, rfl, ⟨by simpa [facN, ints] using OL.out, nums_in (facN_nums _ _ _)⟩, below1 _ _⟩
  case round =>
    obtain ⟨m, hm, rfl, rfl, hown, hb⟩ := hrel
    clear OL
    have HO := Lib.hid hown
    have HB := Lib.hid hb
    clear hown hb
    have hvb := valN_bd cj zs j m
    by_cases hlt : m < zs.length
    · by_cases hmj : m = j
      · have HF := Lib.hid (show facN zs j (m + 1) = facN zs j m by rw [facN, if_pos hmj])
        have HV := Lib.hid (show valN cj zs j (m + 1) = valN cj zs j m by rw [valN, if_pos hmj])
        subst hmj
        go_wp2_with fail
        go_roundw
        case rel => exact ⟨m + 1, by omega, by go_num, by rw [HV.out], by rw [HF.out]; exact HO.out, HB.out⟩
        case measure => simp [intOf]; omega
      · obtain ⟨ad, x, he, hx, -, hc0⟩ := H3.out m hlt
        simp only [Option.some.injEq] at he
        subst he
        have hxn := HN.out x (List.mem_of_getElem? hx)
        have hc : wr.cell? (adj'.add m) = some (.int .i64 x) := by
          rw [HB.out.cell (by rw [block_add]; have := World.block_lt_of_cell? w _ hc0; rwa [block_add] at this)]; exact hc0
        have hgx : zs.getD m 0 = x := by simp [List.getD, hx]
        have HF := Lib.hid (show facN zs j (m + 1) = tl (facN zs j m) x by rw [facN, if_neg hmj, hgx])
        have HV := Lib.hid (show valN cj zs j (m + 1) = valN cj zs j m * ((cj - x) % 10007) % 10007 by rw [valN, if_neg hmj, hgx])
        have hne : ¬ (m : Int) = (j : Int) := by omega
        have hmi : (m : Int) < (zs.length : Int) := by omega
        have hji : (j : Int) < (zs.length : Int) := by omega
        clear hx hgx
        generalize valN cj zs j m = u at hvb HV
        go_wp2_with fail
        refine (s_l11Factor _ _ (facN zs j m) x (by exact HO.out.ints) (facN_nums _ _ _) (by have := facN_len zs j m; omega) hxn.1 hxn.2).mono ?_
        rintro e w2 ⟨v2, rfl, ho2, hb2⟩
        have HB2 := Lib.hid (HB.out.trans (hb2.mono HB.out.size))
        have HO2 := Lib.hid (ho2.mono HB.out.size)
        have hcx : w2.cell? (adj'.add m) = some (.int .i64 x) := by
          rw [HB2.out.cell (by rw [block_add]; have := World.block_lt_of_cell? w _ hc0; rwa [block_add] at this)]; exact hc0
        have hcc : w2.cell? (adj'.add j) = some (.int .i64 cj) := by
          rw [HB2.out.cell (by rw [block_add]; have := World.block_lt_of_cell? w _ HCC.out; rwa [block_add] at this)]; exact HCC.out
        clear hc hc0 ho2 hb2
        go_wp2_with fail
        go_quiet ((first | (go_at_call 141; first | exact quiet_same (s_l01Sub _ _ _ (by omega) (by omega) (by omega) (by omega)) | exact quiet_same0 (s_l01Sub _ _ _ (by omega) (by omega) (by omega) (by omega))) | (go_at_call 147; first | exact quiet_same (s_l01Mul _ _ _ (by omega) (by omega) (by omega) (by omega)) | exact quiet_same0 (s_l01Mul _ _ _ (by omega) (by omega) (by omega) (by omega)))))
        go_wp2_with fail
        go_roundw
        case rel => exact ⟨m + 1, by omega, by go_num, by rw [HV.out], by rw [HF.out]; exact HO2.out, below_drewN HB2.out _⟩
        case measure => simp [intOf]; omega
    · have : m = zs.length := by omega
      subst this
      have HLG := Lib.hid (show lag zs j = scl (pw (valN cj zs j zs.length) 10005) (facN zs j zs.length) by unfold lag; rw [HCJ.out, lagI_eq])
      have hpl := facN_len zs j zs.length
      have HPN := Lib.hid (facN_nums zs j zs.length)
      generalize facN zs j zs.length = P at HO HLG hpl HPN
      generalize valN cj zs j zs.length = u at hvb HLG
      rcases HO.out.1.cases with ⟨rfl, hz⟩ | ⟨g, cap, cur, hov, hB, hg, -, hcap, hcm, -⟩
      · have := congrArg List.length hz
        simp [ints] at this
        subst this
        simp at hpl
      · rw [ints_len] at hov hcap
        subst hov
        have hcap2 : cap ≤ 9223372036854775807 := by simpa [maxLen] using hcm
        have hkb := pw_bd u 10005
        have HQ := Lib.hid HO.out.1
        clear HO hcm
        go_wp2_with fail
        go_loopw [8] (fun i w' => ∃ m : Nat, m ≤ P.length ∧ i = .int .i64 m ∧ Own w' w.heap.size tI (.slice (some ⟨g, 0, none⟩) P.length cap) (ints (part (pw u 10005) P m)) ∧ Below w.heap.size w w') (fun i _ => P.length - (intOf i).toNat)
        case atStart => exact ⟨0, Nat.zero_le _, rfl, by rw [part_zero]; exact HQ.out, HB.out⟩
        case round =>
          obtain ⟨m, hm, rfl, hown, hb⟩ := hrel
          clear HQ HB
          have HB := Lib.hid hb
          clear hb
          by_cases hlt2 : m < P.length
          · have hx : P[m]? = some P[m] := List.getElem?_eq_getElem hlt2
            generalize P[m] = x at hx
            have hxn := HPN.out x (List.mem_of_getElem? hx)
            have e1 := ints_get (part_get (k := pw u 10005) hx)
            have HPS := Lib.hid (part_set (k := pw u 10005) hx)
            obtain ⟨u0, hu0, hcg, hfg, hg2, hg1, hown', hgr'⟩ := hown.storeAt (k := m) (by simp [ints, part_len]; omega) (.int .i64 (x * pw u 10005 % 10007))
            obtain rfl : Value.int .i64 x = u0 := by rw [e1] at hu0; simpa using hu0
            have HO := Lib.hid hown'
            have HB2 := Lib.hid (HB.out.setCell (p := ⟨g, m, none⟩) hg1 (.int .i64 (x * pw u 10005 % 10007)))
            have hmi : (m : Int) < (P.length : Int) := by omega
            clear hown hown' hu0 e1 hgr' hx
            go_wp2_with fail
            go_region_law (first | (go_simp; go_at_call 158; refine (s_l01Inv _ _ (by omega) (by omega)).mono ?_; rintro e w' ⟨rfl, rfl⟩) | (go_simp; go_at_call 147; refine (s_l01Mul _ _ _ (by omega) (by omega) (by omega) (by omega)).mono ?_; rintro e w' ⟨rfl, rfl⟩))
            all_goals
              go_wp2_with fail
              go_roundw
              case rel =>
                refine ⟨m + 1, by omega, by go_num, ?_, HB2.out.drew⟩
                rw [← HPS.out]
                have h := HO.out
                simp only [ints, List.map_set] at h ⊢
                exact h
              case measure => simp [intOf]; omega
          · have : m = P.length := by omega
            subst this
            rw [part_end, ← HLG.out] at hown
            have HO := Lib.hid hown
            have HIN := Lib.hid (show ∀ z ∈ lag zs j, In64 z by rw [HLG.out]; exact scl_in _ _)
            clear hown
            go_wp2_with fail
            go_ret
            exact ⟨_, rfl, ⟨HO.out, HIN.out⟩, HB.out⟩
end Go.Proofs.Ytnlaoainhlfemaa

set_option maxRecDepth 100000
set_option linter.unusedVariables false
set_option linter.unusedSimpArgs false
namespace Go.Proofs.Ytnlaoainhlfemaa
open Go.RowKit

def nodeOf (r : List Int) : Int := sumF id r % 10007
def nodesOf (A : List (List Int)) : List Int := A.map nodeOf
theorem nodesOf_nums (A : List (List Int)) : Nums (nodesOf A) := by
  intro z hz
  obtain ⟨r, _, rfl⟩ := List.mem_map.1 hz
  unfold nodeOf
  omega
theorem nodesOf_len (A : List (List Int)) : (nodesOf A).length = A.length := by simp [nodesOf]
theorem nodesOf_take {A : List (List Int)} {j : Nat} {r : List Int} (h : A[j]? = some r) : nodesOf (A.take (j + 1)) = nodesOf (A.take j) ++ [nodeOf r] := by
  unfold nodesOf
  rw [List.take_add_one, h]; simp
theorem sumF_id_bd {r : List Int} (h : Nums r) : 0 ≤ sumF id r ∧ sumF id r ≤ r.length * 10006 := sumF_bd id 10006 r (fun x hx => h x hx)

set_option maxHeartbeats 2000000 in
theorem im_nodes (w : World) (v : Value) (A : List (List Int)) (Bs : List Int) (ha : TabArg w v A Bs) (hT : NumTab A Bs) :
    Calls Try.prog 193 #[v] w fun e w' => ∃ r, e = .returned r ∧ OwnInts w' w.heap.size tI r (nodesOf A) ∧ Below w.heap.size w w' := by
  obtain ⟨va, vb, rfl, hA, hB⟩ := ha
  obtain ⟨A1, c1, rfl, l1, l2, h3⟩ := hA.open_
  obtain ⟨A2, c2, rfl, -, -, -⟩ := hB.open_
  have H3 := Lib.hid h3
  have hal := hT.la
  have HT := Lib.hid hT
  have OL := Lib.hid ((own_lit (w.alloc (.cells #[.slice A1 A.length c1, .slice A2 Bs.length c2] 27)) tI [] (by simp [maxLen])).mono (B' := w.heap.size) (by simp))
  have B0 := Lib.hid (below2 w (.cells #[.slice A1 A.length c1, .slice A2 Bs.length c2] 27) (.cells #[] tI))
  clear hA hB h3 hT
  go_enter Try.func193, Try.ntmps193
  go_wp2_with fail
  go_loopw [3, 13] (fun o i wr => ∃ j : Nat, j ≤ A.length ∧ i = .int .i64 (j : Int) ∧ Own wr w.heap.size tI o (ints (nodesOf (A.take j))) ∧ Below w.heap.size w wr) (fun _ i _ => A.length - (intOf i).toNat)
  case atStart => exact ⟨0, Nat.zero_le _, rfl, by simpa [nodesOf, ints] using OL.out, B0.out⟩
  case round =>
    obtain ⟨j, hj, rfl, hown, hb⟩ := hrel
    clear OL
    have HO := Lib.hid hown
    have HB := Lib.hid hb
    clear hown hb
    by_cases hlt : j < A.length
    · obtain ⟨ad, u, zs, rfl, hz, hu, hc0⟩ := H3.out j hlt
      have hc : wr.cell? (ad.add j) = some u := by
        rw [HB.out.cell (by rw [block_add]; have := World.block_lt_of_cell? w _ hc0; rwa [block_add] at this)]; exact hc0
      obtain ⟨A5, c5, rfl, p1, p2, hu3⟩ := (hu.below HB.out).open_
      have HU := Lib.hid hu3
      have HZN := Lib.hid (HT.out.rows zs (List.mem_of_getElem? hz)).1
      have hzl := (HT.out.rows zs (List.mem_of_getElem? hz)).2
      have HS := Lib.hid (nodesOf_take hz)
      clear hz hu hc0 hu3
      go_wp2_with fail
      go_loopw [6, 19] (fun s k wi => ∃ m : Nat, m ≤ zs.length ∧ k = .int .i64 m ∧ s = .int .i64 (sumF id (zs.take m)) ∧ wi = wr) (fun _ k _ => zs.length - (intOf k).toNat)
      case atStart => exact ⟨0, Nat.zero_le _, rfl, rfl, rfl⟩
      case round =>
        obtain ⟨m, hm, rfl, rfl, rfl⟩ := hrel
        by_cases hlt2 : m < zs.length
        · obtain ⟨ad5, x, rfl, hx, -, hcx⟩ := HU.out m hlt2
          have hxn := HZN.out x (List.mem_of_getElem? hx)
          have HX := Lib.hid (sumF_take id hx)
          have hsb := sumF_id_bd (r := zs.take m) (fun z hz => HZN.out z (List.mem_of_mem_take hz))
          have hsl : ((zs.take m).length : Int) ≤ 1000 := by rw [List.length_take]; omega
          clear hx
          generalize (zs.take m).length = q at hsb hsl
          generalize sumF id (zs.take m) = s at hsb HX
          go_wp2_with fail
          go_roundw
          case rel => exact ⟨m + 1, by omega, by go_num, by rw [HX.out]; rfl, trivial⟩
          case measure => simp [intOf]; omega
        · have : m = zs.length := by omega
          subst this
          rw [List.take_length]
          have hsb := sumF_id_bd HZN.out
          have HND := Lib.hid (show sumF id zs % 10007 = nodeOf zs from rfl)
          generalize sumF id zs = s at hsb HND
          have hsl : (zs.length : Int) ≤ 1000 := by omega
          go_wp2_with (first
            | (go_at_call 148; refine (i_num _ _ (by omega) (by omega)).mono ?_; rintro e w' ⟨rfl, rfl⟩)
            | (at_builtin; refine wpList_app1 T_int HO.out (by rw [ints_len, nodesOf_len, List.length_take]; omega) HB.out.size (by rfl) rfl (by rfl) (by rfl) (by rfl) ?_; intro v1 w1 hown1 hgr1))
          go_roundw
          case rel =>
            refine ⟨j + 1, by omega, by go_num, ?_, hgr1.below HB.out HB.out.size HO.out.ge⟩
            rw [HS.out, ← HND.out]
            simpa [ints] using hown1
          case measure => simp [intOf]; omega
    · have : j = A.length := by omega
      subst this
      rw [List.take_length] at HO
      go_wp2_with fail
      go_ret
      exact ⟨_, rfl, ⟨HO.out, nums_in (nodesOf_nums _)⟩, HB.out⟩

set_option maxHeartbeats 1000000 in
theorem s_l09Ones (w : World) (n : Nat) (hn : n ≤ 1000) :
    Calls Try.prog 155 #[.int .i64 (n : Int)] w fun e w' => ∃ r, e = .returned r ∧ OwnInts w' w.heap.size tI r (List.replicate n 1) ∧ Below w.heap.size w w' := by
  have OL := Lib.hid (own_lit w tI [] (by simp [maxLen]))
  go_enter Try.func155, Try.ntmps155
  go_wp2_with fail
  go_loopw [3, 0] (fun o i wr => ∃ j : Nat, j ≤ n ∧ i = .int .i64 ((n : Int) - (j : Int)) ∧ Own wr w.heap.size tI o (ints (List.replicate j 1)) ∧ Below w.heap.size w wr) (fun _ i _ => (intOf i).toNat)
  case atStart => exact ⟨0, Nat.zero_le _, by simp, by simpa [ints] using OL.out, below1 _ _⟩
  case round =>
    obtain ⟨j, hj, rfl, hown, hb⟩ := hrel
    clear OL
    have HO := Lib.hid hown
    have HB := Lib.hid hb
    clear hown hb
    by_cases hlt : j < n
    · have hge : 0 < (n : Int) - (j : Int) := by omega
      have HR := Lib.hid (show (List.replicate (j + 1) (1 : Int)) = List.replicate j 1 ++ [1] from List.replicate_succ')
      go_wp2_with (at_builtin; refine wpList_app1 T_int HO.out (by rw [ints_len, List.length_replicate]; omega) HB.out.size (by rfl) rfl (by rfl) (by rfl) (by rfl) ?_; intro v1 w1 hown1 hgr1)
      go_roundw
      case rel =>
        refine ⟨j + 1, by omega, by congr 1; omega, ?_, hgr1.below HB.out HB.out.size HO.out.ge⟩
        rw [HR.out]
        simpa [ints] using hown1
      case measure => simp [intOf]; omega
    · have : j = n := by omega
      subst this
      have hneg : ¬ (0 : Int) < (j : Int) - (j : Int) := by omega
      go_wp2_with fail
      go_ret
      exact ⟨_, rfl, ⟨HO.out, fun z hz => by have := (List.mem_replicate.1 hz).2; subst this; unfold In64; omega⟩, HB.out⟩

set_option maxHeartbeats 1000000 in
theorem s_l01DotOnes (w : World) (v vo : Value) (zs : List Int) (n : Nat) (ha : Ints w v zs) (ho : Ints w vo (List.replicate n 1)) (hN : Nums zs) (hl : zs.length ≤ n) (hn : n ≤ 1000) :
    Calls Try.prog 190 #[v, vo] w fun e w' => e = .returned (.int .i64 (nodeOf zs)) ∧ ∃ n, w' = w.drewN n := by
  obtain ⟨A, c, rfl, l1, l2, h3⟩ := ha.open_
  obtain ⟨A', c', rfl, l1', l2', g3⟩ := ho.open_
  rw [List.length_replicate] at l1' g3 ⊢
  have H3 := Lib.hid h3
  have G3 := Lib.hid g3
  have HN := Lib.hid hN
  clear ha ho h3 g3 hN
  go_enter Try.func190, Try.ntmps190
  go_wp2_with fail
  go_loopw [5, 6] (fun s i wr => ∃ m q : Nat, m ≤ zs.length ∧ i = .int .i64 m ∧ s = .int .i64 (nodeOf (zs.take m)) ∧ wr = w.drewN q) (fun _ i _ => zs.length - (intOf i).toNat)
  case atStart => exact ⟨0, 0, Nat.zero_le _, rfl, rfl, rfl⟩
  case round =>
    obtain ⟨m, q, hm, rfl, rfl, rfl⟩ := hrel
    by_cases hlt : m < zs.length
    · obtain ⟨ad, x, rfl, hx, -, hcx⟩ := H3.out m hlt
      obtain ⟨ad', y, rfl, hy, -, hcy⟩ := G3.out m (by omega)
      have hy1 : y = 1 := by
        rw [List.getElem?_replicate, if_pos (by omega)] at hy
        simpa using hy.symm
      subst hy1
      have hxn := HN.out x (List.mem_of_getElem? hx)
      have HX := Lib.hid (show nodeOf (zs.take (m + 1)) = (nodeOf (zs.take m) + x * 1 % 10007) % 10007 by unfold nodeOf; rw [sumF_take id hx]; simp only [id]; omega)
      have hnb : 0 ≤ nodeOf (zs.take m) ∧ nodeOf (zs.take m) ≤ 10006 := by unfold nodeOf; omega
      have hmi : (m : Int) < (zs.length : Int) := by omega
      have hmn : (m : Int) < (n : Int) := by omega
      have hmn' : m < n := by omega
      clear hx hy
      generalize nodeOf (zs.take m) = s at hnb HX
      go_wp2_with fail
      go_quiet ((first | (go_at_call 147; exact quiet_same (s_l01Mul _ _ _ (by omega) (by omega) (by omega) (by omega))) | (go_at_call 140; exact quiet_same (s_l01Add _ _ _ (by omega) (by omega) (by omega) (by omega)))))
      go_wp2_with fail
      go_roundw
      case rel =>
        refine ⟨m + 1, _, by omega, by go_num, ?_, rfl⟩
        rw [HX.out]
        congr 1
        omega
      case measure => simp [intOf]; omega
    · have : m = zs.length := by omega
      subst this
      rw [List.take_length]
      go_wp2_with fail
      go_ret
      exact ⟨rfl, _, rfl⟩

set_option maxHeartbeats 1000000 in
theorem s_l09TimesOnes (w : World) (v vo : Value) (A : List (List Int)) (n : Nat) (ha : Rows w v A) (ho : Ints w vo (List.replicate n 1)) (hN : ∀ zs ∈ A, Nums zs ∧ zs.length ≤ n) (hal : A.length ≤ 1000) (hn : n ≤ 1000) :
    Calls Try.prog 154 #[v, vo] w fun e w' => ∃ r, e = .returned r ∧ OwnInts w' w.heap.size tI r (nodesOf A) ∧ Below w.heap.size w w' := by
  obtain ⟨A1, c1, rfl, l1, l2, h3⟩ := ha.open_
  obtain ⟨A', c', rfl, l1', l2', -⟩ := ho.open_
  rw [List.length_replicate] at l1' ho ⊢
  have H3 := Lib.hid h3
  have HP := Lib.hid ho
  have HN := Lib.hid hN
  clear ha ho h3 hN
  have OL := Lib.hid (own_lit w tI [] (by simp [maxLen]))
  go_enter Try.func154, Try.ntmps154
  go_wp2_with fail
  go_loopw [5, 6] (fun o i wr => ∃ j : Nat, j ≤ A.length ∧ i = .int .i64 j ∧ Own wr w.heap.size tI o (ints (nodesOf (A.take j))) ∧ Below w.heap.size w wr) (fun _ i _ => A.length - (intOf i).toNat)
  case atStart => exact ⟨0, Nat.zero_le _, rfl, by simpa [nodesOf, ints] using OL.out, below1 _ _⟩
  case round =>
    obtain ⟨j, hj, rfl, hown, hb⟩ := hrel
    clear OL
    have HO := Lib.hid hown
    have HB := Lib.hid hb
    clear hown hb
    by_cases hlt : j < A.length
    · obtain ⟨ad, u, zs, rfl, hz, hu, hc0⟩ := H3.out j hlt
      have hc : wr.cell? (ad.add j) = some u := by
        rw [HB.out.cell (by rw [block_add]; have := World.block_lt_of_cell? w _ hc0; rwa [block_add] at this)]; exact hc0
      have HU := Lib.hid (hu.below HB.out)
      have HQ := Lib.hid (HP.out.below HB.out)
      have HZN := Lib.hid (HN.out zs (List.mem_of_getElem? hz))
      have HS := Lib.hid (nodesOf_take hz)
      have hji : (j : Int) < (A.length : Int) := by omega
      clear hz hu hc0
      go_wp2_with (first
        | (go_at_call 190; refine (s_l01DotOnes _ _ _ zs n (by exact HU.out) (by exact HQ.out) HZN.out.1 HZN.out.2 hn).mono ?_; rintro e w5 ⟨rfl, n5, rfl⟩)
        | (at_builtin; refine wpList_app1 T_int (show Own (wr.drewN n5) w.heap.size tI _ (ints (nodesOf (A.take j))) from HO.out) (by rw [ints_len, nodesOf_len, List.length_take]; omega) HB.out.size (by rfl) rfl (by rfl) (by rfl) (by rfl) ?_; intro v1 w1 hown1 hgr1))
      go_roundw
      case rel =>
        refine ⟨j + 1, by omega, by go_num, ?_, hgr1.below (below_drewN HB.out _) HB.out.size HO.out.ge⟩
        rw [HS.out]
        simpa [ints] using hown1
      case measure => simp [intOf]; omega
    · have : j = A.length := by omega
      subst this
      rw [List.take_length] at HO
      go_wp2_with fail
      go_ret
      exact ⟨_, rfl, ⟨HO.out, nums_in (nodesOf_nums _)⟩, HB.out⟩
end Go.Proofs.Ytnlaoainhlfemaa

set_option maxRecDepth 100000
set_option linter.unusedVariables false
set_option linter.unusedSimpArgs false
namespace Go.Proofs.Ytnlaoainhlfemaa
open Go.RowKit

def okBr (n : Nat) : Bool := match brO (tr n) with
  | some bs => bs.all (fun b => Nat.blt 0 (idxN T6n b) && (Nat.ble (idxN T6n b) n && eqN (tr (idxN T6n b - 1)) b)) && Nat.beq (cmpN (srtZ (bs.map (idxN T6n))) (srtZ (bt (n + 1)))) 0
  | none => false
theorem tj1 : (List.range 37).all okBr = true := by decide +kernel
/-- the branches of the n-th tree -/
theorem br_bt {n : Nat} (hn : n < 37) : ∃ bs, brO (tr n) = some bs ∧ (∀ b ∈ bs, 0 < idxN T6n b ∧ idxN T6n b ≤ n ∧ tr (idxN T6n b - 1) = b) ∧ ∀ f : Nat → Int, pz f (bs.map (idxN T6n)) = pz f (bt (n + 1)) := by
  have h1 := tj1
  rw [List.all_eq_true] at h1
  have h2 := h1 n (List.mem_range.2 hn)
  unfold okBr at h2
  cases hb : brO (tr n) with
  | none => rw [hb] at h2; cases h2
  | some bs =>
    rw [hb] at h2
    simp only [Bool.and_eq_true, List.all_eq_true] at h2
    refine ⟨bs, rfl, fun b hbs => ?_, fun f => ?_⟩
    · obtain ⟨a1, a2, a3⟩ := h2.1 b hbs
      exact ⟨blt_lt a1, Nat.le_of_ble_eq_true a2, eqN_iff.1 a3⟩
    · rw [← srtZ_pz, cmpN_zero (Nat.eq_of_beq_eq_true h2.2), srtZ_pz]
/-- the stage weights of the tree at p -/
def stL (A : List (List Int)) (s p : Nat) : List Int := (List.range s).map fun i => wt s (fT A) zeroV i p % 10007
/-- what they are after some branches -/
def stB (A : List (List Int)) (s : Nat) (qs : List Nat) : List Int := (List.range s).map fun i => pz (uV s (fT A) i) qs % 10007
/-- the matrix times the stage weights -/
def apL (A : List (List Int)) (s p : Nat) : List Int := (List.range s).map fun i => uV s (fT A) i p % 10007
theorem stB_nil (A : List (List Int)) (s : Nat) : stB A s [] = List.replicate s 1 := by
  unfold stB
  refine List.ext_getElem (by simp) fun i h1 h2 => ?_
  simp [pz_nil]
theorem stB_end (A : List (List Int)) (s : Nat) {n : Nat} (hn : n < 37) {bs : List (List Nat)} (h : ∀ f : Nat → Int, pz f (bs.map (idxN T6n)) = pz f (bt (n + 1))) : stB A s (bs.map (idxN T6n)) = stL A s (n + 1) := by
  unfold stB stL
  refine List.map_congr_left fun i _ => ?_
  rw [h, wt_zero s (fT A) i (by omega)]
theorem stB_get (A : List (List Int)) (s : Nat) (qs : List Nat) {i : Nat} (hi : i < s) : (stB A s qs)[i]? = some (pz (uV s (fT A) i) qs % 10007) := by
  unfold stB
  rw [List.getElem?_map, List.getElem?_range hi]
  rfl
theorem apL_get (A : List (List Int)) (s p : Nat) {i : Nat} (hi : i < s) : (apL A s p)[i]? = some (uV s (fT A) i p % 10007) := by
  unfold apL
  rw [List.getElem?_map, List.getElem?_range hi]
  rfl
theorem stL_get (A : List (List Int)) (s p : Nat) {i : Nat} (hi : i < s) : (stL A s p)[i]? = some (wt s (fT A) zeroV i p % 10007) := by
  unfold stL
  rw [List.getElem?_map, List.getElem?_range hi]
  rfl
/-- one branch more -/
theorem stB_step (A : List (List Int)) (s : Nat) (qs : List Nat) (q i : Nat) : (pz (uV s (fT A) i) qs % 10007) * (uV s (fT A) i q % 10007) % 10007 = pz (uV s (fT A) i) (qs ++ [q]) % 10007 := by
  rw [pz_append, pz_cons, pz_nil, Int.mul_one]
  exact mulm (Int.emod_emod_of_dvd _ (Int.dvd_refl _)) (Int.emod_emod_of_dvd _ (Int.dvd_refl _))
/-- a row times the stage weights -/
theorem row_ap (A : List (List Int)) (s i : Nat) {p : Nat} (h0 : 0 < p) : sR s (fun k => fT A i k * (stL A s p).getD k 0) % 10007 = uV s (fT A) i p % 10007 := by
  unfold uV
  rw [if_neg (by omega)]
  refine sR_mod fun k hk => ?_
  rw [List.getD_eq_getElem?_getD, stL_get A s p hk]
  exact mulm rfl (Int.emod_emod_of_dvd _ (Int.dvd_refl _))
/-- the weights times the stage weights -/
theorem b_st (A : List (List Int)) (B : List Int) {p : Nat} (h0 : 0 < p) : sR B.length (fun k => fB B k * (stL A B.length p).getD k 0) % 10007 = wgtT B.length (fT A) (fB B) p % 10007 := by
  rw [wgt_pos _ _ _ h0]
  refine sR_mod fun k hk => ?_
  rw [List.getD_eq_getElem?_getD, stL_get A _ p hk]
  exact mulm rfl (Int.emod_emod_of_dvd _ (Int.dvd_refl _))
end Go.Proofs.Ytnlaoainhlfemaa

set_option maxRecDepth 100000
set_option linter.unusedVariables false
set_option linter.unusedSimpArgs false
namespace Go.Proofs.Ytnlaoainhlfemaa
open Go.RowKit

end Go.Proofs.Ytnlaoainhlfemaa

set_option maxRecDepth 100000
set_option linter.unusedVariables false
set_option linter.unusedSimpArgs false
namespace Go.Proofs.Ytnlaoainhlfemaa
open Go.RowKit

theorem Own.whole {w : World} {B : Nat} {e : TypeId} {g n : Nat} {vs : List Value} (h : Own w B e (.slice (some ⟨g, 0, none⟩) n n) vs) (hl : vs.length = n) : w.heap[g]? = some (.cells vs.toArray e (0, 0)) := by
  rcases h.cases with ⟨h, _⟩ | ⟨g', cap, cur, hv, _, _, hg, hc, _, hs, ht⟩
  · cases h
  · simp only [Value.slice.injEq, Option.some.injEq, Addr.mk.injEq, and_true, true_and] at hv
    obtain ⟨rfl, rfl, rfl⟩ := hv
    rw [hg]
    have : cur.toList = vs := by rw [← ht, hl, List.take_of_length_le (by rw [Array.length_toList, hs]; exact Nat.le_refl _)]
    rw [← this]
theorem Own.of_whole {w : World} {B : Nat} {e : TypeId} {g n : Nat} {vs : List Value} (h : w.heap[g]? = some (.cells vs.toArray e (0, 0))) (hl : vs.length = n) (hB : B ≤ g) (hn : n ≤ maxLen) : Own w B e (.slice (some ⟨g, 0, none⟩) n n) vs := by
  subst hl
  exact ⟨by simp, .inr ⟨g, _, _, rfl, hB, h, Nat.le_refl _, hn, by simp, by simp⟩⟩

set_option maxHeartbeats 1000000 in
theorem lib_Mul1 (w : World) (n : Nat) (h1 : 1 ≤ n) (h8 : n ≤ 8) :
    Calls Try.prog 234 #[.int .u64 1, .int .u64 (n : Int)] w fun e w' => e = .returned (.tuple #[.int .u64 0, .int .u64 (n : Int)]) ∧ w = w' := by
  have : n = 1 ∨ n = 2 ∨ n = 3 ∨ n = 4 ∨ n = 5 ∨ n = 6 ∨ n = 7 ∨ n = 8 := by omega
  rcases this with rfl | rfl | rfl | rfl | rfl | rfl | rfl | rfl
  all_goals
    go_enter Try.func234, Try.ntmps234
    go_wp2
    go_ret2
    exact ⟨rfl, rfl⟩

/-- m times g, then zeros up to n -/
def fillG (g : Int) (m n : Nat) : List Value := List.replicate m (Value.int .i64 g) ++ List.replicate (n - m) (Value.int .i64 0)
theorem fillG_len {g : Int} {m n : Nat} (h : m ≤ n) : (fillG g m n).length = n := by simp [fillG]; omega
theorem fillG_splice {g : Int} {m n c : Nat} (h : m + c ≤ n) : splice (fillG g m n) m (List.replicate c (Value.int .i64 g)) = fillG g (m + c) n := by
  unfold splice fillG
  rw [List.take_left' (by simp), List.length_replicate, List.drop_append]
  simp only [List.length_replicate, List.drop_replicate]
  rw [show m - (m + c) = 0 by omega, show m + c - m = c by omega, show n - m - c = n - (m + c) by omega]
  simp only [List.replicate_zero, List.nil_append]
  rw [← List.append_assoc, List.replicate_append_replicate]
theorem fillG_get {g : Int} {m n j : Nat} (h : j < m) : (fillG g m n)[j]? = some (Value.int .i64 g) := by
  unfold fillG
  rw [List.getElem?_append_left (by simpa using h)]
  simp [h]

theorem size_int : (Try.prog.info? tI).map (·.size) = some 1 := by kernel_rfl

theorem copy_src {w w1 : World} {ad : Addr} {g : Int} (hb : Below w.heap.size w w1) (hc : w.cell? (ad.add 0) = some (.int .i64 g)) : ∀ (j : Nat) (u : Value), [Value.int .i64 g][j]? = some u → w1.cell? (ad.add j) = some u := by
  intro j u hj
  cases j with
  | zero =>
    simp at hj; subst hj
    rw [hb.cell (World.block_lt_of_cell? w _ hc)]; exact hc
  | succ j => simp at hj

set_option maxHeartbeats 1000000 in
theorem lib_Repeat1 (w : World) (v : Value) (g : Int) (n : Nat) (ha : Ints w v [g]) (h1 : 1 ≤ n) (h8 : n ≤ 8) :
    Calls Try.prog 215 #[v, .int .i64 (n : Int)] w fun e w' => ∃ r, e = .returned r ∧ OwnInts w' w.heap.size tI r (List.replicate n g) ∧ Below w.heap.size w w' := by
  have HA := Lib.hid ha
  obtain ⟨A, c, rfl, l1, l2, l3⟩ := ha.open_
  obtain ⟨ad, z, rfl, hz, hz2, hc⟩ := l3 0 (by simp)
  obtain rfl : g = z := by simpa using hz
  have HC0 := Lib.hid hc
  clear l3 ha hz hc
  have H64 := Lib.hid hz2
  clear hz2
  go_enter Try.func215, Try.ntmps215
  go_wp2_with fail
  refine (lib_Mul1 _ n h1 h8).mono ?_
  rintro e w' ⟨rfl, rfl⟩
  go_wp2_with (first | (at_make; refine wpList_mk rfl _ _ _ rfl _ _ _ T_int n _ (by rfl) (by rfl) (by rfl) (by omega) _ ?_; intro w1 hown hb hs1; have HOWN := Lib.hid hown; have HB1 := Lib.hid hb; clear hown hb) | (refine wpList_copy_splice rfl (.tmp 31) (.tmp 32) _ _ (by rfl) tI T_int.under size_int (some ⟨w.heap.size, 0, none⟩) (some ad) n n 1 c (by rfl) (by rfl) w.heap.size 0 (fillG g 0 n) tI (by simpa [fillG] using HOWN.out.whole (by simp)) [.int .i64 g] (Nat.min_eq_left h1).symm (fun _ => ⟨rfl, ad, rfl, copy_src HB1.out HC0.out⟩) (by rw [fillG_len (by omega)]; simp; omega) (by simp [Value.oneCell']) w.heap.size w HB1.out (Nat.le_refl _) ?_; intro w2 hg2 hb2; have HB2 := Lib.hid hb2; clear hb2))
  have hg3 : Hid (w2.heap[w.heap.size]? = some (.cells (fillG g 1 n).toArray tI (0, 0))) := by
    have e : splice (fillG g 0 n) 0 [Value.int .i64 g] = fillG g 1 n := by simpa using fillG_splice (g := g) (m := 0) (c := 1) (n := n) (by omega)
    have := hg2.out
    rw [e] at this
    exact this
  clear hg2 HB1 HOWN
  go_loopw [8] (fun i wr => ∃ m : Nat, 1 ≤ m ∧ m ≤ n ∧ i = .int .i64 m ∧ Hid (wr.heap[w.heap.size]? = some (.cells (fillG g m n).toArray tI (0, 0))) ∧ Below w.heap.size w wr) (fun i _ => n - (intOf i).toNat)
  case atStart => exact ⟨1, Nat.le_refl _, h1, rfl, hg3, HB2.out⟩
  case round =>
    obtain ⟨m, hm1, hmn, rfl, hgm, hb⟩ := hrel
    clear hg3 HB2
    have HB := Lib.hid hb
    clear hb
    by_cases hlt : m < n
    · have hlt' : (m : Int) < (n : Int) := by omega
      have hne : ¬ n = m := by omega
      have hm0 : (0 : Int) ≤ (m : Int) := by omega
      have hmle : (m : Int) ≤ (n : Int) := by omega
      have hcm : m + Nat.min m (n - m) ≤ n := by
        have : Nat.min m (n - m) ≤ n - m := Nat.min_le_right _ _
        omega
      have hc1 : 1 ≤ Nat.min m (n - m) := Nat.le_min.2 ⟨hm1, by omega⟩
      have HSP := Lib.hid (fillG_splice (g := g) hcm)
      have HSRC := Lib.hid (show ∀ (j : Nat) (u : Value), (List.replicate (Nat.min m (n - m)) (Value.int .i64 g))[j]? = some u → wr.cell? ((⟨w.heap.size, 0, none⟩ : Addr).add j) = some u from fun j u hj => by
        have hj1 := (List.getElem?_eq_some_iff.1 hj).1
        simp only [List.length_replicate] at hj1
        have hjm : j < m := by have : Nat.min m (n - m) ≤ m := Nat.min_le_left _ _; omega
        have hju : u = .int .i64 g := by
          obtain ⟨_, e⟩ := List.getElem?_eq_some_iff.1 hj
          simp at e
          exact e.symm
        subst hju
        rw [Addr.add_lit, Nat.zero_add, cell_of_row wr _ j _ tI (0, 0) hgm.out]
        simpa using fillG_get hjm)
      generalize hcc : Nat.min m (n - m) = cc at hcm hc1 HSP HSRC
      have HCC := Lib.hid hcc
      clear hcc
      have wcc : IntKind.i64.wrap ((m : Int) + (cc : Int)) = (m : Int) + (cc : Int) := IntWalk.i64_in _ (by omega)
      go_wp2_with fail
      go_region_held3 (fun _ => True) (exact trivial) ((refine step_copy_splice rfl (.tmp 41) (.tmp 44) 25 25 (by rfl) tI T_int.under size_int (some ⟨w.heap.size, m, none⟩) (some ⟨w.heap.size, 0, none⟩) (n - m) (n - m) m n (by rfl) (by rfl) w.heap.size m (fillG g m n) tI hgm.out (List.replicate cc (.int .i64 g)) (by rw [List.length_replicate]; exact HCC.out.symm) (fun _ => ⟨rfl, _, rfl, HSRC.out⟩) (by rw [List.length_replicate, fillG_len hmn]; exact hcm) (by intro v hv; obtain ⟨_, rfl⟩ := List.mem_replicate.1 hv; rfl) w.heap.size w HB.out.drew (Nat.le_refl _) ?_; intro w4 hg4 hb4))
      have HG4 : Hid (w4.heap[w.heap.size]? = some (.cells (fillG g (m + cc) n).toArray tI (0, 0))) := by
        have := hg4.out
        rw [HSP.out] at this
        exact this
      have HB4 := Lib.hid hb4
      clear hg4 hb4
      go_wp2_with fail
      go_roundw
      case rel => exact ⟨m + cc, by omega, hcm, by go_num, HG4, HB4.out⟩
      case measure => simp [intOf]; omega
    · have : m = n := by omega
      subst this
      go_wp2_with fail
      go_ret
      have e : fillG g m m = ints (List.replicate m g) := by simp [fillG, ints]
      have hh := hgm.out
      rw [e] at hh
      refine ⟨_, rfl, ⟨Own.of_whole hh (by simp [ints]) (Nat.le_refl _) (by simp only [maxLen]; omega), fun z hz => ?_⟩, HB.out⟩
      obtain ⟨_, rfl⟩ := List.mem_replicate.1 hz
      exact H64.out
end Go.Proofs.Ytnlaoainhlfemaa

