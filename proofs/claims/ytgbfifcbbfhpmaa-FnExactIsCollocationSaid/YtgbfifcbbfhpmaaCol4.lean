/- Walks: the product of a polynomial and z - c, and the polynomials of Lagrange, of the reference. -/
import Derived.Test.YtgbfifcbbfhpmaaCol3
import Derived.Deep.RegionLaw
set_option maxRecDepth 100000
set_option linter.unusedVariables false
set_option linter.unusedSimpArgs false
namespace Go.Proofs.Ytgbfifcbbfhpmaa
open Go.RowKit

theorem cons0_nums {p : List Int} (hN : Nums p) (k : Nat) : 0 ≤ (0 :: p).getD k 0 ∧ (0 :: p).getD k 0 ≤ 10006 := by
  cases k with
  | zero => simp
  | succ k =>
    by_cases h : k < p.length
    · simp only [List.getD, List.getElem?_cons_succ, List.getElem?_eq_getElem h, Option.getD_some]
      exact hN _ (List.getElem_mem h)
    · simp [List.getD, List.getElem?_eq_none (Nat.le_of_not_lt h)]

set_option maxHeartbeats 2000000 in
theorem s_l11Factor (w : World) (v : Value) (p : List Int) (d : Int) (ha : Ints w v p) (hN : Nums p) (hn : p.length ≤ 1000) (h0 : 0 ≤ d) (h1 : d ≤ 10006) :
    Calls Try.prog 144 #[v, .int .i64 d] w fun e w' => ∃ r, e = .returned r ∧ OwnInts w' w.heap.size tI r (tl p d) ∧ Below w.heap.size w w' := by
  obtain ⟨A, c, rfl, l1, l2, h3⟩ := ha.open_
  have H3 := Lib.hid h3
  have HN := Lib.hid hN
  clear h3 ha hN
  have hl1 : ((p.length : Int) + 1).toNat = p.length + 1 := by omega
  go_enter Try.func144, Try.ntmps144
  go_wp2_with (at_make; refine wpList_mk rfl _ _ _ rfl _ _ _ T_int (p.length + 1) _ (by rfl) (by rfl) (by rfl) (by omega) _ ?_; intro w1 hown hb hs1; have HOWN := Lib.hid hown; have HB1 := Lib.hid hb; clear hown hb)
  go_loopw [6] (fun i wr => ∃ j : Nat, j ≤ p.length ∧ i = .int .i64 j ∧ Own wr w.heap.size tI (.slice (some ⟨w.heap.size, 0, none⟩) (p.length + 1) (p.length + 1)) (ints (facTo p d j)) ∧ Below w.heap.size w wr) (fun i _ => p.length - (intOf i).toNat)
  case atStart => exact ⟨0, Nat.zero_le _, rfl, by rw [facTo_zero]; simpa [ints] using HOWN.out, HB1.out⟩
  case round =>
    obtain ⟨j, hj, rfl, hown, hb⟩ := hrel
    clear HOWN HB1
    have HB := Lib.hid hb
    clear hb
    by_cases hlt : j < p.length
    · obtain ⟨ad, x, rfl, hx, -, hc0⟩ := H3.out j hlt
      have hxn := HN.out x (List.mem_of_getElem? hx)
      have hc : wr.cell? (ad.add j) = some (.int .i64 x) := by
        rw [HB.out.cell (by rw [block_add]; have := World.block_lt_of_cell? w _ hc0; rwa [block_add] at this)]; exact hc0
      have had : ad.block < w.heap.size := by have := World.block_lt_of_cell? w _ hc0; rwa [block_add] at this
      have hyn := cons0_nums HN.out j
      have HFS := Lib.hid (facTo_succ (c := d) hx hxn)
      have e1 := ints_get (show (facTo p d j)[j + 1]? = some 0 by rw [facTo_get (by omega), if_neg (by omega), if_neg (by omega)])
      have e2 := ints_get (show (facTo p d j)[j]? = some ((0 :: p).getD j 0) by rw [facTo_get (by omega), if_neg (by omega), if_pos rfl])
      obtain ⟨u0, hu0, hcg, hfg, hg2, hg1, hown', hgr'⟩ := hown.storeAt (k := j + 1) (by simp [ints, facTo_len]; omega) (.int .i64 ((0 + x) % 10007))
      obtain rfl : Value.int .i64 0 = u0 := by rw [e1] at hu0; simpa using hu0
      obtain ⟨u1, hu1, hcj, hfj, -, -, hown2, hgr2⟩ := hown'.storeAt (k := j) (by simp [ints, facTo_len]; omega) (.int .i64 (((0 :: p).getD j 0 - d * x % 10007) % 10007))
      obtain rfl : Value.int .i64 ((0 :: p).getD j 0) = u1 := by rw [List.getElem?_set_ne (by omega), e2] at hu1; simpa using hu1
      obtain ⟨u2, hu2, hck3, hfk3, -, -, -, -⟩ := hown.storeAt (k := j) (by simp [ints, facTo_len]; omega) (.int .i64 0)
      obtain rfl : Value.int .i64 ((0 :: p).getD j 0) = u2 := by rw [e2] at hu2; simpa using hu2
      have HO := Lib.hid hown2
      have HB2 := Lib.hid ((HB.out.setCell (p := ⟨w.heap.size, j + 1, none⟩) (Nat.le_refl _) (.int .i64 ((0 + x) % 10007))).setCell (p := ⟨w.heap.size, j, none⟩) (Nat.le_refl _) (.int .i64 (((0 :: p).getD j 0 - d * x % 10007) % 10007)))
      have hcd : ∀ y, (wr.setCell ⟨w.heap.size, j + 1, none⟩ y).cell? (ad.add j) = some (.int .i64 x) := fun y => by
        rw [World.cell?_setCell_far _ _ _ _ (by rw [block_add]; simp; omega)]; exact hc
      have hcj2 : (wr.drew.setCell ⟨w.heap.size, j + 1, none⟩ (.int .i64 ((0 + x) % 10007))).cell? ⟨w.heap.size, j, none⟩ = some (.int .i64 ((0 :: p).getD j 0)) := hcj
      have hfj2 : (wr.drew.setCell ⟨w.heap.size, j + 1, none⟩ (.int .i64 ((0 + x) % 10007))).frozen? ⟨w.heap.size, j, none⟩ = false := hfj
      clear hown hown' hown2 hu0 hu1 hu2 e1 e2 hgr' hgr2 hcj hfj hx hc0 hg1 hg2
      obtain ⟨p1, p2⟩ := mul_bd 10006 10006 h0 h1 hxn.1 hxn.2
      have hji : (j : Int) < (p.length : Int) := by omega
      have hj2 : (j : Int) + 1 < (p.length : Int) + 1 := by omega
      have hj3 : (j : Int) < (p.length : Int) + 1 := by omega
      have hjt : ((j : Int) + 1).toNat = j + 1 := by omega
      have hj4 : j < p.length + 1 := by omega
      have hj0 : (0 : Int) ≤ (j : Int) + 1 := by omega
      have hw1 : IntKind.i64.wrap ((j : Int) + 1) = (j : Int) + 1 := IntWalk.i64_in _ (by omega)
      rw [Int.zero_add] at hcj2 hfj2 HO HB2 HFS
      generalize (0 :: p).getD j 0 = y at hck3 hcj2 HO HB2 HFS hyn
      rw [show (y - d * x % 10007) % 10007 = (y - d * x) % 10007 from by omega] at HO HB2 HFS
      go_wp2_with fail
      go_region_law (go_simp; go_at_call 133; refine (s_l01Add _ _ _ (by omega) (by omega) (by omega) (by omega)).mono ?_; rintro e w' ⟨rfl, rfl⟩)
      all_goals
        go_wp2_with fail
        go_region_law (first | (go_simp; go_at_call 112; refine (s_l01Mul _ _ _ (by omega) (by omega) (by omega) (by omega)).mono ?_; rintro e w' ⟨rfl, rfl⟩) | (go_simp; go_at_call 145; refine (s_l01Sub _ _ _ (by omega) (by omega) (by omega) (by omega)).mono ?_; rintro e w' ⟨rfl, rfl⟩))
        all_goals
          go_wp2_with fail
          go_roundw
          case rel =>
            refine ⟨j + 1, by omega, by go_num, ?_, HB2.out.drew.drew⟩
            rw [← HFS.out]
            have h := HO.out
            simp only [ints, List.map_set] at h ⊢
            exact h
          case measure => simp [intOf]; omega
    · have : j = p.length := by omega
      subst this
      rw [facTo_end HN.out] at hown
      have HO := Lib.hid hown
      clear hown
      go_wp2_with fail
      go_ret
      exact ⟨_, rfl, ⟨HO.out, nums_in (tl_nums _ _)⟩, HB.out⟩

/-- the first m places times k, the others as they were -/
def part (k : Int) (p : List Int) (m : Nat) : List Int := scl k (p.take m) ++ p.drop m
theorem part_len (k : Int) (p : List Int) (m : Nat) : (part k p m).length = p.length := by simp [part, scl_len]; omega
theorem part_zero (k : Int) (p : List Int) : part k p 0 = p := by simp [part, scl]
theorem part_end (k : Int) (p : List Int) : part k p p.length = scl k p := by simp [part]
theorem part_get {k : Int} {p : List Int} {m : Nat} {x : Int} (h : p[m]? = some x) : (part k p m)[m]? = some x := by
  have hm := (List.getElem?_eq_some_iff.1 h).1
  unfold part
  rw [List.getElem?_append_right (by rw [scl_len, List.length_take]; omega), scl_len, List.length_take, Nat.min_eq_left (by omega), List.getElem?_drop]
  simpa using h
theorem part_set {k : Int} {p : List Int} {m : Nat} {x : Int} (h : p[m]? = some x) : (part k p m).set m (x * k % 10007) = part k p (m + 1) := by
  have hm := (List.getElem?_eq_some_iff.1 h).1
  unfold part
  rw [scl_take h, List.set_append_right _ _ (by rw [scl_len, List.length_take]; omega), scl_len, List.length_take, Nat.min_eq_left (by omega), Nat.sub_self, List.append_assoc]
  congr 1
  rw [List.drop_eq_getElem_cons hm]
  rfl
theorem part_nums {k : Int} {p : List Int} (hN : Nums p) (m : Nat) : Nums (part k p m) := by
  intro z hz
  rcases List.mem_append.1 hz with hz | hz
  · exact scl_nums _ _ z hz
  · exact hN z (List.mem_of_mem_drop hz)

set_option maxHeartbeats 2000000 in
theorem s_l11Lagrange (w : World) (v : Value) (zs : List Int) (j : Nat) (ha : Ints w v zs) (hN : Nums zs) (hn : zs.length ≤ 900) (hj : j < zs.length) :
    Calls Try.prog 106 #[v, .int .i64 (j : Int)] w fun e w' => ∃ r, e = .returned r ∧ OwnInts w' w.heap.size tI r (lag zs j) ∧ Below w.heap.size w w' := by
  obtain ⟨A, c, rfl, l1, l2, h3⟩ := ha.open_
  have H3 := Lib.hid h3
  have HN := Lib.hid hN
  clear h3 ha hN
  obtain ⟨adj', cj, rfl, hcj, -, hcj0⟩ := H3.out j hj
  have HCJ := Lib.hid (show zs.getD j 0 = cj by simp [List.getD, hcj])
  have hcn := HN.out cj (List.mem_of_getElem? hcj)
  have HCC := Lib.hid hcj0
  clear hcj hcj0
  have OL := Lib.hid (own_lit w tI [.int .i64 1] (by simp [maxLen]))
  go_enter Try.func106, Try.ntmps106
  go_wp2_with fail
  go_loopw [5, 6, 7] (fun o u i wr => ∃ m : Nat, m ≤ zs.length ∧ i = .int .i64 m ∧ u = .int .i64 (valN cj zs j m) ∧ OwnInts wr w.heap.size tI o (facN zs j m) ∧ Below w.heap.size w wr) (fun _ _ i _ => zs.length - (intOf i).toNat)
  case atStart => exact ⟨0, Nat.zero_le _, rfl, rfl, ⟨by simpa [facN, ints] using OL.out, nums_in (facN_nums _ _ _)⟩, below1 _ _⟩
  case round =>
    obtain ⟨m, hm, rfl, rfl, hown, hb⟩ := hrel
    clear OL
    have HO := Lib.hid hown
    have HB := Lib.hid hb
    clear hown hb
    have hvb := valN_bd cj zs j m
    by_cases hlt : m < zs.length
    · by_cases hmj : m = j
      · have HF := Lib.hid (show facN zs j (m + 1) = facN zs j m by rw [facN, if_pos hmj])
        have HV := Lib.hid (show valN cj zs j (m + 1) = valN cj zs j m by rw [valN, if_pos hmj])
        subst hmj
        go_wp2_with fail
        go_roundw
        case rel => exact ⟨m + 1, by omega, by go_num, by rw [HV.out], by rw [HF.out]; exact HO.out, HB.out⟩
        case measure => simp [intOf]; omega
      · obtain ⟨ad, x, he, hx, -, hc0⟩ := H3.out m hlt
        simp only [Option.some.injEq] at he
        subst he
        have hxn := HN.out x (List.mem_of_getElem? hx)
        have hc : wr.cell? (adj'.add m) = some (.int .i64 x) := by
          rw [HB.out.cell (by rw [block_add]; have := World.block_lt_of_cell? w _ hc0; rwa [block_add] at this)]; exact hc0
        have hgx : zs.getD m 0 = x := by simp [List.getD, hx]
        have HF := Lib.hid (show facN zs j (m + 1) = tl (facN zs j m) x by rw [facN, if_neg hmj, hgx])
        have HV := Lib.hid (show valN cj zs j (m + 1) = valN cj zs j m * ((cj - x) % 10007) % 10007 by rw [valN, if_neg hmj, hgx])
        have hne : ¬ (m : Int) = (j : Int) := by omega
        have hmi : (m : Int) < (zs.length : Int) := by omega
        have hji : (j : Int) < (zs.length : Int) := by omega
        clear hx hgx
        generalize valN cj zs j m = u at hvb HV
        go_wp2_with fail
        refine (s_l11Factor _ _ (facN zs j m) x (by exact HO.out.ints) (facN_nums _ _ _) (by have := facN_len zs j m; omega) hxn.1 hxn.2).mono ?_
        rintro e w2 ⟨v2, rfl, ho2, hb2⟩
        have HB2 := Lib.hid (HB.out.trans (hb2.mono HB.out.size))
        have HO2 := Lib.hid (ho2.mono HB.out.size)
        have hcx : w2.cell? (adj'.add m) = some (.int .i64 x) := by
          rw [HB2.out.cell (by rw [block_add]; have := World.block_lt_of_cell? w _ hc0; rwa [block_add] at this)]; exact hc0
        have hcc : w2.cell? (adj'.add j) = some (.int .i64 cj) := by
          rw [HB2.out.cell (by rw [block_add]; have := World.block_lt_of_cell? w _ HCC.out; rwa [block_add] at this)]; exact HCC.out
        clear hc hc0 ho2 hb2
        go_wp2_with fail
        go_quiet ((first | (go_at_call 145; first | exact quiet_same (s_l01Sub _ _ _ (by omega) (by omega) (by omega) (by omega)) | exact quiet_same0 (s_l01Sub _ _ _ (by omega) (by omega) (by omega) (by omega))) | (go_at_call 112; first | exact quiet_same (s_l01Mul _ _ _ (by omega) (by omega) (by omega) (by omega)) | exact quiet_same0 (s_l01Mul _ _ _ (by omega) (by omega) (by omega) (by omega)))))
        go_wp2_with fail
        go_roundw
        case rel => exact ⟨m + 1, by omega, by go_num, by rw [HV.out], by rw [HF.out]; exact HO2.out, below_drewN HB2.out _⟩
        case measure => simp [intOf]; omega
    · have : m = zs.length := by omega
      subst this
      have HLG := Lib.hid (show lag zs j = scl (pw (valN cj zs j zs.length) 10005) (facN zs j zs.length) by unfold lag; rw [HCJ.out, lagI_eq])
      have hpl := facN_len zs j zs.length
      have HPN := Lib.hid (facN_nums zs j zs.length)
      generalize facN zs j zs.length = P at HO HLG hpl HPN
      generalize valN cj zs j zs.length = u at hvb HLG
      rcases HO.out.1.cases with ⟨rfl, hz⟩ | ⟨g, cap, cur, hov, hB, hg, -, hcap, hcm, -⟩
      · have := congrArg List.length hz
        simp [ints] at this
        subst this
        simp at hpl
      · rw [ints_len] at hov hcap
        subst hov
        have hcap2 : cap ≤ 9223372036854775807 := by simpa [maxLen] using hcm
        have hkb := pw_bd u 10005
        have HQ := Lib.hid HO.out.1
        clear HO hcm
        go_wp2_with fail
        go_loopw [8] (fun i w' => ∃ m : Nat, m ≤ P.length ∧ i = .int .i64 m ∧ Own w' w.heap.size tI (.slice (some ⟨g, 0, none⟩) P.length cap) (ints (part (pw u 10005) P m)) ∧ Below w.heap.size w w') (fun i _ => P.length - (intOf i).toNat)
        case atStart => exact ⟨0, Nat.zero_le _, rfl, by rw [part_zero]; exact HQ.out, HB.out⟩
        case round =>
          obtain ⟨m, hm, rfl, hown, hb⟩ := hrel
          clear HQ HB
          have HB := Lib.hid hb
          clear hb
          by_cases hlt2 : m < P.length
          · have hx : P[m]? = some P[m] := List.getElem?_eq_getElem hlt2
            generalize P[m] = x at hx
            have hxn := HPN.out x (List.mem_of_getElem? hx)
            have e1 := ints_get (part_get (k := pw u 10005) hx)
            have HPS := Lib.hid (part_set (k := pw u 10005) hx)
            obtain ⟨u0, hu0, hcg, hfg, hg2, hg1, hown', hgr'⟩ := hown.storeAt (k := m) (by simp [ints, part_len]; omega) (.int .i64 (x * pw u 10005 % 10007))
            obtain rfl : Value.int .i64 x = u0 := by rw [e1] at hu0; simpa using hu0
            have HO := Lib.hid hown'
            have HB2 := Lib.hid (HB.out.setCell (p := ⟨g, m, none⟩) hg1 (.int .i64 (x * pw u 10005 % 10007)))
            have hmi : (m : Int) < (P.length : Int) := by omega
            clear hown hown' hu0 e1 hgr' hx
            go_wp2_with fail
            go_region_law (first | (go_simp; go_at_call 114; refine (s_l01Inv _ _ (by omega) (by omega)).mono ?_; rintro e w' ⟨rfl, rfl⟩) | (go_simp; go_at_call 112; refine (s_l01Mul _ _ _ (by omega) (by omega) (by omega) (by omega)).mono ?_; rintro e w' ⟨rfl, rfl⟩))
            all_goals
              go_wp2_with fail
              go_roundw
              case rel =>
                refine ⟨m + 1, by omega, by go_num, ?_, HB2.out.drew⟩
                rw [← HPS.out]
                have h := HO.out
                simp only [ints, List.map_set] at h ⊢
                exact h
              case measure => simp [intOf]; omega
          · have : m = P.length := by omega
            subst this
            rw [part_end, ← HLG.out] at hown
            have HO := Lib.hid hown
            have HIN := Lib.hid (show ∀ z ∈ lag zs j, In64 z by rw [HLG.out]; exact scl_in _ _)
            clear hown
            go_wp2_with fail
            go_ret
            exact ⟨_, rfl, ⟨HO.out, HIN.out⟩, HB.out⟩
end Go.Proofs.Ytgbfifcbbfhpmaa
