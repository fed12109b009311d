/- Plain: the orders of the three conditions as tests, and the order of a tableau between them; for lists. No walk. | Walks: cloning a list, the product of a polynomial and z - d, a column. | Walks: the product of a polynomial and z - c, and the polynomials of Lagrange, of the reference. | Walks: the nodes of a tableau, of the program and of the reference; equality of tableaus. -/
import Derived.Test.YtbjeibcombjfgaaQt30
import Derived.Test.YtbjeibcombjfgaaQt25
import Derived.Test.YtbjeibcombjfgaaQt3
import Derived.Deep.RegionLaw
import Derived.Test.YtbjeibcombjfgaaQt6
import Derived.Test.YtbjeibcombjfgaaQt13
set_option maxRecDepth 100000
set_option linter.unusedVariables false
set_option linter.unusedSimpArgs false
namespace Go.Proofs.Ytbjeibcombjfgaa
open Go.RowKit

/-- up to which number a test holds, at most n more than k -/
def cndF (f : Nat → Bool) : Nat → Nat → Nat
  | 0, k => k
  | n + 1, k => bif f (k + 1) then cndF f n (k + 1) else k
theorem cndF_spec (f : Nat → Bool) : ∀ n k, k ≤ cndF f n k ∧ cndF f n k ≤ k + n ∧ (∀ j, k < j → j ≤ cndF f n k → f j = true) ∧ (cndF f n k = k + n ∨ f (cndF f n k + 1) = false)
  | 0, k => ⟨Nat.le_refl _, Nat.le_refl _, fun j h1 h2 => by have : cndF f 0 k = k := rfl; omega, .inl rfl⟩
  | n + 1, k => by
    unfold cndF
    cases h : f (k + 1) with
    | true =>
      rw [cond_true]
      obtain ⟨a, b, c, d⟩ := cndF_spec f n (k + 1)
      refine ⟨by omega, by omega, fun j h1 h2 => ?_, ?_⟩
      · by_cases e : j = k + 1
        · rw [e]; exact h
        · exact c j (by omega) h2
      · rcases d with d | d
        · exact .inl (by omega)
        · exact .inr d
    | false =>
      rw [cond_false]
      exact ⟨Nat.le_refl _, by omega, fun j h1 h2 => by omega, .inr h⟩
def cndO (f : Nat → Bool) : Nat := cndF f 16 0
theorem cndO_at {f : Nat → Bool} {j : Nat} (h0 : 0 < j) (h : j ≤ cndO f) : f j = true := (cndF_spec f 16 0).2.2.1 j h0 h
theorem cndO_le (f : Nat → Bool) : cndO f ≤ 16 := by have := (cndF_spec f 16 0).2.1; unfold cndO; omega
theorem cndO_end (f : Nat → Bool) : cndO f = 16 ∨ f (cndO f + 1) = false := by have := (cndF_spec f 16 0).2.2.2; unfold cndO; omega
theorem cndO_ge {f : Nat → Bool} {n : Nat} (hn : n ≤ 16) (h : ∀ j, 0 < j → j ≤ n → f j = true) : n ≤ cndO f := by
  rcases cndO_end f with e | e
  · omega
  · refine Classical.byContradiction fun hx => ?_
    rw [h (cndO f + 1) (by omega) (by omega)] at e
    cases e
theorem cndO_is {f : Nat → Bool} {n : Nat} (hn : n ≤ 16) (h : ∀ j, 0 < j → j ≤ n → f j = true) (he : n = 16 ∨ f (n + 1) = false) : cndO f = n := by
  have h1 := cndO_ge hn h
  have h2 := cndO_le f
  rcases he with he | he
  · omega
  · refine Classical.byContradiction fun hx => ?_
    rw [cndO_at (f := f) (j := n + 1) (by omega) (by omega)] at he
    cases he
/-! ### the tests -/
def mB (s : Nat) (b c : Nat → Int) (k : Nat) : Bool := decide (((k : Int) * sR s (fun i => b i * c i ^ (k - 1))) % 10007 = 1)
def mC (s : Nat) (A : Nat → Nat → Int) (c : Nat → Int) (k : Nat) : Bool := (List.range s).all fun i => decide (((k : Int) * sR s (fun j => A i j * c j ^ (k - 1))) % 10007 = c i ^ k % 10007)
def mD (s : Nat) (A : Nat → Nat → Int) (b c : Nat → Int) (k : Nat) : Bool := (List.range s).all fun j => decide (((k : Int) * sR s (fun i => b i * c i ^ (k - 1) * A i j)) % 10007 = b j * (1 - c j ^ k) % 10007)
theorem bcd_of (s : Nat) (A : Nat → Nat → Int) (b c : Nat → Int) : BCD s A b c (cndO (mB s b c)) (cndO (mC s A c)) (cndO (mD s A b c)) := by
  refine ⟨fun k hk => ?_, fun k hk i hi => ?_, fun k hk j hj => ?_⟩
  · have h := cndO_at (f := mB s b c) (j := k + 1) (by omega) (by omega)
    exact of_decide_eq_true h
  · have h := cndO_at (f := mC s A c) (j := k + 1) (by omega) (by omega)
    unfold mC at h
    rw [List.all_eq_true] at h
    exact of_decide_eq_true (h i (List.mem_range.2 hi))
  · have h := cndO_at (f := mD s A b c) (j := k + 1) (by omega) (by omega)
    unfold mD at h
    rw [List.all_eq_true] at h
    exact of_decide_eq_true (h j (List.mem_range.2 hj))
theorem mB_iff {s : Nat} {b c : Nat → Int} {k : Nat} (hk : k < 39) : mB s b c (k + 1) = true ↔ sR s (fun i => b i * c i ^ k) % 10007 = rh k % 10007 := by
  unfold mB
  rw [Nat.add_sub_cancel, decide_eq_true_eq]
  have hr := rh_is (show k < 40 by omega)
  constructor
  · intro h
    have e : ∀ x : Int, rh k * (((k : Int) + 1) * x) % 10007 = x % 10007 := fun x => by
      rw [← Int.mul_assoc, Int.mul_comm (rh k), Int.mul_emod, hr, Int.one_mul, Int.emod_emod_of_dvd _ (Int.dvd_refl _)]
    rw [← e, Int.mul_emod, show ((k : Int) + 1) = ((k + 1 : Nat) : Int) by omega, h, Int.mul_one, Int.emod_emod_of_dvd _ (Int.dvd_refl _)]
  · intro h
    rw [show ((k + 1 : Nat) : Int) = (k : Int) + 1 by omega, mulm (a := (k : Int) + 1) (c := (k : Int) + 1) rfl h, hr]
theorem mC_one {s : Nat} {A : Nat → Nat → Int} {c : Nat → Int} (hc : ∀ i, i < s → sR s (fun k => A i k) % 10007 = c i % 10007) : 1 ≤ cndO (mC s A c) := by
  refine cndO_ge (by omega) fun j h0 h1 => ?_
  have : j = 1 := by omega
  subst this
  unfold mC
  rw [List.all_eq_true]
  intro i hi
  refine decide_eq_true ?_
  have e : sR s (fun j => A i j * c j ^ (1 - 1)) = sR s (fun j => A i j) := sR_congr fun j _ => by rw [Nat.sub_self, Int.pow_zero, Int.mul_one]
  rw [e, Int.pow_succ, Int.pow_zero, Int.one_mul]
  show 1 * _ % 10007 = _
  rw [Int.one_mul]
  exact hc i (List.mem_range.1 hi)
/-- the number that the conditions imply -/
def impO (p q r : Nat) : Nat := min (min 6 p) (min (2 * q + 2) (q + r + 1))
/-- the order lies between the implied order and that of the quadrature -/
theorem assum {s : Nat} {A : Nat → Nat → Int} {b c : Nat → Int} (hc : ∀ i, i < s → sR s (fun k => A i k) % 10007 = c i % 10007) :
    ((impO (cndO (mB s b c)) (cndO (mC s A c)) (cndO (mD s A b c)) : Nat) : Int) ≤ agZ (chF s A b) EX ∧ agZ (chF s A b) EX ≤ ((cndO (mB s b c) : Nat) : Int) := by
  have h := bcd_of s A b c
  have hq := mC_one hc
  refine ⟨?_, ord_le hc ?_⟩
  · unfold impO
    exact implied_le h hq (by omega) (by omega) (by omega) (by omega)
  · have h16 := cndO_le (mB s b c)
    rcases cndO_end (mB s b c) with e | e
    · exact .inl (by omega)
    · refine .inr fun hx => ?_
      rw [(mB_iff (show cndO (mB s b c) < 39 by omega)).2 hx] at e
      cases e
end Go.Proofs.Ytbjeibcombjfgaa

set_option maxRecDepth 100000
set_option linter.unusedVariables false
set_option linter.unusedSimpArgs false
namespace Go.Proofs.Ytbjeibcombjfgaa
open Go.RowKit

end Go.Proofs.Ytbjeibcombjfgaa

set_option maxRecDepth 100000
set_option linter.unusedVariables false
set_option linter.unusedSimpArgs false
namespace Go.Proofs.Ytbjeibcombjfgaa
open Go.RowKit

theorem cons0_nums {p : List Int} (hN : Nums p) (k : Nat) : 0 ≤ (0 :: p).getD k 0 ∧ (0 :: p).getD k 0 ≤ 10006 := by
  cases k with
  | zero => simp
  | succ k =>
    by_cases h : k < p.length
    · simp only [List.getD, List.getElem?_cons_succ, List.getElem?_eq_getElem h, Option.getD_some]
      exact hN _ (List.getElem_mem h)
    · simp [List.getD, List.getElem?_eq_none (Nat.le_of_not_lt h)]

set_option maxHeartbeats 2000000 in
theorem s_l11Factor (w : World) (v : Value) (p : List Int) (d : Int) (ha : Ints w v p) (hN : Nums p) (hn : p.length ≤ 1000) (h0 : 0 ≤ d) (h1 : d ≤ 10006) :
    Calls Try.prog 216 #[v, .int .i64 d] w fun e w' => ∃ r, e = .returned r ∧ OwnInts w' w.heap.size tI r (tl p d) ∧ Below w.heap.size w w' := by
  obtain ⟨A, c, rfl, l1, l2, h3⟩ := ha.open_
  have H3 := Lib.hid h3
  have HN := Lib.hid hN
  clear h3 ha hN
  have hl1 : ((p.length : Int) + 1).toNat = p.length + 1 := by omega
  go_enter Try.func216, Try.ntmps216
  go_wp2_with (at_make; refine wpList_mk rfl _ _ _ rfl _ _ _ T_int (p.length + 1) _ (by rfl) (by rfl) (by rfl) (by omega) _ ?_; intro w1 hown hb hs1; have HOWN := Lib.hid hown; have HB1 := Lib.hid hb; clear hown hb)
  go_loopw [6] (fun i wr => ∃ j : Nat, j ≤ p.length ∧ i = .int .i64 j ∧ Own wr w.heap.size tI (.slice (some ⟨w.heap.size, 0, none⟩) (p.length + 1) (p.length + 1)) (ints (facTo p d j)) ∧ Below w.heap.size w wr) (fun i _ => p.length - (intOf i).toNat)
  case atStart => exact ⟨0, Nat.zero_le _, rfl, by rw [facTo_zero]; simpa [ints] using HOWN.out, HB1.out⟩
  case round =>
    obtain ⟨j, hj, rfl, hown, hb⟩ := hrel
    clear HOWN HB1
    have HB := Lib.hid hb
    clear hb
    by_cases hlt : j < p.length
    · obtain ⟨ad, x, rfl, hx, -, hc0⟩ := H3.out j hlt
      have hxn := HN.out x (List.mem_of_getElem? hx)
      have hc : wr.cell? (ad.add j) = some (.int .i64 x) := by
        rw [HB.out.cell (by rw [block_add]; have := World.block_lt_of_cell? w _ hc0; rwa [block_add] at this)]; exact hc0
      have had : ad.block < w.heap.size := by have := World.block_lt_of_cell? w _ hc0; rwa [block_add] at this
      have hyn := cons0_nums HN.out j
      have HFS := Lib.hid (facTo_succ (c := d) hx hxn)
      have e1 := ints_get (show (facTo p d j)[j + 1]? = some 0 by rw [facTo_get (by omega), if_neg (by omega), if_neg (by omega)])
      have e2 := ints_get (show (facTo p d j)[j]? = some ((0 :: p).getD j 0) by rw [facTo_get (by omega), if_neg (by omega), if_pos rfl])
      obtain ⟨u0, hu0, hcg, hfg, hg2, hg1, hown', hgr'⟩ := hown.storeAt (k := j + 1) (by simp [ints, facTo_len]; omega) (.int .i64 ((0 + x) % 10007))
      obtain rfl : Value.int .i64 0 = u0 := by rw [e1] at hu0; simpa using hu0
      obtain ⟨u1, hu1, hcj, hfj, -, -, hown2, hgr2⟩ := hown'.storeAt (k := j) (by simp [ints, facTo_len]; omega) (.int .i64 (((0 :: p).getD j 0 - d * x % 10007) % 10007))
      obtain rfl : Value.int .i64 ((0 :: p).getD j 0) = u1 := by rw [List.getElem?_set_ne (by omega), e2] at hu1; simpa using hu1
      obtain ⟨u2, hu2, hck3, hfk3, -, -, -, -⟩ := hown.storeAt (k := j) (by simp [ints, facTo_len]; omega) (.int .i64 0)
      obtain rfl : Value.int .i64 ((0 :: p).getD j 0) = u2 := by rw [e2] at hu2; simpa using hu2
      have HO := Lib.hid hown2
      have HB2 := Lib.hid ((HB.out.setCell (p := ⟨w.heap.size, j + 1, none⟩) (Nat.le_refl _) (.int .i64 ((0 + x) % 10007))).setCell (p := ⟨w.heap.size, j, none⟩) (Nat.le_refl _) (.int .i64 (((0 :: p).getD j 0 - d * x % 10007) % 10007)))
      have hcd : ∀ y, (wr.setCell ⟨w.heap.size, j + 1, none⟩ y).cell? (ad.add j) = some (.int .i64 x) := fun y => by
        rw [World.cell?_setCell_far _ _ _ _ (by rw [block_add]; simp; omega)]; exact hc
      have hcj2 : (wr.drew.setCell ⟨w.heap.size, j + 1, none⟩ (.int .i64 ((0 + x) % 10007))).cell? ⟨w.heap.size, j, none⟩ = some (.int .i64 ((0 :: p).getD j 0)) := hcj
      have hfj2 : (wr.drew.setCell ⟨w.heap.size, j + 1, none⟩ (.int .i64 ((0 + x) % 10007))).frozen? ⟨w.heap.size, j, none⟩ = false := hfj
      clear hown hown' hown2 hu0 hu1 hu2 e1 e2 hgr' hgr2 hcj hfj hx hc0 hg1 hg2
      obtain ⟨p1, p2⟩ := mul_bd 10006 10006 h0 h1 hxn.1 hxn.2
      have hji : (j : Int) < (p.length : Int) := by omega
      have hj2 : (j : Int) + 1 < (p.length : Int) + 1 := by omega
      have hj3 : (j : Int) < (p.length : Int) + 1 := by omega
      have hjt : ((j : Int) + 1).toNat = j + 1 := by omega
      have hj4 : j < p.length + 1 := by omega
      have hj0 : (0 : Int) ≤ (j : Int) + 1 := by omega
      have hw1 : IntKind.i64.wrap ((j : Int) + 1) = (j : Int) + 1 := IntWalk.i64_in _ (by omega)
      rw [Int.zero_add] at hcj2 hfj2 HO HB2 HFS
      generalize (0 :: p).getD j 0 = y at hck3 hcj2 HO HB2 HFS hyn
      rw [show (y - d * x % 10007) % 10007 = (y - d * x) % 10007 from by omega] at HO HB2 HFS
      go_wp2_with fail
      go_region_law (go_simp; go_at_call 182; refine (s_l01Add _ _ _ (by omega) (by omega) (by omega) (by omega)).mono ?_; rintro e w' ⟨rfl, rfl⟩)
      all_goals
        go_wp2_with fail
        go_region_law (first | (go_simp; go_at_call 122; refine (s_l01Mul _ _ _ (by omega) (by omega) (by omega) (by omega)).mono ?_; rintro e w' ⟨rfl, rfl⟩) | (go_simp; go_at_call 183; refine (s_l01Sub _ _ _ (by omega) (by omega) (by omega) (by omega)).mono ?_; rintro e w' ⟨rfl, rfl⟩))
        all_goals
          go_wp2_with fail
          go_roundw
          case rel =>
            refine ⟨j + 1, by omega, by go_num, ?_, HB2.out.drew.drew⟩
            rw [← HFS.out]
            have h := HO.out
            simp only [ints, List.map_set] at h ⊢
            exact h
          case measure => simp [intOf]; omega
    · have : j = p.length := by omega
      subst this
      rw [facTo_end HN.out] at hown
      have HO := Lib.hid hown
      clear hown
      go_wp2_with fail
      go_ret
      exact ⟨_, rfl, ⟨HO.out, nums_in (tl_nums _ _)⟩, HB.out⟩

/-- the first m places times k, the others as they were -/
def part (k : Int) (p : List Int) (m : Nat) : List Int := scl k (p.take m) ++ p.drop m
theorem part_len (k : Int) (p : List Int) (m : Nat) : (part k p m).length = p.length := by simp [part, scl_len]; omega
theorem part_zero (k : Int) (p : List Int) : part k p 0 = p := by simp [part, scl]
theorem part_end (k : Int) (p : List Int) : part k p p.length = scl k p := by simp [part]
theorem part_get {k : Int} {p : List Int} {m : Nat} {x : Int} (h : p[m]? = some x) : (part k p m)[m]? = some x := by
  have hm := (List.getElem?_eq_some_iff.1 h).1
  unfold part
  rw [List.getElem?_append_right (by rw [scl_len, List.length_take]; omega), scl_len, List.length_take, Nat.min_eq_left (by omega), List.getElem?_drop]
  simpa using h
theorem part_set {k : Int} {p : List Int} {m : Nat} {x : Int} (h : p[m]? = some x) : (part k p m).set m (x * k % 10007) = part k p (m + 1) := by
  have hm := (List.getElem?_eq_some_iff.1 h).1
  unfold part
  rw [scl_take h, List.set_append_right _ _ (by rw [scl_len, List.length_take]; omega), scl_len, List.length_take, Nat.min_eq_left (by omega), Nat.sub_self, List.append_assoc]
  congr 1
  rw [List.drop_eq_getElem_cons hm]
  rfl
set_option maxHeartbeats 2000000 in
theorem s_l11Lagrange (w : World) (v : Value) (zs : List Int) (j : Nat) (ha : Ints w v zs) (hN : Nums zs) (hn : zs.length ≤ 900) (hj : j < zs.length) :
    Calls Try.prog 194 #[v, .int .i64 (j : Int)] w fun e w' => ∃ r, e = .returned r ∧ OwnInts w' w.heap.size tI r (lag zs j) ∧ Below w.heap.size w w' := by
  obtain ⟨A, c, rfl, l1, l2, h3⟩ := ha.open_
  have H3 := Lib.hid h3
  have HN := Lib.hid hN
  clear h3 ha hN
  obtain ⟨adj', cj, rfl, hcj, -, hcj0⟩ := H3.out j hj
  have HCJ := Lib.hid (show zs.getD j 0 = cj by simp [List.getD, hcj])
  have hcn := HN.out cj (List.mem_of_getElem? hcj)
  have HCC := Lib.hid hcj0
  clear hcj hcj0
  have OL := Lib.hid (own_lit w tI [.int .i64 1] (by simp [maxLen]))
  go_enter Try.func194, Try.ntmps194
  go_wp2_with fail
  go_loopw [5, 6, 7] (fun o u i wr => ∃ m : Nat, m ≤ zs.length ∧ i = .int .i64 m ∧ u = .int .i64 (valN cj zs j m) ∧ OwnInts wr w.heap.size tI o (facN zs j m) ∧ Below w.heap.size w wr) (fun _ _ i _ => zs.length - (intOf i).toNat)
  case atStart => exact ⟨0, Nat.zero_le _, rfl, rfl, ⟨by simpa [facN, ints] using OL.out, nums_in (facN_nums _ _ _)⟩, below1 _ _⟩
  case round =>
    obtain ⟨m, hm, rfl, rfl, hown, hb⟩ := hrel
    clear OL
    have HO := Lib.hid hown
    have HB := Lib.hid hb
    clear hown hb
    have hvb := valN_bd cj zs j m
    by_cases hlt : m < zs.length
    · by_cases hmj : m = j
      · have HF := Lib.hid (show facN zs j (m + 1) = facN zs j m by rw [facN, if_pos hmj])
        have HV := Lib.hid (show valN cj zs j (m + 1) = valN cj zs j m by rw [valN, if_pos hmj])
        subst hmj
        go_wp2_with fail
        go_roundw
        case rel => exact ⟨m + 1, by omega, by go_num, by rw [HV.out], by rw [HF.out]; exact HO.out, HB.out⟩
        case measure => simp [intOf]; omega
      · obtain ⟨ad, x, he, hx, -, hc0⟩ := H3.out m hlt
        simp only [Option.some.injEq] at he
        subst he
        have hxn := HN.out x (List.mem_of_getElem? hx)
        have hc : wr.cell? (adj'.add m) = some (.int .i64 x) := by
          rw [HB.out.cell (by rw [block_add]; have := World.block_lt_of_cell? w _ hc0; rwa [block_add] at this)]; exact hc0
        have hgx : zs.getD m 0 = x := by simp [List.getD, hx]
        have HF := Lib.hid (show facN zs j (m + 1) = tl (facN zs j m) x by rw [facN, if_neg hmj, hgx])
        have HV := Lib.hid (show valN cj zs j (m + 1) = valN cj zs j m * ((cj - x) % 10007) % 10007 by rw [valN, if_neg hmj, hgx])
        have hne : ¬ (m : Int) = (j : Int) := by omega
        have hmi : (m : Int) < (zs.length : Int) := by omega
        have hji : (j : Int) < (zs.length : Int) := by omega
        clear hx hgx
        generalize valN cj zs j m = u at hvb HV
        go_wp2_with fail
        refine (s_l11Factor _ _ (facN zs j m) x (by exact HO.out.ints) (facN_nums _ _ _) (by have := facN_len zs j m; omega) hxn.1 hxn.2).mono ?_
        rintro e w2 ⟨v2, rfl, ho2, hb2⟩
        have HB2 := Lib.hid (HB.out.trans (hb2.mono HB.out.size))
        have HO2 := Lib.hid (ho2.mono HB.out.size)
        have hcx : w2.cell? (adj'.add m) = some (.int .i64 x) := by
          rw [HB2.out.cell (by rw [block_add]; have := World.block_lt_of_cell? w _ hc0; rwa [block_add] at this)]; exact hc0
        have hcc : w2.cell? (adj'.add j) = some (.int .i64 cj) := by
          rw [HB2.out.cell (by rw [block_add]; have := World.block_lt_of_cell? w _ HCC.out; rwa [block_add] at this)]; exact HCC.out
        clear hc hc0 ho2 hb2
        go_wp2_with fail
        go_quiet ((first | (go_at_call 183; first | exact quiet_same (s_l01Sub _ _ _ (by omega) (by omega) (by omega) (by omega)) | exact quiet_same0 (s_l01Sub _ _ _ (by omega) (by omega) (by omega) (by omega))) | (go_at_call 122; first | exact quiet_same (s_l01Mul _ _ _ (by omega) (by omega) (by omega) (by omega)) | exact quiet_same0 (s_l01Mul _ _ _ (by omega) (by omega) (by omega) (by omega)))))
        go_wp2_with fail
        go_roundw
        case rel => exact ⟨m + 1, by omega, by go_num, by rw [HV.out], by rw [HF.out]; exact HO2.out, below_drewN HB2.out _⟩
        case measure => simp [intOf]; omega
    · have : m = zs.length := by omega
      subst this
      have HLG := Lib.hid (show lag zs j = scl (pw (valN cj zs j zs.length) 10005) (facN zs j zs.length) by unfold lag; rw [HCJ.out, lagI_eq])
      have hpl := facN_len zs j zs.length
      have HPN := Lib.hid (facN_nums zs j zs.length)
      generalize facN zs j zs.length = P at HO HLG hpl HPN
      generalize valN cj zs j zs.length = u at hvb HLG
      rcases HO.out.1.cases with ⟨rfl, hz⟩ | ⟨g, cap, cur, hov, hB, hg, -, hcap, hcm, -⟩
      · have := congrArg List.length hz
        simp [ints] at this
        subst this
        simp at hpl
      · rw [ints_len] at hov hcap
        subst hov
        have hcap2 : cap ≤ 9223372036854775807 := by simpa [maxLen] using hcm
        have hkb := pw_bd u 10005
        have HQ := Lib.hid HO.out.1
        clear HO hcm
        go_wp2_with fail
        go_loopw [8] (fun i w' => ∃ m : Nat, m ≤ P.length ∧ i = .int .i64 m ∧ Own w' w.heap.size tI (.slice (some ⟨g, 0, none⟩) P.length cap) (ints (part (pw u 10005) P m)) ∧ Below w.heap.size w w') (fun i _ => P.length - (intOf i).toNat)
        case atStart => exact ⟨0, Nat.zero_le _, rfl, by rw [part_zero]; exact HQ.out, HB.out⟩
        case round =>
          obtain ⟨m, hm, rfl, hown, hb⟩ := hrel
          clear HQ HB
          have HB := Lib.hid hb
          clear hb
          by_cases hlt2 : m < P.length
          · have hx : P[m]? = some P[m] := List.getElem?_eq_getElem hlt2
            generalize P[m] = x at hx
            have hxn := HPN.out x (List.mem_of_getElem? hx)
            have e1 := ints_get (part_get (k := pw u 10005) hx)
            have HPS := Lib.hid (part_set (k := pw u 10005) hx)
            obtain ⟨u0, hu0, hcg, hfg, hg2, hg1, hown', hgr'⟩ := hown.storeAt (k := m) (by simp [ints, part_len]; omega) (.int .i64 (x * pw u 10005 % 10007))
            obtain rfl : Value.int .i64 x = u0 := by rw [e1] at hu0; simpa using hu0
            have HO := Lib.hid hown'
            have HB2 := Lib.hid (HB.out.setCell (p := ⟨g, m, none⟩) hg1 (.int .i64 (x * pw u 10005 % 10007)))
            have hmi : (m : Int) < (P.length : Int) := by omega
            clear hown hown' hu0 e1 hgr' hx
            go_wp2_with fail
            go_region_law (first | (go_simp; go_at_call 124; refine (s_l01Inv _ _ (by omega) (by omega)).mono ?_; rintro e w' ⟨rfl, rfl⟩) | (go_simp; go_at_call 122; refine (s_l01Mul _ _ _ (by omega) (by omega) (by omega) (by omega)).mono ?_; rintro e w' ⟨rfl, rfl⟩))
            all_goals
              go_wp2_with fail
              go_roundw
              case rel =>
                refine ⟨m + 1, by omega, by go_num, ?_, HB2.out.drew⟩
                rw [← HPS.out]
                have h := HO.out
                simp only [ints, List.map_set] at h ⊢
                exact h
              case measure => simp [intOf]; omega
          · have : m = P.length := by omega
            subst this
            rw [part_end, ← HLG.out] at hown
            have HO := Lib.hid hown
            have HIN := Lib.hid (show ∀ z ∈ lag zs j, In64 z by rw [HLG.out]; exact scl_in _ _)
            clear hown
            go_wp2_with fail
            go_ret
            exact ⟨_, rfl, ⟨HO.out, HIN.out⟩, HB.out⟩
end Go.Proofs.Ytbjeibcombjfgaa

set_option maxRecDepth 100000
set_option linter.unusedVariables false
set_option linter.unusedSimpArgs false
namespace Go.Proofs.Ytbjeibcombjfgaa
open Go.RowKit

def nodeOf (r : List Int) : Int := sumF id r % 10007
def nodesOf (A : List (List Int)) : List Int := A.map nodeOf
theorem nodesOf_nums (A : List (List Int)) : Nums (nodesOf A) := by
  intro z hz
  obtain ⟨r, _, rfl⟩ := List.mem_map.1 hz
  unfold nodeOf
  omega
theorem nodesOf_len (A : List (List Int)) : (nodesOf A).length = A.length := by simp [nodesOf]
theorem nodesOf_take {A : List (List Int)} {j : Nat} {r : List Int} (h : A[j]? = some r) : nodesOf (A.take (j + 1)) = nodesOf (A.take j) ++ [nodeOf r] := by
  unfold nodesOf
  rw [List.take_add_one, h]; simp
theorem sumF_id_bd {r : List Int} (h : Nums r) : 0 ≤ sumF id r ∧ sumF id r ≤ r.length * 10006 := sumF_bd id 10006 r (fun x hx => h x hx)

set_option maxHeartbeats 2000000 in
theorem im_nodes (w : World) (v : Value) (A : List (List Int)) (Bs : List Int) (ha : TabArg w v A Bs) (hT : NumTab A Bs) :
    Calls Try.prog 217 #[v] w fun e w' => ∃ r, e = .returned r ∧ OwnInts w' w.heap.size tI r (nodesOf A) ∧ Below w.heap.size w w' := by
  obtain ⟨va, vb, rfl, hA, hB⟩ := ha
  obtain ⟨A1, c1, rfl, l1, l2, h3⟩ := hA.open_
  obtain ⟨A2, c2, rfl, -, -, -⟩ := hB.open_
  have H3 := Lib.hid h3
  have hal := hT.la
  have HT := Lib.hid hT
  have OL := Lib.hid ((own_lit (w.alloc (.cells #[.slice A1 A.length c1, .slice A2 Bs.length c2] 27)) tI [] (by simp [maxLen])).mono (B' := w.heap.size) (by simp))
  have B0 := Lib.hid (below2 w (.cells #[.slice A1 A.length c1, .slice A2 Bs.length c2] 27) (.cells #[] tI))
  clear hA hB h3 hT
  go_enter Try.func217, Try.ntmps217
  go_wp2_with fail
  go_loopw [3, 13] (fun o i wr => ∃ j : Nat, j ≤ A.length ∧ i = .int .i64 (j : Int) ∧ Own wr w.heap.size tI o (ints (nodesOf (A.take j))) ∧ Below w.heap.size w wr) (fun _ i _ => A.length - (intOf i).toNat)
  case atStart => exact ⟨0, Nat.zero_le _, rfl, by simpa [nodesOf, ints] using OL.out, B0.out⟩
  case round =>
    obtain ⟨j, hj, rfl, hown, hb⟩ := hrel
    clear OL
    have HO := Lib.hid hown
    have HB := Lib.hid hb
    clear hown hb
    by_cases hlt : j < A.length
    · obtain ⟨ad, u, zs, rfl, hz, hu, hc0⟩ := H3.out j hlt
      have hc : wr.cell? (ad.add j) = some u := by
        rw [HB.out.cell (by rw [block_add]; have := World.block_lt_of_cell? w _ hc0; rwa [block_add] at this)]; exact hc0
      obtain ⟨A5, c5, rfl, p1, p2, hu3⟩ := (hu.below HB.out).open_
      have HU := Lib.hid hu3
      have HZN := Lib.hid (HT.out.rows zs (List.mem_of_getElem? hz)).1
      have hzl := (HT.out.rows zs (List.mem_of_getElem? hz)).2
      have HS := Lib.hid (nodesOf_take hz)
      clear hz hu hc0 hu3
      go_wp2_with fail
      go_loopw [6, 19] (fun s k wi => ∃ m : Nat, m ≤ zs.length ∧ k = .int .i64 m ∧ s = .int .i64 (sumF id (zs.take m)) ∧ wi = wr) (fun _ k _ => zs.length - (intOf k).toNat)
      case atStart => exact ⟨0, Nat.zero_le _, rfl, rfl, rfl⟩
      case round =>
        obtain ⟨m, hm, rfl, rfl, rfl⟩ := hrel
        by_cases hlt2 : m < zs.length
        · obtain ⟨ad5, x, rfl, hx, -, hcx⟩ := HU.out m hlt2
          have hxn := HZN.out x (List.mem_of_getElem? hx)
          have HX := Lib.hid (sumF_take id hx)
          have hsb := sumF_id_bd (r := zs.take m) (fun z hz => HZN.out z (List.mem_of_mem_take hz))
          have hsl : ((zs.take m).length : Int) ≤ 1000 := by rw [List.length_take]; omega
          clear hx
          generalize (zs.take m).length = q at hsb hsl
          generalize sumF id (zs.take m) = s at hsb HX
          go_wp2_with fail
          go_roundw
          case rel => exact ⟨m + 1, by omega, by go_num, by rw [HX.out]; rfl, trivial⟩
          case measure => simp [intOf]; omega
        · have : m = zs.length := by omega
          subst this
          rw [List.take_length]
          have hsb := sumF_id_bd HZN.out
          have HND := Lib.hid (show sumF id zs % 10007 = nodeOf zs from rfl)
          generalize sumF id zs = s at hsb HND
          have hsl : (zs.length : Int) ≤ 1000 := by omega
          go_wp2_with (first
            | (go_at_call 108; refine (i_num _ _ (by omega) (by omega)).mono ?_; rintro e w' ⟨rfl, rfl⟩)
            | (at_builtin; refine wpList_app1 T_int HO.out (by rw [ints_len, nodesOf_len, List.length_take]; omega) HB.out.size (by rfl) rfl (by rfl) (by rfl) (by rfl) ?_; intro v1 w1 hown1 hgr1))
          go_roundw
          case rel =>
            refine ⟨j + 1, by omega, by go_num, ?_, hgr1.below HB.out HB.out.size HO.out.ge⟩
            rw [HS.out, ← HND.out]
            simpa [ints] using hown1
          case measure => simp [intOf]; omega
    · have : j = A.length := by omega
      subst this
      rw [List.take_length] at HO
      go_wp2_with fail
      go_ret
      exact ⟨_, rfl, ⟨HO.out, nums_in (nodesOf_nums _)⟩, HB.out⟩

set_option maxHeartbeats 1000000 in
theorem s_l09Ones (w : World) (n : Nat) (hn : n ≤ 1000) :
    Calls Try.prog 190 #[.int .i64 (n : Int)] w fun e w' => ∃ r, e = .returned r ∧ OwnInts w' w.heap.size tI r (List.replicate n 1) ∧ Below w.heap.size w w' := by
  have OL := Lib.hid (own_lit w tI [] (by simp [maxLen]))
  go_enter Try.func190, Try.ntmps190
  go_wp2_with fail
  go_loopw [3, 0] (fun o i wr => ∃ j : Nat, j ≤ n ∧ i = .int .i64 ((n : Int) - (j : Int)) ∧ Own wr w.heap.size tI o (ints (List.replicate j 1)) ∧ Below w.heap.size w wr) (fun _ i _ => (intOf i).toNat)
  case atStart => exact ⟨0, Nat.zero_le _, by simp, by simpa [ints] using OL.out, below1 _ _⟩
  case round =>
    obtain ⟨j, hj, rfl, hown, hb⟩ := hrel
    clear OL
    have HO := Lib.hid hown
    have HB := Lib.hid hb
    clear hown hb
    by_cases hlt : j < n
    · have hge : 0 < (n : Int) - (j : Int) := by omega
      have HR := Lib.hid (show (List.replicate (j + 1) (1 : Int)) = List.replicate j 1 ++ [1] from List.replicate_succ')
      go_wp2_with (at_builtin; refine wpList_app1 T_int HO.out (by rw [ints_len, List.length_replicate]; omega) HB.out.size (by rfl) rfl (by rfl) (by rfl) (by rfl) ?_; intro v1 w1 hown1 hgr1)
      go_roundw
      case rel =>
        refine ⟨j + 1, by omega, by congr 1; omega, ?_, hgr1.below HB.out HB.out.size HO.out.ge⟩
        rw [HR.out]
        simpa [ints] using hown1
      case measure => simp [intOf]; omega
    · have : j = n := by omega
      subst this
      have hneg : ¬ (0 : Int) < (j : Int) - (j : Int) := by omega
      go_wp2_with fail
      go_ret
      exact ⟨_, rfl, ⟨HO.out, fun z hz => by have := (List.mem_replicate.1 hz).2; subst this; unfold In64; omega⟩, HB.out⟩

set_option maxHeartbeats 1000000 in
theorem s_l01DotOnes (w : World) (v vo : Value) (zs : List Int) (n : Nat) (ha : Ints w v zs) (ho : Ints w vo (List.replicate n 1)) (hN : Nums zs) (hl : zs.length ≤ n) (hn : n ≤ 1000) :
    Calls Try.prog 214 #[v, vo] w fun e w' => e = .returned (.int .i64 (nodeOf zs)) ∧ ∃ n, w' = w.drewN n := by
  obtain ⟨A, c, rfl, l1, l2, h3⟩ := ha.open_
  obtain ⟨A', c', rfl, l1', l2', g3⟩ := ho.open_
  rw [List.length_replicate] at l1' g3 ⊢
  have H3 := Lib.hid h3
  have G3 := Lib.hid g3
  have HN := Lib.hid hN
  clear ha ho h3 g3 hN
  go_enter Try.func214, Try.ntmps214
  go_wp2_with fail
  go_loopw [5, 6] (fun s i wr => ∃ m q : Nat, m ≤ zs.length ∧ i = .int .i64 m ∧ s = .int .i64 (nodeOf (zs.take m)) ∧ wr = w.drewN q) (fun _ i _ => zs.length - (intOf i).toNat)
  case atStart => exact ⟨0, 0, Nat.zero_le _, rfl, rfl, rfl⟩
  case round =>
    obtain ⟨m, q, hm, rfl, rfl, rfl⟩ := hrel
    by_cases hlt : m < zs.length
    · obtain ⟨ad, x, rfl, hx, -, hcx⟩ := H3.out m hlt
      obtain ⟨ad', y, rfl, hy, -, hcy⟩ := G3.out m (by omega)
      have hy1 : y = 1 := by
        rw [List.getElem?_replicate, if_pos (by omega)] at hy
        simpa using hy.symm
      subst hy1
      have hxn := HN.out x (List.mem_of_getElem? hx)
      have HX := Lib.hid (show nodeOf (zs.take (m + 1)) = (nodeOf (zs.take m) + x * 1 % 10007) % 10007 by unfold nodeOf; rw [sumF_take id hx]; simp only [id]; omega)
      have hnb : 0 ≤ nodeOf (zs.take m) ∧ nodeOf (zs.take m) ≤ 10006 := by unfold nodeOf; omega
      have hmi : (m : Int) < (zs.length : Int) := by omega
      have hmn : (m : Int) < (n : Int) := by omega
      have hmn' : m < n := by omega
      clear hx hy
      generalize nodeOf (zs.take m) = s at hnb HX
      go_wp2_with fail
      go_quiet ((first | (go_at_call 122; exact quiet_same (s_l01Mul _ _ _ (by omega) (by omega) (by omega) (by omega))) | (go_at_call 182; exact quiet_same (s_l01Add _ _ _ (by omega) (by omega) (by omega) (by omega)))))
      go_wp2_with fail
      go_roundw
      case rel =>
        refine ⟨m + 1, _, by omega, by go_num, ?_, rfl⟩
        rw [HX.out]
        congr 1
        omega
      case measure => simp [intOf]; omega
    · have : m = zs.length := by omega
      subst this
      rw [List.take_length]
      go_wp2_with fail
      go_ret
      exact ⟨rfl, _, rfl⟩

set_option maxHeartbeats 1000000 in
theorem s_l09TimesOnes (w : World) (v vo : Value) (A : List (List Int)) (n : Nat) (ha : Rows w v A) (ho : Ints w vo (List.replicate n 1)) (hN : ∀ zs ∈ A, Nums zs ∧ zs.length ≤ n) (hal : A.length ≤ 1000) (hn : n ≤ 1000) :
    Calls Try.prog 189 #[v, vo] w fun e w' => ∃ r, e = .returned r ∧ OwnInts w' w.heap.size tI r (nodesOf A) ∧ Below w.heap.size w w' := by
  obtain ⟨A1, c1, rfl, l1, l2, h3⟩ := ha.open_
  obtain ⟨A', c', rfl, l1', l2', -⟩ := ho.open_
  rw [List.length_replicate] at l1' ho ⊢
  have H3 := Lib.hid h3
  have HP := Lib.hid ho
  have HN := Lib.hid hN
  clear ha ho h3 hN
  have OL := Lib.hid (own_lit w tI [] (by simp [maxLen]))
  go_enter Try.func189, Try.ntmps189
  go_wp2_with fail
  go_loopw [5, 6] (fun o i wr => ∃ j : Nat, j ≤ A.length ∧ i = .int .i64 j ∧ Own wr w.heap.size tI o (ints (nodesOf (A.take j))) ∧ Below w.heap.size w wr) (fun _ i _ => A.length - (intOf i).toNat)
  case atStart => exact ⟨0, Nat.zero_le _, rfl, by simpa [nodesOf, ints] using OL.out, below1 _ _⟩
  case round =>
    obtain ⟨j, hj, rfl, hown, hb⟩ := hrel
    clear OL
    have HO := Lib.hid hown
    have HB := Lib.hid hb
    clear hown hb
    by_cases hlt : j < A.length
    · obtain ⟨ad, u, zs, rfl, hz, hu, hc0⟩ := H3.out j hlt
      have hc : wr.cell? (ad.add j) = some u := by
        rw [HB.out.cell (by rw [block_add]; have := World.block_lt_of_cell? w _ hc0; rwa [block_add] at this)]; exact hc0
      have HU := Lib.hid (hu.below HB.out)
      have HQ := Lib.hid (HP.out.below HB.out)
      have HZN := Lib.hid (HN.out zs (List.mem_of_getElem? hz))
      have HS := Lib.hid (nodesOf_take hz)
      have hji : (j : Int) < (A.length : Int) := by omega
      clear hz hu hc0
      go_wp2_with (first
        | (go_at_call 214; refine (s_l01DotOnes _ _ _ zs n (by exact HU.out) (by exact HQ.out) HZN.out.1 HZN.out.2 hn).mono ?_; rintro e w5 ⟨rfl, n5, rfl⟩)
        | (at_builtin; refine wpList_app1 T_int (show Own (wr.drewN n5) w.heap.size tI _ (ints (nodesOf (A.take j))) from HO.out) (by rw [ints_len, nodesOf_len, List.length_take]; omega) HB.out.size (by rfl) rfl (by rfl) (by rfl) (by rfl) ?_; intro v1 w1 hown1 hgr1))
      go_roundw
      case rel =>
        refine ⟨j + 1, by omega, by go_num, ?_, hgr1.below (below_drewN HB.out _) HB.out.size HO.out.ge⟩
        rw [HS.out]
        simpa [ints] using hown1
      case measure => simp [intOf]; omega
    · have : j = A.length := by omega
      subst this
      rw [List.take_length] at HO
      go_wp2_with fail
      go_ret
      exact ⟨_, rfl, ⟨HO.out, nums_in (nodesOf_nums _)⟩, HB.out⟩
end Go.Proofs.Ytbjeibcombjfgaa

