/- Walks: maps that are drawn by the reference (l07Draw, l07DrawAny, l08Draw). | Walks of helpers of the laws: likeInts, whole9, big. | Plain: sums over tables of places, one put into the other (convolutions and substitutions alike), with normal forms that the kernel compares. No walk. | Plain: polynomials in the values of a map (monomials are sorted lists of places, coefficients numbers), and what they say of numbers. No walk. -/
import Derived.Test.YtdjhfeaimmpmhaaGreatZh3
import Derived.Test.YtdjhfeaimmpmhaaGreatZh20
import Derived.Test.YtdjhfeaimmpmhaaGreatZh28
import Derived.Test.YtdjhfeaimmpmhaaGreatZh1
import Derived.Test.YtdjhfeaimmpmhaaGreatZh2
set_option maxRecDepth 100000
set_option linter.unusedVariables false
set_option linter.unusedSimpArgs false
namespace Go.Proofs.YtdjhfeaimmpmhaaGreat
open Go.RowKit

/-- 38 numbers of one's own -/
def M38 (w : World) (C g cap : Nat) : Prop := ∃ us, OwnInts w C tI (.slice (some ⟨g, 0, none⟩) 38 cap) us ∧ us.length = 38 ∧ Nums us
theorem M38.src {w w' : World} {C p g cap : Nat} (h : M38 w C g cap) (hp : p < C) (hg : w.grownBy w' (some p)) : M38 w' C g cap := by
  obtain ⟨us, h1, h2, h3⟩ := h
  exact ⟨us, ⟨h1.1.src hp hg, h1.2⟩, h2, h3⟩
theorem M38.below {w w' : World} {C g cap : Nat} (h : M38 w C g cap) (hb : Below w.heap.size w w') : M38 w' C g cap := by
  obtain ⟨us, h1, h2, h3⟩ := h
  exact ⟨us, h1.below hb, h2, h3⟩
theorem M38.mono {w : World} {C C' g cap : Nat} (h : M38 w C g cap) (hC : C' ≤ C) : M38 w C' g cap := by
  obtain ⟨us, h1, h2, h3⟩ := h
  exact ⟨us, h1.mono hC, h2, h3⟩
theorem M38.ge {w : World} {C g cap : Nat} (h : M38 w C g cap) : C ≤ g := by
  obtain ⟨us, h1, h2, h3⟩ := h
  exact h1.1.ge g rfl
theorem M38.cap {w : World} {C g cap : Nat} (h : M38 w C g cap) : 38 ≤ cap := by
  obtain ⟨us, h1, h2, h3⟩ := h
  obtain ⟨A', c', e, h5, -⟩ := h1.1.cells.open_
  rw [ints_len, h2] at e h5
  simp only [Value.slice.injEq] at e
  omega
theorem M38.of {w : World} {C : Nat} {v : Value} {us : List Int} (h : OwnInts w C tI v us) (hl : us.length = 38) (hn : Nums us) : ∃ g cap, v = .slice (some ⟨g, 0, none⟩) 38 cap ∧ M38 w C g cap := by
  rcases h.1.cases with ⟨-, he⟩ | ⟨g, cap, cur, he, -⟩
  · have h1 := congrArg List.length he; rw [ints_len, hl] at h1; cases h1
  · rw [ints_len, hl] at he; subst he; exact ⟨g, cap, rfl, us, h, hl, hn⟩
theorem nums_set {us : List Int} (h : Nums us) {z : Int} (hz : 0 ≤ z ∧ z ≤ 10006) (k : Nat) : Nums (us.set k z) := fun y hy => by
  rcases List.mem_or_eq_of_mem_set hy with h1 | rfl
  · exact h y h1
  · exact hz
theorem M38.set_ {w : World} {C g cap k : Nat} (h : M38 w C g cap) (hk : k < 38) {z : Int} (hz : 0 ≤ z ∧ z ≤ 10006) :
    (∃ u0, w.cell? ⟨g, k, none⟩ = some u0) ∧ w.frozen? ⟨g, k, none⟩ = false ∧ M38 (w.setCell ⟨g, k, none⟩ (.int .i64 z)) C g cap ∧ w.grownBy (w.setCell ⟨g, k, none⟩ (.int .i64 z)) (some g) := by
  obtain ⟨us, h1, h2, h3⟩ := h
  obtain ⟨hu, hf, ho, hg⟩ := h1.setAt (k := k) (by omega) (in64_n hz)
  exact ⟨hu, hf, ⟨_, ho, by rw [List.length_set]; exact h2, nums_set h3 hz k⟩, hg⟩
theorem M38.dr {w : World} {C g cap : Nat} (h : M38 w C g cap) : DrM w C g 0 38 cap := by
  obtain ⟨us, h1, h2, h3⟩ := h
  exact ⟨⟨cap, us, h1, h2, rfl⟩, rfl, by omega⟩
theorem M38.dr1 {w : World} {C g cap : Nat} (h : M38 w C g cap) : DrM w C g 1 37 (cap - 1) := by
  have hc := h.cap
  obtain ⟨us, h1, h2, h3⟩ := h
  exact ⟨⟨cap, us, h1, h2, by omega⟩, rfl, by omega⟩
set_option maxHeartbeats 4000000 in
theorem s_l01Spoil (w : World) (B p : Nat) (h : Src w B tSc p) :
    Calls Tryz.prog 53 #[at0 p] w fun e w' => ∃ z, e = .returned (.int .i64 z) ∧ In64 z ∧ w.grownBy w' (some p) ∧ Src w' B tSc p := by
  have HN := Lib.hid (s_l01Next w B p 30 h (by omega) (by omega))
  have hpl := h.lt
  clear h
  go_enter Tryz.func53, Tryz.ntmps53
  go_upto_if 5 with (go_at_call 50; go_loud (refine HN.out.mono ?_; rintro e w1 ⟨x, rfl, x0, x1, hg, hs⟩; have HG := Lib.hid hg; have HS := Lib.hid hs; clear hg hs x0 x1))
  have hpl1 : p < w1.heap.size := Nat.lt_of_lt_of_le hpl HG.out.size
  by_cases hx : x = 0
  · have hd0 : (x == 0) = true := by simp [hx]
    rw [hd0]
    have HL := Lib.hid (lit_keep w1 p [-1, 10007, 1099511627776, -4611686018427387904] (by intro z hz; simp at hz; unfold In64; omega) (by simp) hpl1)
    have HSL := Lib.hid (HS.out.below (below1 w1 (.cells (ints [-1, 10007, 1099511627776, -4611686018427387904]).toArray tI)))
    have HPK := Lib.hid (s_l01Pick _ B p _ [-1, 10007, 1099511627776, -4611686018427387904] HSL.out HL.out (by simp) (by simp))
    clear hx hd0
    go_wp2_with (go_at_call 52; go_loud (refine HPK.out.mono ?_; rintro e w2 ⟨y, rfl, hy, hg, hs⟩; have HG2 := Lib.hid (gtrans (gtrans HG.out (gof (below1 w1 _))) hg); have HS2 := Lib.hid hs; have HY := Lib.hid hy; clear hg hs hy))
    go_ret
    exact ⟨_, rfl, by have := HY.out; simp at this; unfold In64; omega, HG2.out, HS2.out⟩
  · have hd0 : (x == 0) = false := by simp [hx]
    rw [hd0]
    clear hx hd0
    go_wp2_with (go_at_call 112; go_loud (refine (s_l01Number _ B p HS.out).mono ?_; rintro e w2 ⟨y, rfl, hy, hg, hs⟩; have HG2 := Lib.hid (gtrans HG.out hg); have HS2 := Lib.hid hs; have HY := Lib.hid hy; clear hg hs hy))
    go_ret
    exact ⟨_, rfl, in64_n HY.out, HG2.out, HS2.out⟩
set_option maxHeartbeats 16000000 in
theorem s_l07Draw (w : World) (B p : Nat) (f : Int) (h : Src w B tSc p) (hf : 0 ≤ f ∧ f ≤ 10006) :
    Calls Tryz.prog 182 #[at0 p, .int .i64 f] w fun e w' => ∃ g cap, e = .returned (.slice (some ⟨g, 0, none⟩) 38 cap) ∧ M38 w' w.heap.size g cap ∧ w.grownBy w' (some p) ∧ Src w' B tSc p := by
  have hpl := h.lt
  have HBp := Lib.hid h.ge
  have HF := Lib.hid hf
  have OL := Lib.hid (show Own (w.alloc (.cells #[.int .i64 f] tI)) w.heap.size tI (.slice (some ⟨w.heap.size, 0, none⟩) 1 1) (ints [f]) from own_lit w tI [.int .i64 f] (by simp [maxLen]))
  have HS0 := Lib.hid (h.below (below1 w (.cells #[.int .i64 f] tI)))
  have HG0 := Lib.hid (show w.grownBy (w.alloc (.cells #[.int .i64 f] tI)) (some p) from gof (below1 w _))
  have HN := Lib.hid (s_l01Next _ B p 6 HS0.out (by omega) (by omega))
  clear h hf
  go_enter Tryz.func182, Tryz.ntmps182
  go_upto_region 3 with (go_at_call 50; go_loud (refine HN.out.mono ?_; rintro e w1 ⟨x, rfl, x0, x1, hg, hs⟩; have HG1 := Lib.hid (gtrans HG0.out hg); have HS1 := Lib.hid hs; have HO1 := Lib.hid (OL.out.src hpl hg); clear hg hs x0 x1))
  clear OL HS0 HG0 HN
  by_cases hx : x = 0
  · have hd0 : (x == 0) = true := by simp [hx]
    clear hx HO1
    go_upto_region 5 with (go_at_call 91; go_loud (refine (s_l07Exact _).mono ?_; rintro e w2 ⟨x2, rfl, ho2, hb2⟩; obtain ⟨g, cap, rfl, hm⟩ := M38.of ho2 EX_len EX_nums; have HM2 := Lib.hid hm; have HG2 := Lib.hid (gtrans HG1.out (gof hb2)); have HS2 := Lib.hid (HS1.out.below hb2); have hgw : w.heap.size ≤ g := Nat.le_trans HG1.out.size hm.ge; clear ho2 hb2 hm))
    have hgp : g ≠ p := by omega
    have HM2 := Lib.hid (HM2.out.mono HG1.out.size)
    obtain ⟨⟨u0, hu0⟩, hfr, ho3, hg3⟩ := HM2.out.set_ (k := 0) (by omega) HF.out
    have HM3 := Lib.hid ho3
    have HG3 := Lib.hid (gthen HG2.out hg3 (by rintro b ⟨⟩; exact hgw))
    have HS3 := Lib.hid (HS2.out.kept hg3 (by intro e; injection e with e; exact hgp e) (by rintro b ⟨⟩; have := HBp.out; omega))
    clear ho3 hg3
    go_upto_region 6 with fail
    generalize w2.setCell ⟨g, 0, none⟩ (.int .i64 f) = w3 at HM3 HG3 HS3 ⊢
    clear hu0 hfr HM2 HG2 HS2 hd0
    go_upto_if 20 with (go_at_call 50; go_loud (refine (s_l01Next _ B p 2 HS3.out (by omega) (by omega)).mono ?_; rintro e w4 ⟨y, rfl, y0, y1, hg, hs⟩; have HG4 := Lib.hid (gtrans HG3.out hg); have HS4 := Lib.hid hs; have HM4 := Lib.hid (HM3.out.src hpl hg); clear hg hs y0 y1))
    go_cut [5] (fun v wx => ∃ g cap, v = .slice (some ⟨g, 0, none⟩) 38 cap ∧ M38 wx w.heap.size g cap ∧ w.grownBy wx (some p) ∧ Src wx B tSc p)
    case first =>
      go_wp2_with (first
        | (go_at_call 112; go_loud (refine (s_l01Number _ B p HS4.out).mono ?_; rintro e w5 ⟨q, rfl, hq, hg, hs⟩; have HG5 := Lib.hid (gtrans HG4.out hg); have HS5 := Lib.hid hs; have HQ := Lib.hid hq; have HM5 := Lib.hid (HM4.out.src hpl hg); obtain ⟨us, hus, hul, hun⟩ := HM5.out; have HUS := Lib.hid hus.ints; have HUL := Lib.hid (And.intro hul hun); clear hg hs hq hus hul hun))
        | (go_at_call 139; go_loud ((with_reducible refine (s_l07Scale _ _ us q HUS.out HUL.out.1 HUL.out.2 HQ.out.1 HQ.out.2).mono ?_); rintro e w6 ⟨x6, rfl, ho6, hb6⟩; obtain ⟨g6, cap6, rfl, hm6⟩ := M38.of ho6 (scZ_len _ _) (scZ_nums _ _); have HM6 := Lib.hid (hm6.mono HG5.out.size); have HG6 := Lib.hid (gtrans HG5.out (gof hb6)); have HS6 := Lib.hid (HS5.out.below hb6); clear ho6 hb6 hm6)))
      · go_meet
        exact ⟨_, _, rfl, HM6.out, HG6.out, HS6.out⟩
      · go_meet
        exact ⟨_, _, rfl, HM4.out, HG4.out, HS4.out⟩
    case rest =>
      obtain ⟨g7, cap7, rfl, hm, hg, hs⟩ := hcut
      have HM7 := Lib.hid hm
      have HG7 := Lib.hid hg
      have HS7 := Lib.hid hs
      clear hm hg hs HM4 HG4 HS4 HM3 HG3 HS3 hgp hgw
      go_wp2_with (go_at_call 50; go_loud (refine (s_l01Next _ B p 3 HS7.out (by omega) (by omega)).mono ?_; rintro e w8 ⟨y, rfl, y0, y1, hg, hs⟩; obtain ⟨m, rfl⟩ : ∃ m : Nat, y = m := ⟨y.toNat, by omega⟩; have hm3 : m ≤ 3 := (by omega); have HG8 := Lib.hid (gtrans HG7.out hg); have HS8 := Lib.hid hs; have HM8 := Lib.hid (HM7.out.src hpl hg); clear hg hs y0 y1))
      go_loopw [6] (fun x wr => ∃ m : Nat, m ≤ 3 ∧ x = .int .i64 m ∧ M38 wr w.heap.size g7 cap7 ∧ w.grownBy wr (some p) ∧ Src wr B tSc p) (fun x _ => (intOf x).toNat)
      case atStart => exact ⟨m, hm3, rfl, HM8.out, HG8.out, HS8.out⟩
      case round =>
        obtain ⟨m, hm3, rfl, hm, hg, hs⟩ := hrel
        rename World => wq
        clear HM7 HG7 HS7 HM8 HG8 HS8
        have HM := Lib.hid hm
        have HG := Lib.hid hg
        have HS := Lib.hid hs
        have hgw : w.heap.size ≤ g7 := hm.ge
        have hgp : g7 ≠ p := by omega
        clear hm hg hs
        by_cases hlt : 0 < m
        · have hll : (0 : Int) < (m : Int) := by omega
          have hmd : decide (0 < m) = true := decide_eq_true hlt
          go_wp2_with (first
            | (go_at_call 50; go_loud (refine (s_l01Next _ B p 37 HS.out (by omega) (by omega)).mono ?_; rintro e w9 ⟨y, rfl, y0, y1, hg, hs⟩; obtain ⟨k, rfl⟩ : ∃ k : Nat, y = k := ⟨y.toNat, by omega⟩; have hk37 : k < 37 := (by omega); have hwk : wrap64 (1 + (k : Int)) = 1 + (k : Int) := w64_dr _ (by omega); have hkc : 1 + (k : Int) < 38 := (by omega); have hkd : (1 + (k : Int)).toNat = 1 + k := (by omega); have HG9 := Lib.hid (gtrans HG.out hg); have HS9 := Lib.hid hs; have HM9 := Lib.hid (HM.out.src hpl hg); clear hg hs y0 y1))
            | (go_at_call 112; go_loud (refine (s_l01Number _ B p HS9.out).mono ?_; rintro e w10 ⟨z, rfl, hz, hg, hs⟩; have HG10 := Lib.hid (gtrans HG9.out hg); have HS10 := Lib.hid hs; have HM10 := Lib.hid (HM9.out.src hpl hg); obtain ⟨⟨u1, hu1⟩, hfr1, ho11, hg11⟩ := HM10.out.set_ (k := 1 + k) (by omega) hz; have HM11 := Lib.hid ho11; have HG11 := Lib.hid (gthen HG10.out hg11 (by rintro b ⟨⟩; exact hgw)); have HS11 := Lib.hid (HS10.out.kept hg11 (by intro e; injection e with e; exact hgp e) (by rintro b ⟨⟩; have := HBp.out; omega)); clear hg hs hz ho11 hg11)))
          go_roundw
          case rel => exact ⟨m - 1, by omega, by rw [show ((m - 1 : Nat) : Int) = (m : Int) - 1 by omega], HM11.out, HG11.out, HS11.out⟩
          case measure => simp [intOf]; omega
        · have hm0 : m = 0 := by omega
          subst hm0
          go_wp2_with fail
          go_ret
          exact ⟨_, _, rfl, HM.out, HG.out, HS.out⟩
  · have hd0 : (x == 0) = false := by simp [hx]
    by_cases hx1 : x = 1
    · have hd1 : (x == 1) = true := by simp [hx1]
      clear hx hx1 HO1
      have hgw0 : w.heap.size ≤ w1.heap.size := HG1.out.size
      go_upto_region 15 with (at_make; refine wpList_mk rfl _ _ _ rfl _ _ _ T_int 38 _ rfl rfl rfl (by omega) _ ?_; intro w2 hown hb2 hs2; have HM2 := Lib.hid (show M38 w2 w.heap.size w1.heap.size 38 from ⟨List.replicate 38 0, ⟨(show Own w2 w1.heap.size tI _ (ints (List.replicate 38 0)) from hown).mono hgw0, fun z hz => by rw [List.eq_of_mem_replicate hz]; unfold In64; omega⟩, by simp, fun z hz => by rw [List.eq_of_mem_replicate hz]; omega⟩); have HG2 := Lib.hid (gtrans HG1.out (gof hb2)); have HS2 := Lib.hid (HS1.out.below hb2); clear hown hb2 hs2)
      generalize w1.heap.size = g7 at hgw0 HM2 ⊢
      have hgp : g7 ≠ p := by omega
      obtain ⟨⟨u0, hu0⟩, hfr, ho3, hg3⟩ := HM2.out.set_ (k := 0) (by omega) HF.out
      have HM3 := Lib.hid ho3
      have HG3 := Lib.hid (gthen HG2.out hg3 (by rintro b ⟨⟩; exact hgw0))
      have HS3 := Lib.hid (HS2.out.kept hg3 (by intro e; injection e with e; exact hgp e) (by rintro b ⟨⟩; have := HBp.out; omega))
      clear ho3 hg3
      go_upto_region 16 with fail
      generalize w2.setCell ⟨g7, 0, none⟩ (.int .i64 f) = w3 at HM3 HG3 HS3 ⊢
      clear hu0 hfr HM2 HG2 HS2
      go_wp2_with (go_at_call 50; go_loud (refine (s_l01Next _ B p 4 HS3.out (by omega) (by omega)).mono ?_; rintro e w8 ⟨y, rfl, y0, y1, hg, hs⟩; obtain ⟨m, rfl⟩ : ∃ m : Nat, y = m := ⟨y.toNat, by omega⟩; have hm3 : m + 1 ≤ 4 := (by omega); have hwm : wrap64 (1 + (m : Int)) = 1 + (m : Int) := w64_dr _ (by omega); have HG8 := Lib.hid (gtrans HG3.out hg); have HS8 := Lib.hid hs; have HM8 := Lib.hid (HM3.out.src hpl hg); clear hg hs y0 y1))
      go_loopw [7] (fun x wr => ∃ m : Nat, m ≤ 4 ∧ x = .int .i64 m ∧ M38 wr w.heap.size g7 38 ∧ w.grownBy wr (some p) ∧ Src wr B tSc p) (fun x _ => (intOf x).toNat)
      case atStart => exact ⟨m + 1, hm3, by simp [Int.add_comm], HM8.out, HG8.out, HS8.out⟩
      case round =>
        obtain ⟨m, hm3, rfl, hm, hg, hs⟩ := hrel
        rename World => wq
        clear HM3 HG3 HS3 HM8 HG8 HS8
        have HM := Lib.hid hm
        have HG := Lib.hid hg
        have HS := Lib.hid hs
        clear hm hg hs
        by_cases hlt : 0 < m
        · have hll : (0 : Int) < (m : Int) := by omega
          have hmd : decide (0 < m) = true := decide_eq_true hlt
          go_wp2_with (first
            | (go_at_call 50; go_loud (refine (s_l01Next _ B p 8 HS.out (by omega) (by omega)).mono ?_; rintro e w9 ⟨y, rfl, y0, y1, hg, hs⟩; obtain ⟨k, rfl⟩ : ∃ k : Nat, y = k := ⟨y.toNat, by omega⟩; have hk37 : k < 8 := (by omega); have hwk : wrap64 (1 + (k : Int)) = 1 + (k : Int) := w64_dr _ (by omega); have hkc : 1 + (k : Int) < 38 := (by omega); have hkd : (1 + (k : Int)).toNat = 1 + k := (by omega); have HG9 := Lib.hid (gtrans HG.out hg); have HS9 := Lib.hid hs; have HM9 := Lib.hid (HM.out.src hpl hg); clear hg hs y0 y1))
            | (go_at_call 112; go_loud (refine (s_l01Number _ B p HS9.out).mono ?_; rintro e w10 ⟨z, rfl, hz, hg, hs⟩; have HG10 := Lib.hid (gtrans HG9.out hg); have HS10 := Lib.hid hs; have HM10 := Lib.hid (HM9.out.src hpl hg); obtain ⟨⟨u1, hu1⟩, hfr1, ho11, hg11⟩ := HM10.out.set_ (k := 1 + k) (by omega) hz; have HM11 := Lib.hid ho11; have HG11 := Lib.hid (gthen HG10.out hg11 (by rintro b ⟨⟩; exact hgw0)); have HS11 := Lib.hid (HS10.out.kept hg11 (by intro e; injection e with e; exact hgp e) (by rintro b ⟨⟩; have := HBp.out; omega)); clear hg hs hz ho11 hg11)))
          go_roundw
          case rel => exact ⟨m - 1, by omega, by rw [show ((m - 1 : Nat) : Int) = (m : Int) - 1 by omega], HM11.out, HG11.out, HS11.out⟩
          case measure => simp [intOf]; omega
        · have hm0 : m = 0 := by omega
          subst hm0
          go_wp2_with fail
          go_ret
          exact ⟨_, _, rfl, HM.out, HG.out, HS.out⟩
    · have hd1 : (x == 1) = false := by simp [hx1]
      clear hx hx1
      go_wp2_with (first
        | (go_at_call 51; go_loud (refine (s_l01List _ B p 37 HS1.out (by omega)).mono ?_; rintro e w2 ⟨x2, rfl, zs, ho2, lz, nz, hg2, hs2⟩; have HZ := Lib.hid ho2; have HLZ := Lib.hid (And.intro lz nz); have HG2 := Lib.hid (gtrans HG1.out hg2); have HS2 := Lib.hid hs2; have HO2 := Lib.hid (HO1.out.src hpl hg2); clear ho2 lz nz hg2 hs2))
        | (at_builtin; go_loud (refine wpList_appN T_int HO2.out HZ.out.1.cells (by rw [ints_len, ints_len, HLZ.out.1]; simp) HG2.out.size (fun u hu => by simp only [ints, List.mem_map] at hu; obtain ⟨z, -, rfl⟩ := hu; rfl) (by rfl) rfl (by rfl) (by rfl) ?_; intro v3 w3 hown3 hgr3; have HN3 := Lib.hid hown3; have HR3 := Lib.hid hgr3; clear hown3 hgr3)))
      go_ret
      obtain ⟨g, cap, rfl, hm⟩ := M38.of (us := f :: zs) ⟨(show Own w3 w.heap.size tI v3 (ints (f :: zs)) from HN3.out), fun z hz => by
        rcases List.mem_cons.1 hz with rfl | h
        · exact in64_n HF.out
        · exact in64_n (HLZ.out.2 z h)⟩ (by rw [List.length_cons, HLZ.out.1]) (fun z hz => by
        rcases List.mem_cons.1 hz with rfl | h
        · exact HF.out
        · exact HLZ.out.2 z h)
      exact ⟨_, _, rfl, hm, gthen HG2.out HR3.out.1 HO2.out.ge, HS2.out.kept HR3.out.1 (fun e => by have := HO2.out.ge _ e; omega) (fun b hb => Nat.le_trans (Nat.le_trans HS2.out.ge (Nat.le_of_lt hpl)) (HO2.out.ge b hb))⟩
set_option maxHeartbeats 8000000 in
theorem s_l07DrawAny (w : World) (B p : Nat) (h : Src w B tSc p) :
    Calls Tryz.prog 137 #[at0 p] w fun e w' => ∃ g d n m, e = .returned (.slice (some ⟨g, d, none⟩) n m) ∧ DrM w' w.heap.size g d n m ∧ w.grownBy w' (some p) ∧ Src w' B tSc p := by
  have hpl := h.lt
  have HBp := Lib.hid h.ge
  have HD := Lib.hid (s_l07Draw w B p 1 h (by omega))
  clear h
  go_enter Tryz.func137, Tryz.ntmps137
  go_upto_region 3 with (first
    | (go_at_call 182; go_loud (refine HD.out.mono ?_; rintro e w1 ⟨g, cap, rfl, hm, hg, hs⟩; have HM1 := Lib.hid hm; have HG1 := Lib.hid hg; have HS1 := Lib.hid hs; have hgw : w.heap.size ≤ g := hm.ge; have hcap : 38 ≤ cap := hm.cap; clear hm hg hs))
    | (go_at_call 50; go_loud (refine (s_l01Next _ B p 24 HS1.out (by omega) (by omega)).mono ?_; rintro e w2 ⟨x, rfl, x0, x1, hg, hs⟩; have HG2 := Lib.hid (gtrans HG1.out hg); have HS2 := Lib.hid hs; have HM2 := Lib.hid (HM1.out.src hpl hg); clear hg hs x0 x1)))
  have hgp : g ≠ p := by omega
  clear HM1 HG1 HS1
  have HDM := Lib.hid HM2.out.dr
  by_cases hx : x = 0
  · have hd0 : (x == 0) = true := by simp [hx]
    clear hx
    go_wp2_with (go_at_call 50; go_loud (refine (s_l01Next _ B p 3 HS2.out (by omega) (by omega)).mono ?_; rintro e w3 ⟨y, rfl, y0, y1, hg, hs⟩; have HG3 := Lib.hid (gtrans HG2.out hg); have HD3 := Lib.hid (HDM.out.src hpl hg); obtain ⟨⟨u0, hu0⟩, hfr, ho5, hg5⟩ := HD3.out.set_ (k := 0) (by omega) (z := y) (by unfold In64; omega); have HD5 := Lib.hid ho5; have HG5 := Lib.hid (gthen HG3.out hg5 (by rintro b ⟨⟩; exact hgw)); have HS5 := Lib.hid (hs.kept hg5 (by intro e; injection e with e; exact hgp e) (by rintro b ⟨⟩; have := HBp.out; omega)); clear hg hs ho5 hg5 y0 y1))
    go_ret
    exact ⟨g, 0, 38, cap, rfl, HD5.out, HG5.out, HS5.out⟩
  · have hd0 : (x == 0) = false := by simp [hx]
    by_cases hx1 : x = 1
    · have hd1 : (x == 1) = true := by simp [hx1]
      clear hx hx1
      go_wp2_with (first
        | (go_at_call 50; go_loud (refine (s_l01Next _ B p 38 HS2.out (by omega) (by omega)).mono ?_; rintro e w3 ⟨y, rfl, y0, y1, hg, hs⟩; obtain ⟨k, rfl⟩ : ∃ k : Nat, y = k := ⟨y.toNat, by omega⟩; have hk38 : (k : Int) < 38 := (by omega); have HG3 := Lib.hid (gtrans HG2.out hg); have HS3 := Lib.hid hs; have HD3 := Lib.hid (HDM.out.src hpl hg); clear hg hs y0 y1))
        | (go_at_call 53; go_loud (refine (s_l01Spoil _ B p HS3.out).mono ?_; rintro e w4 ⟨z, rfl, hz, hg, hs⟩; have HG4 := Lib.hid (gtrans HG3.out hg); have HD4 := Lib.hid (HD3.out.src hpl hg); obtain ⟨⟨u0, hu0⟩, hfr, ho5, hg5⟩ := HD4.out.set_ (k := k) (by omega) (z := z) hz; rw [Nat.zero_add] at hu0 hfr ho5 hg5; have HD5 := Lib.hid ho5; have HG5 := Lib.hid (gthen HG4.out hg5 (by rintro b ⟨⟩; exact hgw)); have HS5 := Lib.hid (hs.kept hg5 (by intro e; injection e with e; exact hgp e) (by rintro b ⟨⟩; have := HBp.out; omega)); clear hg hs hz ho5 hg5)))
      go_ret
      exact ⟨g, 0, 38, cap, rfl, HD5.out, HG5.out, HS5.out⟩
    · have hd1 : (x == 1) = false := by simp [hx1]
      by_cases hx2 : x = 2
      · have hd2 : (x == 2) = true := by simp [hx2]
        have hsl := fun W => sl1 W g cap hcap
        have HD1 := Lib.hid HM2.out.dr1
        clear hx hx1 hx2
        go_wp2_with fail
        go_ret
        exact ⟨g, 1, 37, cap - 1, rfl, HD1.out, HG2.out, HS2.out⟩
      · have hd2 : (x == 2) = false := by simp [hx2]
        clear hx hx1 hx2
        go_wp2_with fail
        go_ret
        exact ⟨g, 0, 38, cap, rfl, HDM.out, HG2.out, HS2.out⟩
set_option maxHeartbeats 4000000 in
theorem s_l08Draw (w : World) (B p : Nat) (h : Src w B tSc p) :
    Calls Tryz.prog 128 #[at0 p] w fun e w' => ∃ g d n m, e = .returned (.slice (some ⟨g, d, none⟩) n m) ∧ DrM w' w.heap.size g d n m ∧ w.grownBy w' (some p) ∧ Src w' B tSc p := by
  have hpl := h.lt
  have HBp := Lib.hid h.ge
  have HD := Lib.hid (s_l07DrawAny w B p h)
  clear h
  go_enter Tryz.func128, Tryz.ntmps128
  go_wp2_with (first
    | (go_at_call 137; go_loud (refine HD.out.mono ?_; rintro e w1 ⟨g, d, n, m, rfl, hm, hg, hs⟩; have HM1 := Lib.hid hm; have HG1 := Lib.hid hg; have HS1 := Lib.hid hs; have hgw : w.heap.size ≤ g := hm.ge; have hgp : g ≠ p := (by omega); have hnd := hm.nd; have hdl := hm.dl; have hn0 : (0 : Int) < (n : Int) := (by omega); have hn1 : 0 < n := (by omega); clear hm hg hs))
    | (go_at_call 50; go_loud (refine (s_l01Next _ B p 20 HS1.out (by omega) (by omega)).mono ?_; rintro e w3 ⟨y, rfl, y0, y1, hg, hs⟩; have HG3 := Lib.hid (gtrans HG1.out hg); have HS3 := Lib.hid hs; have HD3 := Lib.hid (HM1.out.src hpl hg); obtain ⟨⟨u0, hu0⟩, hfr, ho5, hg5⟩ := HD3.out.set_ (k := 0) (by omega) (z := 0) (by unfold In64; omega); rw [Nat.add_zero] at hu0 hfr ho5 hg5; have HD5 := Lib.hid ho5; have HG5 := Lib.hid (gthen HG3.out hg5 (by rintro b ⟨⟩; exact hgw)); have HS5 := Lib.hid (hs.kept hg5 (by intro e; injection e with e; exact hgp e) (by rintro b ⟨⟩; have := HBp.out; omega)); clear hg hs ho5 hg5 y0 y1)))
  · go_ret
    exact ⟨g, d, n, m, rfl, HD5.out, HG5.out, HS5.out⟩
  · go_ret
    exact ⟨g, d, n, m, rfl, HD3.out, HG3.out, HS3.out⟩
end Go.Proofs.YtdjhfeaimmpmhaaGreat

set_option maxRecDepth 100000
set_option linter.unusedVariables false
set_option linter.unusedSimpArgs false
namespace Go.Proofs.YtdjhfeaimmpmhaaGreat
open Go.RowKit

set_option maxHeartbeats 400000 in
theorem l_likeInts (w : World) (a b : Value) (xs ys : List Int) (ha : Ints w a xs) (hb : Ints w b ys) :
    Calls Tryz.prog 15 #[a, b] w fun e w' => e = .returned (.bool (decide (xs = ys))) ∧ ∃ n, w' = w.drewN n := by
  obtain ⟨A, c, rfl, h1, h2, h3⟩ := ha.open_
  obtain ⟨B, d, rfl, g1, g2, g3⟩ := hb.open_
  clear ha hb
  have H3 := Lib.hid h3
  have G3 := Lib.hid g3
  clear h3 g3
  by_cases hl : xs.length = ys.length
  · have hl' : (((xs.length : Nat) : Int) != ((ys.length : Nat) : Int)) = false := by simp [hl]
    have HL := Lib.hid hl
    clear hl
    have g4 : ys.length ≤ xs.length := by rw [HL.out]; omega
    have g5 : xs.length ≤ ys.length := by rw [HL.out]; omega
    go_enter Tryz.func15, Tryz.ntmps15
    go_wp2
    go_loopw [5] (fun i wr => ∃ k n : Nat, k ≤ xs.length ∧ i = .int .i64 k ∧ xs.take k = ys.take k ∧ wr = w.drewN n) (fun i _ => xs.length - (intOf i).toNat)
    case atStart => exact ⟨0, 0, Nat.zero_le _, rfl, rfl, rfl⟩
    case round =>
      obtain ⟨k, n, hk, rfl, ht, rfl⟩ := hrel
      have HT := Lib.hid ht
      clear ht
      by_cases hlt : k < xs.length
      · obtain ⟨ad, z, rfl, hz, hz2, hc⟩ := H3.out k hlt
        obtain ⟨ad', y, rfl, hy, hy2, hc'⟩ := G3.out k (by omega)
        have HZ := Lib.hid hz
        have HY := Lib.hid hy
        clear hz hy hz2 hy2
        go_wp2
        go_quiet (fail)
        go_wp2
        · have hne : (z != y) = true := by assumption
          go_ret
          refine ⟨ret_bool ?_, _, World.drewN_drewN _ _ _⟩
          symm
          simp only [decide_eq_false_iff_not]
          rintro rfl
          have := HZ.out.symm.trans HY.out
          simp at this hne
          exact hne this
        · have hne : (z != y) = false := by assumption
          go_roundw
          case rel => exact ⟨k + 1, _, by omega, by go_num, take_eq_succ HT.out HZ.out HY.out (by simpa using hne), rfl⟩
          case measure => simp [intOf]; omega
      · have : k = xs.length := by omega
        subst this
        go_wp2
        go_ret
        refine ⟨ret_bool ?_, _, rfl⟩
        have e := HT.out
        rw [List.take_length, List.take_of_length_le (by omega)] at e
        simp [e]
  · have hl' : (((xs.length : Nat) : Int) != ((ys.length : Nat) : Int)) = true := by simp; omega
    have HL := Lib.hid hl
    clear hl
    go_enter Tryz.func15, Tryz.ntmps15
    go_wp2
    go_ret
    refine ⟨ret_bool ?_, 0, rfl⟩
    have := HL.out
    symm
    simp only [decide_eq_false_iff_not]
    rintro rfl
    exact this rfl

set_option maxHeartbeats 400000 in
theorem l_big (w : World) (A : Option Addr) (n c : Nat) :
    Calls Tryz.prog 9 #[.slice A n c] w fun e w' => e = .returned (.bool (decide (4096 < n))) ∧ w = w' := by
  by_cases h : 4096 < n
  · have hd : (4096 : Int) < (n : Int) := by omega
    have HD := Lib.hid (show decide (4096 < n) = true by simp [h])
    clear h
    go_enter Tryz.func9, Tryz.ntmps9
    go_wp2_with fail
    go_ret
    exact ⟨ret_bool HD.out.symm, rfl⟩
  · have hd : ¬ ((4096 : Int) < (n : Int)) := by omega
    have HD := Lib.hid (show decide (4096 < n) = false by simp [h])
    clear h
    go_enter Tryz.func9, Tryz.ntmps9
    go_wp2_with fail
    go_ret
    exact ⟨ret_bool HD.out.symm, rfl⟩
end Go.Proofs.YtdjhfeaimmpmhaaGreat

set_option maxRecDepth 100000
set_option linter.unusedVariables false
set_option linter.unusedSimpArgs false
namespace Go.Proofs.YtdjhfeaimmpmhaaGreat

abbrev Tb := Nat → List MCt
def gv (T : Tb) (a b : Nat → Int) (p : Nat) : Int := sumF (cvT a b) (T p)
/-! ### normal forms -/
end Go.Proofs.YtdjhfeaimmpmhaaGreat

set_option maxRecDepth 100000
set_option linter.unusedVariables false
set_option linter.unusedSimpArgs false
namespace Go.Proofs.YtdjhfeaimmpmhaaGreat

abbrev Tm := List Nat × Nat
abbrev Pol := List Tm
end Go.Proofs.YtdjhfeaimmpmhaaGreat

