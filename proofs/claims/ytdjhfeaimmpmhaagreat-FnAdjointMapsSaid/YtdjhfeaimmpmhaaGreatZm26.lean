/- Walks: maps that are drawn by the reference (l07Draw, l07DrawAny, l08Draw). | Walks: rows and squares of fractions (l09Row, l09Square of the reference). | Walks: l03Nodes, l05Compare, l05Order, l03Root, l03Branches, a copy of a list of lists, l03Times of the reference. -/
import Derived.Test.YtdjhfeaimmpmhaaGreatZm24
import Derived.Test.YtdjhfeaimmpmhaaGreatZm19
import Derived.Test.YtdjhfeaimmpmhaaGreatZm25
import Derived.Test.YtdjhfeaimmpmhaaGreatZm7
import Derived.Test.YtdjhfeaimmpmhaaGreatZm17
import Derived.Test.YtdjhfeaimmpmhaaGreatZm12
import Derived.Test.YtdjhfeaimmpmhaaGreatZm6
set_option maxRecDepth 100000
set_option linter.unusedVariables false
set_option linter.unusedSimpArgs false
namespace Go.Proofs.YtdjhfeaimmpmhaaGreat
open Go.RowKit

/-- 38 numbers of one's own -/
def M38 (w : World) (C g cap : Nat) : Prop := ∃ us, OwnInts w C tI (.slice (some ⟨g, 0, none⟩) 38 cap) us ∧ us.length = 38 ∧ Nums us
theorem M38.src {w w' : World} {C p g cap : Nat} (h : M38 w C g cap) (hp : p < C) (hg : w.grownBy w' (some p)) : M38 w' C g cap := by
  obtain ⟨us, h1, h2, h3⟩ := h
  exact ⟨us, ⟨h1.1.src hp hg, h1.2⟩, h2, h3⟩
theorem M38.below {w w' : World} {C g cap : Nat} (h : M38 w C g cap) (hb : Below w.heap.size w w') : M38 w' C g cap := by
  obtain ⟨us, h1, h2, h3⟩ := h
  exact ⟨us, h1.below hb, h2, h3⟩
theorem M38.mono {w : World} {C C' g cap : Nat} (h : M38 w C g cap) (hC : C' ≤ C) : M38 w C' g cap := by
  obtain ⟨us, h1, h2, h3⟩ := h
  exact ⟨us, h1.mono hC, h2, h3⟩
theorem M38.ge {w : World} {C g cap : Nat} (h : M38 w C g cap) : C ≤ g := by
  obtain ⟨us, h1, h2, h3⟩ := h
  exact h1.1.ge g rfl
theorem M38.cap {w : World} {C g cap : Nat} (h : M38 w C g cap) : 38 ≤ cap := by
  obtain ⟨us, h1, h2, h3⟩ := h
  obtain ⟨A', c', e, h5, -⟩ := h1.1.cells.open_
  rw [ints_len, h2] at e h5
  simp only [Value.slice.injEq] at e
  omega
theorem M38.of {w : World} {C : Nat} {v : Value} {us : List Int} (h : OwnInts w C tI v us) (hl : us.length = 38) (hn : Nums us) : ∃ g cap, v = .slice (some ⟨g, 0, none⟩) 38 cap ∧ M38 w C g cap := by
  rcases h.1.cases with ⟨-, he⟩ | ⟨g, cap, cur, he, -⟩
  · have h1 := congrArg List.length he; rw [ints_len, hl] at h1; cases h1
  · rw [ints_len, hl] at he; subst he; exact ⟨g, cap, rfl, us, h, hl, hn⟩
theorem nums_set {us : List Int} (h : Nums us) {z : Int} (hz : 0 ≤ z ∧ z ≤ 10006) (k : Nat) : Nums (us.set k z) := fun y hy => by
  rcases List.mem_or_eq_of_mem_set hy with h1 | rfl
  · exact h y h1
  · exact hz
theorem M38.set_ {w : World} {C g cap k : Nat} (h : M38 w C g cap) (hk : k < 38) {z : Int} (hz : 0 ≤ z ∧ z ≤ 10006) :
    (∃ u0, w.cell? ⟨g, k, none⟩ = some u0) ∧ w.frozen? ⟨g, k, none⟩ = false ∧ M38 (w.setCell ⟨g, k, none⟩ (.int .i64 z)) C g cap ∧ w.grownBy (w.setCell ⟨g, k, none⟩ (.int .i64 z)) (some g) := by
  obtain ⟨us, h1, h2, h3⟩ := h
  obtain ⟨hu, hf, ho, hg⟩ := h1.setAt (k := k) (by omega) (in64_n hz)
  exact ⟨hu, hf, ⟨_, ho, by rw [List.length_set]; exact h2, nums_set h3 hz k⟩, hg⟩
theorem M38.dr {w : World} {C g cap : Nat} (h : M38 w C g cap) : DrM w C g 0 38 cap := by
  obtain ⟨us, h1, h2, h3⟩ := h
  exact ⟨⟨cap, us, h1, h2, rfl⟩, rfl, by omega⟩
theorem M38.dr1 {w : World} {C g cap : Nat} (h : M38 w C g cap) : DrM w C g 1 37 (cap - 1) := by
  have hc := h.cap
  obtain ⟨us, h1, h2, h3⟩ := h
  exact ⟨⟨cap, us, h1, h2, by omega⟩, rfl, by omega⟩
set_option maxHeartbeats 4000000 in
theorem s_l01Spoil (w : World) (B p : Nat) (h : Src w B tSc p) :
    Calls Tryz.prog 53 #[at0 p] w fun e w' => ∃ z, e = .returned (.int .i64 z) ∧ In64 z ∧ w.grownBy w' (some p) ∧ Src w' B tSc p := by
  have HN := Lib.hid (s_l01Next w B p 30 h (by omega) (by omega))
  have hpl := h.lt
  clear h
  go_enter Tryz.func53, Tryz.ntmps53
  go_upto_if 5 with (go_at_call 50; go_loud (refine HN.out.mono ?_; rintro e w1 ⟨x, rfl, x0, x1, hg, hs⟩; have HG := Lib.hid hg; have HS := Lib.hid hs; clear hg hs x0 x1))
  have hpl1 : p < w1.heap.size := Nat.lt_of_lt_of_le hpl HG.out.size
  by_cases hx : x = 0
  · have hd0 : (x == 0) = true := by simp [hx]
    rw [hd0]
    have HL := Lib.hid (lit_keep w1 p [-1, 10007, 1099511627776, -4611686018427387904] (by intro z hz; simp at hz; unfold In64; omega) (by simp) hpl1)
    have HSL := Lib.hid (HS.out.below (below1 w1 (.cells (ints [-1, 10007, 1099511627776, -4611686018427387904]).toArray tI)))
    have HPK := Lib.hid (s_l01Pick _ B p _ [-1, 10007, 1099511627776, -4611686018427387904] HSL.out HL.out (by simp) (by simp))
    clear hx hd0
    go_wp2_with (go_at_call 52; go_loud (refine HPK.out.mono ?_; rintro e w2 ⟨y, rfl, hy, hg, hs⟩; have HG2 := Lib.hid (gtrans (gtrans HG.out (gof (below1 w1 _))) hg); have HS2 := Lib.hid hs; have HY := Lib.hid hy; clear hg hs hy))
    go_ret
    exact ⟨_, rfl, by have := HY.out; simp at this; unfold In64; omega, HG2.out, HS2.out⟩
  · have hd0 : (x == 0) = false := by simp [hx]
    rw [hd0]
    clear hx hd0
    go_wp2_with (go_at_call 112; go_loud (refine (s_l01Number _ B p HS.out).mono ?_; rintro e w2 ⟨y, rfl, hy, hg, hs⟩; have HG2 := Lib.hid (gtrans HG.out hg); have HS2 := Lib.hid hs; have HY := Lib.hid hy; clear hg hs hy))
    go_ret
    exact ⟨_, rfl, in64_n HY.out, HG2.out, HS2.out⟩
set_option maxHeartbeats 16000000 in
theorem s_l07Draw (w : World) (B p : Nat) (f : Int) (h : Src w B tSc p) (hf : 0 ≤ f ∧ f ≤ 10006) :
    Calls Tryz.prog 182 #[at0 p, .int .i64 f] w fun e w' => ∃ g cap, e = .returned (.slice (some ⟨g, 0, none⟩) 38 cap) ∧ M38 w' w.heap.size g cap ∧ w.grownBy w' (some p) ∧ Src w' B tSc p := by
  have hpl := h.lt
  have HBp := Lib.hid h.ge
  have HF := Lib.hid hf
  have OL := Lib.hid (show Own (w.alloc (.cells #[.int .i64 f] tI)) w.heap.size tI (.slice (some ⟨w.heap.size, 0, none⟩) 1 1) (ints [f]) from own_lit w tI [.int .i64 f] (by simp [maxLen]))
  have HS0 := Lib.hid (h.below (below1 w (.cells #[.int .i64 f] tI)))
  have HG0 := Lib.hid (show w.grownBy (w.alloc (.cells #[.int .i64 f] tI)) (some p) from gof (below1 w _))
  have HN := Lib.hid (s_l01Next _ B p 6 HS0.out (by omega) (by omega))
  clear h hf
  go_enter Tryz.func182, Tryz.ntmps182
  go_upto_region 3 with (go_at_call 50; go_loud (refine HN.out.mono ?_; rintro e w1 ⟨x, rfl, x0, x1, hg, hs⟩; have HG1 := Lib.hid (gtrans HG0.out hg); have HS1 := Lib.hid hs; have HO1 := Lib.hid (OL.out.src hpl hg); clear hg hs x0 x1))
  clear OL HS0 HG0 HN
  by_cases hx : x = 0
  · have hd0 : (x == 0) = true := by simp [hx]
    clear hx HO1
    go_upto_region 5 with (go_at_call 91; go_loud (refine (s_l07Exact _).mono ?_; rintro e w2 ⟨x2, rfl, ho2, hb2⟩; obtain ⟨g, cap, rfl, hm⟩ := M38.of ho2 EX_len EX_nums; have HM2 := Lib.hid hm; have HG2 := Lib.hid (gtrans HG1.out (gof hb2)); have HS2 := Lib.hid (HS1.out.below hb2); have hgw : w.heap.size ≤ g := Nat.le_trans HG1.out.size hm.ge; clear ho2 hb2 hm))
    have hgp : g ≠ p := by omega
    have HM2 := Lib.hid (HM2.out.mono HG1.out.size)
    obtain ⟨⟨u0, hu0⟩, hfr, ho3, hg3⟩ := HM2.out.set_ (k := 0) (by omega) HF.out
    have HM3 := Lib.hid ho3
    have HG3 := Lib.hid (gthen HG2.out hg3 (by rintro b ⟨⟩; exact hgw))
    have HS3 := Lib.hid (HS2.out.kept hg3 (by intro e; injection e with e; exact hgp e) (by rintro b ⟨⟩; have := HBp.out; omega))
    clear ho3 hg3
    go_upto_region 6 with fail
    generalize w2.setCell ⟨g, 0, none⟩ (.int .i64 f) = w3 at HM3 HG3 HS3 ⊢
    clear hu0 hfr HM2 HG2 HS2 hd0
    go_upto_if 20 with (go_at_call 50; go_loud (refine (s_l01Next _ B p 2 HS3.out (by omega) (by omega)).mono ?_; rintro e w4 ⟨y, rfl, y0, y1, hg, hs⟩; have HG4 := Lib.hid (gtrans HG3.out hg); have HS4 := Lib.hid hs; have HM4 := Lib.hid (HM3.out.src hpl hg); clear hg hs y0 y1))
    go_cut [5] (fun v wx => ∃ g cap, v = .slice (some ⟨g, 0, none⟩) 38 cap ∧ M38 wx w.heap.size g cap ∧ w.grownBy wx (some p) ∧ Src wx B tSc p)
    case first =>
      go_wp2_with (first
        | (go_at_call 112; go_loud (refine (s_l01Number _ B p HS4.out).mono ?_; rintro e w5 ⟨q, rfl, hq, hg, hs⟩; have HG5 := Lib.hid (gtrans HG4.out hg); have HS5 := Lib.hid hs; have HQ := Lib.hid hq; have HM5 := Lib.hid (HM4.out.src hpl hg); obtain ⟨us, hus, hul, hun⟩ := HM5.out; have HUS := Lib.hid hus.ints; have HUL := Lib.hid (And.intro hul hun); clear hg hs hq hus hul hun))
        | (go_at_call 139; go_loud ((with_reducible refine (s_l07Scale _ _ us q HUS.out HUL.out.1 HUL.out.2 HQ.out.1 HQ.out.2).mono ?_); rintro e w6 ⟨x6, rfl, ho6, hb6⟩; obtain ⟨g6, cap6, rfl, hm6⟩ := M38.of ho6 (scZ_len _ _) (scZ_nums _ _); have HM6 := Lib.hid (hm6.mono HG5.out.size); have HG6 := Lib.hid (gtrans HG5.out (gof hb6)); have HS6 := Lib.hid (HS5.out.below hb6); clear ho6 hb6 hm6)))
      · go_meet
        exact ⟨_, _, rfl, HM6.out, HG6.out, HS6.out⟩
      · go_meet
        exact ⟨_, _, rfl, HM4.out, HG4.out, HS4.out⟩
    case rest =>
      obtain ⟨g7, cap7, rfl, hm, hg, hs⟩ := hcut
      have HM7 := Lib.hid hm
      have HG7 := Lib.hid hg
      have HS7 := Lib.hid hs
      clear hm hg hs HM4 HG4 HS4 HM3 HG3 HS3 hgp hgw
      go_wp2_with (go_at_call 50; go_loud (refine (s_l01Next _ B p 3 HS7.out (by omega) (by omega)).mono ?_; rintro e w8 ⟨y, rfl, y0, y1, hg, hs⟩; obtain ⟨m, rfl⟩ : ∃ m : Nat, y = m := ⟨y.toNat, by omega⟩; have hm3 : m ≤ 3 := (by omega); have HG8 := Lib.hid (gtrans HG7.out hg); have HS8 := Lib.hid hs; have HM8 := Lib.hid (HM7.out.src hpl hg); clear hg hs y0 y1))
      go_loopw [6] (fun x wr => ∃ m : Nat, m ≤ 3 ∧ x = .int .i64 m ∧ M38 wr w.heap.size g7 cap7 ∧ w.grownBy wr (some p) ∧ Src wr B tSc p) (fun x _ => (intOf x).toNat)
      case atStart => exact ⟨m, hm3, rfl, HM8.out, HG8.out, HS8.out⟩
      case round =>
        obtain ⟨m, hm3, rfl, hm, hg, hs⟩ := hrel
        rename World => wq
        clear HM7 HG7 HS7 HM8 HG8 HS8
        have HM := Lib.hid hm
        have HG := Lib.hid hg
        have HS := Lib.hid hs
        have hgw : w.heap.size ≤ g7 := hm.ge
        have hgp : g7 ≠ p := by omega
        clear hm hg hs
        by_cases hlt : 0 < m
        · have hll : (0 : Int) < (m : Int) := by omega
          have hmd : decide (0 < m) = true := decide_eq_true hlt
          go_wp2_with (first
            | (go_at_call 50; go_loud (refine (s_l01Next _ B p 37 HS.out (by omega) (by omega)).mono ?_; rintro e w9 ⟨y, rfl, y0, y1, hg, hs⟩; obtain ⟨k, rfl⟩ : ∃ k : Nat, y = k := ⟨y.toNat, by omega⟩; have hk37 : k < 37 := (by omega); have hwk : wrap64 (1 + (k : Int)) = 1 + (k : Int) := w64_dr _ (by omega); have hkc : 1 + (k : Int) < 38 := (by omega); have hkd : (1 + (k : Int)).toNat = 1 + k := (by omega); have HG9 := Lib.hid (gtrans HG.out hg); have HS9 := Lib.hid hs; have HM9 := Lib.hid (HM.out.src hpl hg); clear hg hs y0 y1))
            | (go_at_call 112; go_loud (refine (s_l01Number _ B p HS9.out).mono ?_; rintro e w10 ⟨z, rfl, hz, hg, hs⟩; have HG10 := Lib.hid (gtrans HG9.out hg); have HS10 := Lib.hid hs; have HM10 := Lib.hid (HM9.out.src hpl hg); obtain ⟨⟨u1, hu1⟩, hfr1, ho11, hg11⟩ := HM10.out.set_ (k := 1 + k) (by omega) hz; have HM11 := Lib.hid ho11; have HG11 := Lib.hid (gthen HG10.out hg11 (by rintro b ⟨⟩; exact hgw)); have HS11 := Lib.hid (HS10.out.kept hg11 (by intro e; injection e with e; exact hgp e) (by rintro b ⟨⟩; have := HBp.out; omega)); clear hg hs hz ho11 hg11)))
          go_roundw
          case rel => exact ⟨m - 1, by omega, by rw [show ((m - 1 : Nat) : Int) = (m : Int) - 1 by omega], HM11.out, HG11.out, HS11.out⟩
          case measure => simp [intOf]; omega
        · have hm0 : m = 0 := by omega
          subst hm0
          go_wp2_with fail
          go_ret
          exact ⟨_, _, rfl, HM.out, HG.out, HS.out⟩
  · have hd0 : (x == 0) = false := by simp [hx]
    by_cases hx1 : x = 1
    · have hd1 : (x == 1) = true := by simp [hx1]
      clear hx hx1 HO1
      have hgw0 : w.heap.size ≤ w1.heap.size := HG1.out.size
      go_upto_region 15 with (at_make; refine wpList_mk rfl _ _ _ rfl _ _ _ T_int 38 _ rfl rfl rfl (by omega) _ ?_; intro w2 hown hb2 hs2; have HM2 := Lib.hid (show M38 w2 w.heap.size w1.heap.size 38 from ⟨List.replicate 38 0, ⟨(show Own w2 w1.heap.size tI _ (ints (List.replicate 38 0)) from hown).mono hgw0, fun z hz => by rw [List.eq_of_mem_replicate hz]; unfold In64; omega⟩, by simp, fun z hz => by rw [List.eq_of_mem_replicate hz]; omega⟩); have HG2 := Lib.hid (gtrans HG1.out (gof hb2)); have HS2 := Lib.hid (HS1.out.below hb2); clear hown hb2 hs2)
      generalize w1.heap.size = g7 at hgw0 HM2 ⊢
      have hgp : g7 ≠ p := by omega
      obtain ⟨⟨u0, hu0⟩, hfr, ho3, hg3⟩ := HM2.out.set_ (k := 0) (by omega) HF.out
      have HM3 := Lib.hid ho3
      have HG3 := Lib.hid (gthen HG2.out hg3 (by rintro b ⟨⟩; exact hgw0))
      have HS3 := Lib.hid (HS2.out.kept hg3 (by intro e; injection e with e; exact hgp e) (by rintro b ⟨⟩; have := HBp.out; omega))
      clear ho3 hg3
      go_upto_region 16 with fail
      generalize w2.setCell ⟨g7, 0, none⟩ (.int .i64 f) = w3 at HM3 HG3 HS3 ⊢
      clear hu0 hfr HM2 HG2 HS2
      go_wp2_with (go_at_call 50; go_loud (refine (s_l01Next _ B p 4 HS3.out (by omega) (by omega)).mono ?_; rintro e w8 ⟨y, rfl, y0, y1, hg, hs⟩; obtain ⟨m, rfl⟩ : ∃ m : Nat, y = m := ⟨y.toNat, by omega⟩; have hm3 : m + 1 ≤ 4 := (by omega); have hwm : wrap64 (1 + (m : Int)) = 1 + (m : Int) := w64_dr _ (by omega); have HG8 := Lib.hid (gtrans HG3.out hg); have HS8 := Lib.hid hs; have HM8 := Lib.hid (HM3.out.src hpl hg); clear hg hs y0 y1))
      go_loopw [7] (fun x wr => ∃ m : Nat, m ≤ 4 ∧ x = .int .i64 m ∧ M38 wr w.heap.size g7 38 ∧ w.grownBy wr (some p) ∧ Src wr B tSc p) (fun x _ => (intOf x).toNat)
      case atStart => exact ⟨m + 1, hm3, by simp [Int.add_comm], HM8.out, HG8.out, HS8.out⟩
      case round =>
        obtain ⟨m, hm3, rfl, hm, hg, hs⟩ := hrel
        rename World => wq
        clear HM3 HG3 HS3 HM8 HG8 HS8
        have HM := Lib.hid hm
        have HG := Lib.hid hg
        have HS := Lib.hid hs
        clear hm hg hs
        by_cases hlt : 0 < m
        · have hll : (0 : Int) < (m : Int) := by omega
          have hmd : decide (0 < m) = true := decide_eq_true hlt
          go_wp2_with (first
            | (go_at_call 50; go_loud (refine (s_l01Next _ B p 8 HS.out (by omega) (by omega)).mono ?_; rintro e w9 ⟨y, rfl, y0, y1, hg, hs⟩; obtain ⟨k, rfl⟩ : ∃ k : Nat, y = k := ⟨y.toNat, by omega⟩; have hk37 : k < 8 := (by omega); have hwk : wrap64 (1 + (k : Int)) = 1 + (k : Int) := w64_dr _ (by omega); have hkc : 1 + (k : Int) < 38 := (by omega); have hkd : (1 + (k : Int)).toNat = 1 + k := (by omega); have HG9 := Lib.hid (gtrans HG.out hg); have HS9 := Lib.hid hs; have HM9 := Lib.hid (HM.out.src hpl hg); clear hg hs y0 y1))
            | (go_at_call 112; go_loud (refine (s_l01Number _ B p HS9.out).mono ?_; rintro e w10 ⟨z, rfl, hz, hg, hs⟩; have HG10 := Lib.hid (gtrans HG9.out hg); have HS10 := Lib.hid hs; have HM10 := Lib.hid (HM9.out.src hpl hg); obtain ⟨⟨u1, hu1⟩, hfr1, ho11, hg11⟩ := HM10.out.set_ (k := 1 + k) (by omega) hz; have HM11 := Lib.hid ho11; have HG11 := Lib.hid (gthen HG10.out hg11 (by rintro b ⟨⟩; exact hgw0)); have HS11 := Lib.hid (HS10.out.kept hg11 (by intro e; injection e with e; exact hgp e) (by rintro b ⟨⟩; have := HBp.out; omega)); clear hg hs hz ho11 hg11)))
          go_roundw
          case rel => exact ⟨m - 1, by omega, by rw [show ((m - 1 : Nat) : Int) = (m : Int) - 1 by omega], HM11.out, HG11.out, HS11.out⟩
          case measure => simp [intOf]; omega
        · have hm0 : m = 0 := by omega
          subst hm0
          go_wp2_with fail
          go_ret
          exact ⟨_, _, rfl, HM.out, HG.out, HS.out⟩
    · have hd1 : (x == 1) = false := by simp [hx1]
      clear hx hx1
      go_wp2_with (first
        | (go_at_call 51; go_loud (refine (s_l01List _ B p 37 HS1.out (by omega)).mono ?_; rintro e w2 ⟨x2, rfl, zs, ho2, lz, nz, hg2, hs2⟩; have HZ := Lib.hid ho2; have HLZ := Lib.hid (And.intro lz nz); have HG2 := Lib.hid (gtrans HG1.out hg2); have HS2 := Lib.hid hs2; have HO2 := Lib.hid (HO1.out.src hpl hg2); clear ho2 lz nz hg2 hs2))
        | (at_builtin; go_loud (refine wpList_appN T_int HO2.out HZ.out.1.cells (by rw [ints_len, ints_len, HLZ.out.1]; simp) HG2.out.size (fun u hu => by simp only [ints, List.mem_map] at hu; obtain ⟨z, -, rfl⟩ := hu; rfl) (by rfl) rfl (by rfl) (by rfl) ?_; intro v3 w3 hown3 hgr3; have HN3 := Lib.hid hown3; have HR3 := Lib.hid hgr3; clear hown3 hgr3)))
      go_ret
      obtain ⟨g, cap, rfl, hm⟩ := M38.of (us := f :: zs) ⟨(show Own w3 w.heap.size tI v3 (ints (f :: zs)) from HN3.out), fun z hz => by
        rcases List.mem_cons.1 hz with rfl | h
        · exact in64_n HF.out
        · exact in64_n (HLZ.out.2 z h)⟩ (by rw [List.length_cons, HLZ.out.1]) (fun z hz => by
        rcases List.mem_cons.1 hz with rfl | h
        · exact HF.out
        · exact HLZ.out.2 z h)
      exact ⟨_, _, rfl, hm, gthen HG2.out HR3.out.1 HO2.out.ge, HS2.out.kept HR3.out.1 (fun e => by have := HO2.out.ge _ e; omega) (fun b hb => Nat.le_trans (Nat.le_trans HS2.out.ge (Nat.le_of_lt hpl)) (HO2.out.ge b hb))⟩
set_option maxHeartbeats 8000000 in
theorem s_l07DrawAny (w : World) (B p : Nat) (h : Src w B tSc p) :
    Calls Tryz.prog 137 #[at0 p] w fun e w' => ∃ g d n m, e = .returned (.slice (some ⟨g, d, none⟩) n m) ∧ DrM w' w.heap.size g d n m ∧ w.grownBy w' (some p) ∧ Src w' B tSc p := by
  have hpl := h.lt
  have HBp := Lib.hid h.ge
  have HD := Lib.hid (s_l07Draw w B p 1 h (by omega))
  clear h
  go_enter Tryz.func137, Tryz.ntmps137
  go_upto_region 3 with (first
    | (go_at_call 182; go_loud (refine HD.out.mono ?_; rintro e w1 ⟨g, cap, rfl, hm, hg, hs⟩; have HM1 := Lib.hid hm; have HG1 := Lib.hid hg; have HS1 := Lib.hid hs; have hgw : w.heap.size ≤ g := hm.ge; have hcap : 38 ≤ cap := hm.cap; clear hm hg hs))
    | (go_at_call 50; go_loud (refine (s_l01Next _ B p 24 HS1.out (by omega) (by omega)).mono ?_; rintro e w2 ⟨x, rfl, x0, x1, hg, hs⟩; have HG2 := Lib.hid (gtrans HG1.out hg); have HS2 := Lib.hid hs; have HM2 := Lib.hid (HM1.out.src hpl hg); clear hg hs x0 x1)))
  have hgp : g ≠ p := by omega
  clear HM1 HG1 HS1
  have HDM := Lib.hid HM2.out.dr
  by_cases hx : x = 0
  · have hd0 : (x == 0) = true := by simp [hx]
    clear hx
    go_wp2_with (go_at_call 50; go_loud (refine (s_l01Next _ B p 3 HS2.out (by omega) (by omega)).mono ?_; rintro e w3 ⟨y, rfl, y0, y1, hg, hs⟩; have HG3 := Lib.hid (gtrans HG2.out hg); have HD3 := Lib.hid (HDM.out.src hpl hg); obtain ⟨⟨u0, hu0⟩, hfr, ho5, hg5⟩ := HD3.out.set_ (k := 0) (by omega) (z := y) (by unfold In64; omega); have HD5 := Lib.hid ho5; have HG5 := Lib.hid (gthen HG3.out hg5 (by rintro b ⟨⟩; exact hgw)); have HS5 := Lib.hid (hs.kept hg5 (by intro e; injection e with e; exact hgp e) (by rintro b ⟨⟩; have := HBp.out; omega)); clear hg hs ho5 hg5 y0 y1))
    go_ret
    exact ⟨g, 0, 38, cap, rfl, HD5.out, HG5.out, HS5.out⟩
  · have hd0 : (x == 0) = false := by simp [hx]
    by_cases hx1 : x = 1
    · have hd1 : (x == 1) = true := by simp [hx1]
      clear hx hx1
      go_wp2_with (first
        | (go_at_call 50; go_loud (refine (s_l01Next _ B p 38 HS2.out (by omega) (by omega)).mono ?_; rintro e w3 ⟨y, rfl, y0, y1, hg, hs⟩; obtain ⟨k, rfl⟩ : ∃ k : Nat, y = k := ⟨y.toNat, by omega⟩; have hk38 : (k : Int) < 38 := (by omega); have HG3 := Lib.hid (gtrans HG2.out hg); have HS3 := Lib.hid hs; have HD3 := Lib.hid (HDM.out.src hpl hg); clear hg hs y0 y1))
        | (go_at_call 53; go_loud (refine (s_l01Spoil _ B p HS3.out).mono ?_; rintro e w4 ⟨z, rfl, hz, hg, hs⟩; have HG4 := Lib.hid (gtrans HG3.out hg); have HD4 := Lib.hid (HD3.out.src hpl hg); obtain ⟨⟨u0, hu0⟩, hfr, ho5, hg5⟩ := HD4.out.set_ (k := k) (by omega) (z := z) hz; rw [Nat.zero_add] at hu0 hfr ho5 hg5; have HD5 := Lib.hid ho5; have HG5 := Lib.hid (gthen HG4.out hg5 (by rintro b ⟨⟩; exact hgw)); have HS5 := Lib.hid (hs.kept hg5 (by intro e; injection e with e; exact hgp e) (by rintro b ⟨⟩; have := HBp.out; omega)); clear hg hs hz ho5 hg5)))
      go_ret
      exact ⟨g, 0, 38, cap, rfl, HD5.out, HG5.out, HS5.out⟩
    · have hd1 : (x == 1) = false := by simp [hx1]
      by_cases hx2 : x = 2
      · have hd2 : (x == 2) = true := by simp [hx2]
        have hsl := fun W => sl1 W g cap hcap
        have HD1 := Lib.hid HM2.out.dr1
        clear hx hx1 hx2
        go_wp2_with fail
        go_ret
        exact ⟨g, 1, 37, cap - 1, rfl, HD1.out, HG2.out, HS2.out⟩
      · have hd2 : (x == 2) = false := by simp [hx2]
        clear hx hx1 hx2
        go_wp2_with fail
        go_ret
        exact ⟨g, 0, 38, cap, rfl, HDM.out, HG2.out, HS2.out⟩
end Go.Proofs.YtdjhfeaimmpmhaaGreat

set_option maxRecDepth 100000
set_option linter.unusedVariables false
set_option linter.unusedSimpArgs false
namespace Go.Proofs.YtdjhfeaimmpmhaaGreat
open Go.RowKit

/-- n numbers -/
def Nl (n : Nat) (zs : List Int) : Prop := zs.length = n ∧ Nums zs
/-- a square of numbers -/
def Sqm (m n : Nat) (xss : List (List Int)) : Prop := xss.length = m ∧ ∀ zs ∈ xss, Nl n zs
theorem Nl.snoc {n : Nat} {zs : List Int} {z : Int} (h : Nl n zs) (hz : 0 ≤ z ∧ z ≤ 10006) : Nl (n + 1) (zs ++ [z]) := by
  refine ⟨by rw [List.length_append, h.1]; rfl, fun y hy => ?_⟩
  rcases List.mem_append.1 hy with hy | hy
  · exact h.2 y hy
  · simp at hy; subst hy; exact hz
theorem Nl.in64 {n : Nat} {zs : List Int} (h : Nl n zs) : ∀ z ∈ zs, In64 z := fun z hz => by have := h.2 z hz; unfold In64; omega
theorem Sqm.snoc {m n : Nat} {xss : List (List Int)} {zs : List Int} (h : Sqm m n xss) (hz : Nl n zs) : Sqm (m + 1) n (xss ++ [zs]) := by
  refine ⟨by rw [List.length_append, h.1]; rfl, fun y hy => ?_⟩
  rcases List.mem_append.1 hy with hy | hy
  · exact h.2 y hy
  · simp at hy; subst hy; exact hz
theorem Nl.nil : Nl 0 [] := ⟨rfl, fun z hz => by simp at hz⟩
theorem Sqm.nil (n : Nat) : Sqm 0 n [] := ⟨rfl, fun z hz => by simp at hz⟩
theorem ownNl {w : World} {B n : Nat} {v : Value} {zs : List Int} (h : Nl n zs) (ho : Own w B tI v (ints zs)) : OwnInts w B tI v zs := ⟨ho, h.in64⟩
/-- one more row -/
theorem LA.push {w w2 w3 : World} {B : Nat} {v v' r : Value} {xss : List (List Int)} {zs : List Int} {vs : List Value} (h1 : Own w B tL v vs) (h2 : RR w B vs xss) (h3 : vs.Pairwise Apart) (hb : Below w.heap.size w w2) (hr : OwnInts w2 w.heap.size tI r zs) (hB : B ≤ w.heap.size) (ho : Own w3 B tL v' (vs ++ [r])) (hg : w2.grownBy w3 v.ownBlock) :
    RR w3 B (vs ++ [r]) (xss ++ [zs]) ∧ (vs ++ [r]).Pairwise Apart :=
  ⟨LL.snoc (h1.below hb) (h2.below hb) (hr.mono hB) ho hg, pairApart_snoc h3 (h2.fresh (Nat.le_refl _) hr.1.ge)⟩
end Go.Proofs.YtdjhfeaimmpmhaaGreat

set_option maxRecDepth 100000
set_option linter.unusedVariables false
set_option linter.unusedSimpArgs false
namespace Go.Proofs.YtdjhfeaimmpmhaaGreat
open Go.RowKit

set_option maxHeartbeats 4000000 in
theorem s_l03Nodes (w : World) (v : Value) (f : List (List Nat)) (ha : Rows w v (f.map up)) (hn : ndN f ≤ 1000000) :
    Calls Tryz.prog 261 #[v] w fun e w' => e = .returned (.int .i64 (ndN f : Nat)) ∧ w = w' := by
  obtain ⟨A, c, rfl, l1, l2, h3⟩ := rowsAt ha
  have H3 := Lib.hid h3
  have HNT := Lib.hid (ndN_take f)
  clear ha h3
  go_enter Tryz.func261, Tryz.ntmps261
  go_wp2_with fail
  go_loopw [3, 4] (fun s i wr => ∃ k : Nat, k ≤ f.length ∧ i = .int .i64 k ∧ s = .int .i64 (ndN (f.take k) : Nat) ∧ w = wr) (fun _ i _ => f.length - (intOf i).toNat)
  case atStart => exact ⟨0, Nat.zero_le _, rfl, by simp [ndN], rfl⟩
  case round =>
    obtain ⟨k, hk, rfl, rfl, rfl⟩ := hrel
    have hnt := HNT.out k
    by_cases hlt : k < f.length
    · obtain ⟨ad, q, A5, c5, rfl, hq, hiq, hcq⟩ := H3.out k hlt
      have HS := Lib.hid (show ndN (f.take (k + 1)) = ndN (f.take k) + q.length from by rw [List.take_add_one, hq]; exact ndN_snoc _ _)
      have hnt1 := HNT.out (k + 1)
      have hnt2 : ndN (f.take k) + q.length ≤ 1000000 := by rw [← HS.out]; omega
      have hki : (k : Int) < (f.length : Int) := by omega
      clear hq hiq hnt1
      generalize ndN (f.take k) = s at *
      have hw1 : IntKind.i64.wrap ((s : Int) + (q.length : Int)) = (s : Int) + (q.length : Int) := IntWalk.i64_in _ (by omega)
      go_wp2_with fail
      go_roundw
      case rel => clear hw1; exact ⟨k + 1, by omega, by go_num, by rw [HS.out]; congr 1, by first | rfl | trivial⟩
      case measure => clear hw1; simp [intOf]; omega
    · have hkl : k = f.length := by omega
      have HS := Lib.hid (show ndN (f.take k) = ndN f from by rw [hkl, List.take_length])
      rw [HS.out]
      go_wp2_with fail
      go_ret
      exact ⟨rfl, rfl⟩

theorem scan5_step {f g : List (List Nat)} {k : Nat} {x y : List Nat} (hx : f[k]? = some x) (hy : g[k]? = some y) : scan5 (f.drop k) (g.drop k) = bif befN x y then 1 else bif befN y x then 2 else scan5 (f.drop (k + 1)) (g.drop (k + 1)) := by
  obtain ⟨h1, h2⟩ := List.getElem?_eq_some_iff.1 hx
  obtain ⟨g1, g2⟩ := List.getElem?_eq_some_iff.1 hy
  rw [List.drop_eq_getElem_cons h1, List.drop_eq_getElem_cons g1, h2, g2, scan5]
set_option maxHeartbeats 4000000 in
theorem s_l05Compare (w : World) (v v' : Value) (f g : List (List Nat)) (ha : Rows w v (f.map up)) (hb : Rows w v' (g.map up)) :
    Calls Tryz.prog 262 #[v, v'] w fun e w' => e = .returned (.int .i64 (cod5 (cmp5 f g))) ∧ ∃ n, w' = w.drewN n := by
  obtain ⟨A, c, rfl, l1, l2, h3⟩ := rowsAt ha
  obtain ⟨B, d, rfl, m1, m2, g3⟩ := rowsAt hb
  have H3 := Lib.hid h3
  have G3 := Lib.hid g3
  clear ha hb h3 g3
  by_cases h : f.length = g.length
  · have HE := Lib.hid (show cmp5 f g = scan5 f g from by unfold cmp5; rw [h, Nat.beq_refl, cond_true])
    rw [HE.out]
    have hd : ((f.length : Int) != (g.length : Int)) = false := by simp [h]
    obtain ⟨m, hm⟩ : ∃ m, m = f.length := ⟨_, rfl⟩
    rw [← h]
    rw [← h] at G3 hd m1
    rw [← hm] at H3 G3 hd l1 m1 ⊢
    have HM := Lib.hid hm
    have HMG := Lib.hid (hm.trans h)
    clear h hm hd
    go_enter Tryz.func262, Tryz.ntmps262
    have hd : ((m : Int) != (m : Int)) = false := by simp
    go_wp2_with fail
    go_loopw [5] (fun i wr => ∃ k n : Nat, k ≤ m ∧ i = .int .i64 k ∧ Hid (scan5 f g = scan5 (f.drop k) (g.drop k)) ∧ wr = w.drewN n) (fun i _ => m - (intOf i).toNat)
    case atStart => exact ⟨0, 0, Nat.zero_le _, rfl, rfl, rfl⟩
    case round =>
      obtain ⟨k, n, hk, rfl, hI, rfl⟩ := hrel
      by_cases hlt : k < m
      · obtain ⟨ad, q, A5, c5, rfl, hq, hiq, hcq⟩ := H3.out k hlt
        obtain ⟨ad', q', A6, c6, rfl, hq', hiq', hcq'⟩ := G3.out k hlt
        have hst := scan5_step hq hq'
        have HI2 := Lib.hid (hI.out.trans hst)
        have hki : (k : Int) < (m : Int) := by omega
        have hb1 := fun n => s_l03Before (w.drewN n) _ _ q q' (hiq.drewN n) (hiq'.drewN n)
        have hb2 := fun n => s_l03Before (w.drewN n) _ _ q' q (hiq'.drewN n) (hiq.drewN n)
        cases e1 : befN q q' with
        | true =>
          rw [e1] at hb1
          have HBF := Lib.hid hb1
          have HV := Lib.hid (show cod5 (scan5 f g) = -1 from by rw [HI2.out, e1]; rfl)
          clear hb1 hb2 hq hq' hiq hiq' hst hI HI2 e1
          go_upto_region 8 with fail
          go_quiet ((go_at_call 206; first | exact quiet_more (HBF.out _) | exact quiet_more0 (HBF.out _)))
          go_wp2_with fail
          go_ret
          exact ⟨ret_i64 HV.out.symm, _, by first | rfl | exact World.drewN_drewN .. | (rw [World.drewN_drewN]; exact World.drewN_drewN ..)⟩
        | false =>
          rw [e1] at hb1
          have HBF := Lib.hid hb1
          cases e2 : befN q' q with
          | true =>
            rw [e2] at hb2
            have HBG := Lib.hid hb2
            have HV := Lib.hid (show cod5 (scan5 f g) = 1 from by rw [HI2.out, e1, e2]; rfl)
            clear hb1 hb2 hq hq' hiq hiq' hst hI HI2 e1 e2
            go_upto_region 8 with fail
            go_quiet ((go_at_call 206; first | exact quiet_more (HBF.out _) | exact quiet_more0 (HBF.out _)))
            go_upto_region 10 with fail
            go_quiet ((go_at_call 206; first | exact quiet_more (HBG.out _) | exact quiet_more0 (HBG.out _)))
            go_wp2_with fail
            go_ret
            exact ⟨ret_i64 HV.out.symm, _, by first | rfl | exact World.drewN_drewN .. | (rw [World.drewN_drewN]; exact World.drewN_drewN ..)⟩
          | false =>
            rw [e2] at hb2
            have HBG := Lib.hid hb2
            have HV := Lib.hid (show scan5 f g = scan5 (f.drop (k + 1)) (g.drop (k + 1)) from by rw [HI2.out, e1, e2]; rfl)
            clear hb1 hb2 hq hq' hiq hiq' hst hI HI2 e1 e2
            go_upto_region 8 with fail
            go_quiet ((go_at_call 206; first | exact quiet_more (HBF.out _) | exact quiet_more0 (HBF.out _)))
            go_upto_region 10 with fail
            go_quiet ((go_at_call 206; first | exact quiet_more (HBG.out _) | exact quiet_more0 (HBG.out _)))
            go_wp2_with fail
            go_roundw
            case rel => exact ⟨k + 1, _, by omega, by go_num, HV.out, by first | rfl | exact World.drewN_drewN .. | (rw [World.drewN_drewN]; exact World.drewN_drewN ..)⟩
            case measure => simp [intOf]; omega
      · have hkl : k = m := by omega
        have HV := Lib.hid (show cod5 (scan5 f g) = 0 from by
          rw [hI.out, List.drop_eq_nil_of_le (by have := HM.out; omega), List.drop_eq_nil_of_le (by have := HMG.out; omega)]; rfl)
        clear hI
        go_wp2_with fail
        go_ret
        exact ⟨ret_i64 HV.out.symm, _, by first | rfl | exact World.drewN_drewN .. | (rw [World.drewN_drewN]; exact World.drewN_drewN ..)⟩
  · have hd : ((f.length : Int) != (g.length : Int)) = true := by simp; omega
    by_cases h2 : f.length < g.length
    · have HE := Lib.hid (show cod5 (cmp5 f g) = -1 from by
        unfold cmp5
        have e1 : Nat.beq f.length g.length = false := by cases e : Nat.beq f.length g.length with | false => rfl | true => exact absurd (Nat.eq_of_beq_eq_true e) h
        have e2 : Nat.blt f.length g.length = true := Nat.ble_eq_true_of_le h2
        rw [e1, e2]; rfl)
      rw [HE.out]
      have h3 : (f.length : Int) < (g.length : Int) := by omega
      have h4 : decide ((f.length : Int) < (g.length : Int)) = true := decide_eq_true h3
      clear h HE
      go_enter Tryz.func262, Tryz.ntmps262
      go_wp2_with fail
      go_ret
      exact ⟨rfl, 0, rfl⟩
    · have HE := Lib.hid (show cod5 (cmp5 f g) = 1 from by
        unfold cmp5
        have e1 : Nat.beq f.length g.length = false := by cases e : Nat.beq f.length g.length with | false => rfl | true => exact absurd (Nat.eq_of_beq_eq_true e) h
        have e2 : Nat.blt f.length g.length = false := by cases e : Nat.blt f.length g.length with | false => rfl | true => exact absurd (Nat.le_of_ble_eq_true e) h2
        rw [e1, e2]; rfl)
      rw [HE.out]
      have h3 : ¬ (f.length : Int) < (g.length : Int) := by omega
      have h4 : decide ((f.length : Int) < (g.length : Int)) = false := decide_eq_false h3
      clear h HE
      go_enter Tryz.func262, Tryz.ntmps262
      go_wp2_with fail
      go_ret
      exact ⟨rfl, 0, rfl⟩

def sel5 (z1 z2 : Nat) : Nat := match z1 with
  | 0 => z2
  | k + 1 => k + 1
theorem ord5_eq (a b : SP) : ord5 a b = bif Nat.beq (ndN a.1) (ndN b.1) then sel5 (cmp5 a.1 b.1) (cmp5 a.2 b.2) else bif Nat.blt (ndN a.1) (ndN b.1) then 1 else 2 := by
  unfold ord5
  cases Nat.beq (ndN a.1) (ndN b.1) with
  | false => rfl
  | true =>
    simp only [cond_true]
    cases cmp5 a.1 b.1 <;> rfl
set_option maxHeartbeats 4000000 in
theorem s_l05Order (W : World) (B B' : Nat) (c c' : List Value) (x y : SC) (hx : eSc.D W B c x) (hy : eSc.D W B' c' y) :
    Calls Tryz.prog 239 #[.agg c.toArray, .agg c'.toArray] W fun e w' => e = .returned (.int .i64 (cod5 (ord5 x.1 y.1))) ∧ Below W.heap.size W w' := by
  obtain ⟨⟨xa, xb⟩, xn⟩ := x
  obtain ⟨⟨ya, yb⟩, yn⟩ := y
  obtain ⟨u, s, rfl, hu0, hs0⟩ := hx
  obtain ⟨u', s', rfl, hu0', hs0'⟩ := hy
  have hu1 : LL W B u (xa.map up) ∧ xa.length ≤ 1000000 ∧ ndN xa ≤ 1000000 := hu0
  have hu1' : LL W B' u' (ya.map up) ∧ ya.length ≤ 1000000 ∧ ndN ya ≤ 1000000 := hu0'
  have hs1 : LL W B s (xb.map up) ∧ xb.length ≤ 1000000 ∧ ndN xb ≤ 1000000 := hs0
  have hs1' : LL W B' s' (yb.map up) ∧ yb.length ≤ 1000000 ∧ ndN yb ≤ 1000000 := hs0'
  clear hu0 hu0' hs0 hs0'
  obtain ⟨A1, c1, he1, -, -, -⟩ := hu1.1.rows.open_
  obtain ⟨A2, c2, he2, -, -, -⟩ := hu1'.1.rows.open_
  obtain ⟨A3, c3, he3, -, -, -⟩ := hs1.1.rows.open_
  obtain ⟨A4, c4, he4, -, -, -⟩ := hs1'.1.rows.open_
  rw [List.length_map] at he1 he2 he3 he4
  subst he1 he2 he3 he4
  have hbb : ∀ o o', Below W.heap.size W ((W.alloc o).alloc o') := fun o o' => ((Below.refl W.heap.size W).alloc (Nat.le_refl _) _).alloc (by simp) _
  have HBB := Lib.hid hbb
  have HN1 := Lib.hid (fun V (hb : Below W.heap.size W V) => s_l03Nodes V _ xa (hu1.1.rows.below hb) hu1.2.2)
  have HN2 := Lib.hid (fun V (hb : Below W.heap.size W V) => s_l03Nodes V _ ya (hu1'.1.rows.below hb) hu1'.2.2)
  have HC1 := Lib.hid (fun V (hb : Below W.heap.size W V) => s_l05Compare V _ _ xa ya (hu1.1.rows.below hb) (hu1'.1.rows.below hb))
  have HC2 := Lib.hid (fun V (hb : Below W.heap.size W V) => s_l05Compare V _ _ xb yb (hs1.1.rows.below hb) (hs1'.1.rows.below hb))
  obtain ⟨R, hR⟩ : ∃ R, R = cod5 (ord5 (xa, xb) (ya, yb)) := ⟨_, rfl⟩
  rw [← hR]
  rw [ord5_eq] at hR
  obtain ⟨m, hm⟩ : ∃ m, m = ndN xa := ⟨_, rfl⟩
  obtain ⟨n, hn⟩ : ∃ n, n = ndN ya := ⟨_, rfl⟩
  obtain ⟨z1, hz1⟩ : ∃ z, z = cmp5 xa ya := ⟨_, rfl⟩
  obtain ⟨z2, hz2⟩ : ∃ z, z = cmp5 xb yb := ⟨_, rfl⟩
  have hm6 : m ≤ 1000000 := by rw [hm]; exact hu1.2.2
  have hn6 : n ≤ 1000000 := by rw [hn]; exact hu1'.2.2
  rw [← hm] at HN1 hR
  rw [← hn] at HN2 hR
  rw [← hz1] at HC1 hR
  rw [← hz2] at HC2 hR
  have HK := Lib.hid (Blk.new W #[.slice A1 xa.length c1, .slice A3 xb.length c3, .int .i64 (xn : Nat)] tSp)
  clear hu1 hu1' hs1 hs1' hbb hm hn hz1 hz2
  obtain ⟨V, hV⟩ : ∃ V, V = (W.alloc (.cells #[.slice A1 xa.length c1, .slice A3 xb.length c3, .int .i64 (xn : Nat)] tSp)).alloc (.cells #[.slice A2 ya.length c2, .slice A4 yb.length c4, .int .i64 (yn : Nat)] tSp) := ⟨_, rfl⟩
  have hbv : Below W.heap.size W V := by rw [hV]; exact HBB.out _ _
  have HBV := Lib.hid hbv
  have HX := Lib.hid (show Blk V W.heap.size tSp #[.slice A1 xa.length c1, .slice A3 xb.length c3, .int .i64 (xn : Nat)] from by rw [hV]; exact (Blk.new _ _ _).alloc _)
  have HY := Lib.hid (show Blk V (W.heap.size + 1) tSp #[.slice A2 ya.length c2, .slice A4 yb.length c4, .int .i64 (yn : Nat)] from by rw [hV]; exact Blk.new1 _ _ _ _)
  have x0 : V.cell? ⟨W.heap.size, 0, none⟩ = some (.slice A1 xa.length c1) := HX.out.cell 0
  have x1 : V.cell? ⟨W.heap.size, 1, none⟩ = some (.slice A3 xb.length c3) := HX.out.cell 1
  have y0 : V.cell? ⟨W.heap.size + 1, 0, none⟩ = some (.slice A2 ya.length c2) := HY.out.cell 0
  have y1 : V.cell? ⟨W.heap.size + 1, 1, none⟩ = some (.slice A4 yb.length c4) := HY.out.cell 1
  have HN1' := Lib.hid (fun n => HN1.out (V.drewN n) (below_drewN HBV.out n))
  have HN2' := Lib.hid (fun n => HN2.out (V.drewN n) (below_drewN HBV.out n))
  clear hbv HN1 HN2
  go_enter Tryz.func239, Tryz.ntmps239
  go_upto_region 1 with fail
  rw [← hV]
  clear hV
  go_quiet ((first | (go_at_call_of 261 A1; first | exact quiet_same0 (HN1'.out _) | exact quiet_same (HN1'.out _)) | (go_at_call_of 261 A2; first | exact quiet_same0 (HN2'.out _) | exact quiet_same (HN2'.out _))))
  rename Nat => q
  have x0 : (V.drewN q).cell? ⟨W.heap.size, 0, none⟩ = some (.slice A1 xa.length c1) := x0
  have x1 : (V.drewN q).cell? ⟨W.heap.size, 1, none⟩ = some (.slice A3 xb.length c3) := x1
  have y0 : (V.drewN q).cell? ⟨W.heap.size + 1, 0, none⟩ = some (.slice A2 ya.length c2) := y0
  have y1 : (V.drewN q).cell? ⟨W.heap.size + 1, 1, none⟩ = some (.slice A4 yb.length c4) := y1
  obtain ⟨U, hU⟩ : ∃ U, U = V.drewN q := ⟨_, rfl⟩
  have HBU := Lib.hid (show Below W.heap.size W U from by rw [hU]; exact below_drewN HBV.out q)
  rw [← hU] at x0 x1 y0 y1 ⊢
  clear hU
  by_cases h : m = n
  · have hd : ((m : Int) != (n : Int)) = false := by simp [h]
    have hR2 : R = cod5 (sel5 z1 z2) := by rw [hR, h, Nat.beq_refl, cond_true]
    clear hR h
    match z1, HC1, hR2 with
    | 0, HC1, hR2 =>
      have HC1' := Lib.hid (show Calls Tryz.prog 262 #[.slice A1 xa.length c1, .slice A2 ya.length c2] U fun e w' => e = .returned (.int .i64 0) ∧ ∃ n, w' = U.drewN n from HC1.out U HBU.out)
      have HR := Lib.hid (show cod5 z2 = R from by rw [hR2]; rfl)
      have HU0 := Lib.hid (fun n => (show (U.drewN n).cell? ⟨W.heap.size, 1, none⟩ = some (.slice A3 xb.length c3) from x1))
      have HU1 := Lib.hid (fun n => (show (U.drewN n).cell? ⟨W.heap.size + 1, 1, none⟩ = some (.slice A4 yb.length c4) from y1))
      clear HC1 hR2
      go_wp2_with (first
        | (go_at_call 262; (with_reducible refine HC1'.out.mono ?_); rintro e w1 ⟨rfl, n1, rfl⟩; have z3 := HU0.out n1; have z4 := HU1.out n1)
        | (go_at_call 262; refine (HC2.out _ (below_drewN HBU.out n1)).mono ?_; rintro e w2 ⟨rfl, n2, rfl⟩))
      go_ret
      exact ⟨ret_i64 HR.out, by first | exact below_drewN HBU.out _ | exact below_drewN (below_drewN HBU.out _) _⟩
    | j + 1, HC1, hR2 =>
      have hnz : ¬ cod5 (j + 1) = 0 := by cases j <;> simp [cod5]
      have hR3 : R = cod5 (j + 1) := hR2
      obtain ⟨t, ht⟩ : ∃ t, t = cod5 (j + 1) := ⟨_, rfl⟩
      rw [← ht] at hnz hR3
      have HC1' := Lib.hid (show Calls Tryz.prog 262 #[.slice A1 xa.length c1, .slice A2 ya.length c2] U fun e w' => e = .returned (.int .i64 t) ∧ ∃ n, w' = U.drewN n from by rw [ht]; exact HC1.out U HBU.out)
      have hd3 : (t != 0) = true := by simp [hnz]
      have HR := Lib.hid (show t = R from hR3.symm)
      clear HC1 hR2 hR3 ht hnz
      go_wp2_with (go_at_call 262; refine HC1'.out.mono ?_; rintro e w1 ⟨rfl, n1, rfl⟩)
      go_ret
      exact ⟨ret_i64 HR.out, below_drewN HBU.out _⟩
  · have hd : ((m : Int) != (n : Int)) = true := by simp; omega
    have e1 : Nat.beq m n = false := by cases e : Nat.beq m n with | false => rfl | true => exact absurd (Nat.eq_of_beq_eq_true e) h
    rw [e1, cond_false] at hR
    by_cases h2 : m < n
    · have h3 : (m : Int) < (n : Int) := by omega
      have h4 : decide ((m : Int) < (n : Int)) = true := decide_eq_true h3
      have HR := Lib.hid (show -1 = R from by rw [hR, show Nat.blt m n = true from Nat.ble_eq_true_of_le h2]; rfl)
      clear h hR e1
      go_wp2_with fail
      go_ret
      exact ⟨ret_i64 HR.out, HBU.out⟩
    · have h3 : ¬ (m : Int) < (n : Int) := by omega
      have h4 : decide ((m : Int) < (n : Int)) = false := decide_eq_false h3
      have HR := Lib.hid (show 1 = R from by rw [hR, show Nat.blt m n = false from (by cases e : Nat.blt m n with | false => rfl | true => exact absurd (Nat.le_of_ble_eq_true e) h2)]; rfl)
      clear h hR e1
      go_wp2_with fail
      go_ret
      exact ⟨ret_i64 HR.out, HBU.out⟩
end Go.Proofs.YtdjhfeaimmpmhaaGreat

