/- DROP Walks: symplecticTo, hamiltonianTo; SymplecticTo, HamiltonianTo of the program and of the reference. (printed by vgen.py) -/
import Derived.Test.YtdjhfeaimmpmhaaGreatZf25
set_option maxRecDepth 100000
set_option linter.unusedVariables false
set_option linter.unusedSimpArgs false
namespace Go.Proofs.YtdjhfeaimmpmhaaGreat
open Go.RowKit

theorem chr_of' {a : List Int} (h : chrC a = 0) : mapB a = true ∧ a.getD 0 0 = 1 := by
  unfold chrC at h
  cases hm : mapB a with
  | false => rw [hm] at h; simp at h
  | true =>
    rw [hm] at h
    refine ⟨rfl, ?_⟩
    by_cases e : a.getD 0 0 = 1
    · exact e
    · rw [if_pos rfl, if_neg e] at h; exact absurd h (by decide)
theorem inf_of {a : List Int} (h : infC a = 0) : mapB a = true ∧ a.getD 0 0 = 0 := by
  unfold infC at h
  cases hm : mapB a with
  | false => rw [hm] at h; simp at h
  | true =>
    rw [hm] at h
    refine ⟨rfl, ?_⟩
    by_cases e : a.getD 0 0 = 0
    · exact e
    · rw [if_pos rfl, if_neg e] at h; exact absurd h (by decide)
theorem Frm.opens' {w : World} {B : Nat} {v : Value} (h : Frm w B v) : ∃ A c Ay my cy, v = .agg #[.slice A 37 c, .slice Ay my cy] ∧ Rows w (.slice A 37 c) (T6n.map up) := by
  obtain ⟨x, y, us, rfl, h1, h2, -⟩ := h
  obtain ⟨A, c, he, -, -, -⟩ := h1.rows.open_
  rw [List.length_map, T6n_len] at he
  subst he
  obtain ⟨Ay, cy, rfl, -, -⟩ := h2.cells.open_
  exact ⟨A, c, Ay, _, cy, rfl, h1.rows⟩
open Classical in
noncomputable def toV (a : List Int) (c : Int) : Nat := if h : ∃ r, ToR a c r then Classical.choose h else 0
theorem toV_is {a : List Int} {c : Int} {r : Nat} (h : ToR a c r) : toV a c = r := by
  have hx : ∃ r, ToR a c r := ⟨r, h⟩
  unfold toV
  rw [dif_pos hx]
  exact (Classical.choose_spec hx).unique h
noncomputable def stoR (a : List Int) : Int := if chrC a = 0 then (toV a 1 : Nat) else 0
noncomputable def htoR (a : List Int) : Int := if infC a = 0 then (toV a 0 : Nat) else 0

set_option maxHeartbeats 2000000 in
theorem i_symplecticTo (w : World) (v va : Value) (B : Option Addr) (m0 d : Nat) (a : List Int) (ha : Rows w v (T6n.map up)) (h1 : Ints w va a) (l1 : a.length = 38) (hN : Nums a) :
    Calls Tryz.prog 90 #[.agg #[v, .slice B m0 d], va] w fun e w' => e = .returned (.int .i64 (toV a 1 : Nat)) ∧ Below w.heap.size w w' := by
  obtain ⟨A, cA, he, -, -, -⟩ := ha.open_
  rw [List.length_map, T6n_len] at he
  subst he
  have hbel : Below w.heap.size w (w.alloc (.cells #[.slice A 37 cA, .slice B m0 d] 71)) := below1 w _
  have HP := Lib.hid (i_productsTo (w.alloc (.cells #[.slice A 37 cA, .slice B m0 d] 71)) (.slice A 37 cA) va B m0 d 148 a 1 (ha.below hbel) (h1.below hbel) l1 hN (fun _ _ => by kernel_rfl) (fun V x y hx hy => i_symplecticTo1 V x y hx hy))
  have HB := Lib.hid hbel
  clear ha hbel h1 l1 hN
  go_enter Tryz.func90, Tryz.ntmps90
  go_wp2_with (go_at_call 125; refine HP.out.mono ?_; rintro e w1 ⟨r, rfl, hr, hb⟩)
  go_ret
  exact ⟨ret_i64 (by rw [toV_is hr]), HB.out.trans (hb.mono HB.out.size)⟩

set_option maxHeartbeats 2000000 in
theorem i_hamiltonianTo (w : World) (v va : Value) (B : Option Addr) (m0 d : Nat) (a : List Int) (ha : Rows w v (T6n.map up)) (h1 : Ints w va a) (l1 : a.length = 38) (hN : Nums a) :
    Calls Tryz.prog 64 #[.agg #[v, .slice B m0 d], va] w fun e w' => e = .returned (.int .i64 (toV a 0 : Nat)) ∧ Below w.heap.size w w' := by
  obtain ⟨A, cA, he, -, -, -⟩ := ha.open_
  rw [List.length_map, T6n_len] at he
  subst he
  have hbel : Below w.heap.size w (w.alloc (.cells #[.slice A 37 cA, .slice B m0 d] 71)) := below1 w _
  have HP := Lib.hid (i_productsTo (w.alloc (.cells #[.slice A 37 cA, .slice B m0 d] 71)) (.slice A 37 cA) va B m0 d 126 a 0 (ha.below hbel) (h1.below hbel) l1 hN (fun _ _ => by kernel_rfl) (fun V x y hx hy => i_hamiltonianTo1 V x y))
  have HB := Lib.hid hbel
  clear ha hbel h1 l1 hN
  go_enter Tryz.func64, Tryz.ntmps64
  go_wp2_with (go_at_call 125; refine HP.out.mono ?_; rintro e w1 ⟨r, rfl, hr, hb⟩)
  go_ret
  exact ⟨ret_i64 (by rw [toV_is hr]), HB.out.trans (hb.mono HB.out.size)⟩

set_option maxHeartbeats 4000000 in
theorem i_SymplecticTo (w : World) (v : Value) (a : List Int) (ha : Ints w v a) :
    Calls Tryz.prog 31 #[v] w fun e w' => e = .returned (.tuple #[.int .i64 (stoR a), .int .i64 (chrC a)]) ∧ Below w.heap.size w w' := by
  have HA := Lib.hid ha
  have HCH := Lib.hid (i_checkCharacter w v a ha)
  obtain ⟨A, c, rfl, -, -, -⟩ := ha.open_
  by_cases hc : chrC a = 0
  · rw [hc] at HCH
    obtain ⟨hm, ha0⟩ := chr_of' hc
    have hmt := mapB_true hm
    have HN := Lib.hid (show Nums a from hmt.2)
    have HL := Lib.hid hmt.1
    have HR := Lib.hid (show stoR a = (toV a 1 : Nat) from by rw [stoR, if_pos hc])
    have HC := Lib.hid hc
    clear hc hm ha0 hmt ha
    go_enter Tryz.func31, Tryz.ntmps31
    go_wp2_with (first
      | (go_at_call 74; refine HCH.out.mono ?_; rintro e w0 ⟨rfl, hb0⟩; have HB0 := Lib.hid (show Below w.heap.size w w0 from by first | exact hb0 | (rw [← hb0]; exact Below.refl _ _)); clear hb0)
      | (go_at_call 65; go_loud (refine (i_newForms _).mono ?_; rintro e w1 ⟨f, rfl, hf, hb1⟩; obtain ⟨Af, cf, Ay, my, cy, rfl, hrf⟩ := hf.opens'; have HRF := Lib.hid hrf; have HB1 := Lib.hid (HB0.out.trans (hb1.mono HB0.out.size)); clear hf hrf hb1))
      | (go_at_call 90; go_loud (refine (i_symplecticTo _ _ _ Ay my cy a HRF.out (HA.out.below HB1.out) HL.out HN.out).mono ?_; rintro e w2 ⟨rfl, hb2⟩; have HB2 := Lib.hid (HB1.out.trans (hb2.mono HB1.out.size)); clear hb2)))
    go_ret2
    rw [HR.out, HC.out]
    exact ⟨rfl, HB2.out⟩
  · have HR := Lib.hid (show stoR a = 0 from by rw [stoR, if_neg hc])
    have hd : (chrC a != 0) = true := by simp [hc]
    rw [HR.out]
    generalize chrC a = cc at *
    clear hc HR ha
    go_enter Tryz.func31, Tryz.ntmps31
    go_wp2_with (go_at_call 74; refine HCH.out.mono ?_; rintro e w0 ⟨rfl, hb0⟩; have HB0 := Lib.hid (show Below w.heap.size w w0 from by first | exact hb0 | (rw [← hb0]; exact Below.refl _ _)); clear hb0)
    go_ret2
    exact ⟨rfl, HB0.out⟩

set_option maxHeartbeats 4000000 in
theorem s_SymplecticTo (w : World) (v : Value) (a : List Int) (ha : Ints w v a) :
    Calls Tryz.prog 29 #[v] w fun e w' => e = .returned (.tuple #[.int .i64 (stoR a), .int .i64 (chrC a)]) ∧ Below w.heap.size w w' := by
  have HA := Lib.hid ha
  have HCH := Lib.hid (s_l07Code1 w v a ha)
  obtain ⟨A, c, rfl, -, -, -⟩ := ha.open_
  by_cases hc : chrC a = 0
  · rw [hc] at HCH
    obtain ⟨hm, ha0⟩ := chr_of' hc
    have hmt := mapB_true hm
    have HT := Lib.hid (fun W (h : Ints W (.slice A a.length c) a) => s_l12To W _ a h hmt.1 hmt.2)
    rw [ha0] at HT
    have HR := Lib.hid (show stoR a = (toV a 1 : Nat) from by rw [stoR, if_pos hc])
    have HC := Lib.hid hc
    clear hc hm ha0 hmt ha
    go_enter Tryz.func29, Tryz.ntmps29
    go_wp2_with (first
      | (go_at_call 76; refine HCH.out.mono ?_; rintro e w0 ⟨rfl, rfl⟩)
      | (go_at_call 69; go_loud (refine (HT.out _ HA.out).mono ?_; rintro e w2 ⟨r, rfl, hr, hb2⟩; have HQ := Lib.hid (toV_is hr); have HB2 := Lib.hid hb2; clear hr hb2)))
    go_ret2
    rw [HR.out, HC.out, HQ.out]
    exact ⟨rfl, HB2.out⟩
  · have HR := Lib.hid (show stoR a = 0 from by rw [stoR, if_neg hc])
    have hd : (chrC a != 0) = true := by simp [hc]
    rw [HR.out]
    generalize chrC a = cc at *
    clear hc HR ha
    go_enter Tryz.func29, Tryz.ntmps29
    go_wp2_with (go_at_call 76; refine HCH.out.mono ?_; rintro e w0 ⟨rfl, rfl⟩)
    go_ret2
    exact ⟨rfl, Below.refl _ _⟩

set_option maxHeartbeats 4000000 in
theorem i_HamiltonianTo (w : World) (v : Value) (a : List Int) (ha : Ints w v a) :
    Calls Tryz.prog 13 #[v] w fun e w' => e = .returned (.tuple #[.int .i64 (htoR a), .int .i64 (infC a)]) ∧ Below w.heap.size w w' := by
  have HA := Lib.hid ha
  have HCH := Lib.hid (i_checkInf1 w v a ha)
  obtain ⟨A, c, rfl, -, -, -⟩ := ha.open_
  by_cases hc : infC a = 0
  · rw [hc] at HCH
    obtain ⟨hm, ha0⟩ := inf_of hc
    have hmt := mapB_true hm
    have HN := Lib.hid (show Nums a from hmt.2)
    have HL := Lib.hid hmt.1
    have HR := Lib.hid (show htoR a = (toV a 0 : Nat) from by rw [htoR, if_pos hc])
    have HC := Lib.hid hc
    clear hc hm ha0 hmt ha
    go_enter Tryz.func13, Tryz.ntmps13
    go_wp2_with (first
      | (go_at_call 63; refine HCH.out.mono ?_; rintro e w0 ⟨rfl, hb0⟩; have HB0 := Lib.hid (show Below w.heap.size w w0 from by first | exact hb0 | (rw [← hb0]; exact Below.refl _ _)); clear hb0)
      | (go_at_call 65; go_loud (refine (i_newForms _).mono ?_; rintro e w1 ⟨f, rfl, hf, hb1⟩; obtain ⟨Af, cf, Ay, my, cy, rfl, hrf⟩ := hf.opens'; have HRF := Lib.hid hrf; have HB1 := Lib.hid (HB0.out.trans (hb1.mono HB0.out.size)); clear hf hrf hb1))
      | (go_at_call 64; go_loud (refine (i_hamiltonianTo _ _ _ Ay my cy a HRF.out (HA.out.below HB1.out) HL.out HN.out).mono ?_; rintro e w2 ⟨rfl, hb2⟩; have HB2 := Lib.hid (HB1.out.trans (hb2.mono HB1.out.size)); clear hb2)))
    go_ret2
    rw [HR.out, HC.out]
    exact ⟨rfl, HB2.out⟩
  · have HR := Lib.hid (show htoR a = 0 from by rw [htoR, if_neg hc])
    have hd : (infC a != 0) = true := by simp [hc]
    rw [HR.out]
    generalize infC a = cc at *
    clear hc HR ha
    go_enter Tryz.func13, Tryz.ntmps13
    go_wp2_with (go_at_call 63; refine HCH.out.mono ?_; rintro e w0 ⟨rfl, hb0⟩; have HB0 := Lib.hid (show Below w.heap.size w w0 from by first | exact hb0 | (rw [← hb0]; exact Below.refl _ _)); clear hb0)
    go_ret2
    exact ⟨rfl, HB0.out⟩

set_option maxHeartbeats 4000000 in
theorem s_HamiltonianTo (w : World) (v : Value) (a : List Int) (ha : Ints w v a) :
    Calls Tryz.prog 33 #[v] w fun e w' => e = .returned (.tuple #[.int .i64 (htoR a), .int .i64 (infC a)]) ∧ Below w.heap.size w w' := by
  have HA := Lib.hid ha
  have HCH := Lib.hid (s_l08Code1 w v a ha)
  obtain ⟨A, c, rfl, -, -, -⟩ := ha.open_
  by_cases hc : infC a = 0
  · rw [hc] at HCH
    obtain ⟨hm, ha0⟩ := inf_of hc
    have hmt := mapB_true hm
    have HT := Lib.hid (fun W (h : Ints W (.slice A a.length c) a) => s_l12To W _ a h hmt.1 hmt.2)
    rw [ha0] at HT
    have HR := Lib.hid (show htoR a = (toV a 0 : Nat) from by rw [htoR, if_pos hc])
    have HC := Lib.hid hc
    clear hc hm ha0 hmt ha
    go_enter Tryz.func33, Tryz.ntmps33
    go_wp2_with (first
      | (go_at_call 68; refine HCH.out.mono ?_; rintro e w0 ⟨rfl, rfl⟩)
      | (go_at_call 69; go_loud (refine (HT.out _ HA.out).mono ?_; rintro e w2 ⟨r, rfl, hr, hb2⟩; have HQ := Lib.hid (toV_is hr); have HB2 := Lib.hid hb2; clear hr hb2)))
    go_ret2
    rw [HR.out, HC.out, HQ.out]
    exact ⟨rfl, HB2.out⟩
  · have HR := Lib.hid (show htoR a = 0 from by rw [htoR, if_neg hc])
    have hd : (infC a != 0) = true := by simp [hc]
    rw [HR.out]
    generalize infC a = cc at *
    clear hc HR ha
    go_enter Tryz.func33, Tryz.ntmps33
    go_wp2_with (go_at_call 68; refine HCH.out.mono ?_; rintro e w0 ⟨rfl, rfl⟩)
    go_ret2
    exact ⟨rfl, Below.refl _ _⟩
end Go.Proofs.YtdjhfeaimmpmhaaGreat

