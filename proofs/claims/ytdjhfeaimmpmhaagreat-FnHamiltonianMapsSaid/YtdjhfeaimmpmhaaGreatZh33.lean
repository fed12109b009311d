/- The law FnHamiltonianMaps, walked; its draws. | The law FnHamiltonianMaps, walked. | Arguments that came in, opened to the words of the Mem text. | Byte slices that came in, opened. -/
import Derived.Test.YtdjhfeaimmpmhaaGreatZh29
import Derived.Test.YtdjhfeaimmpmhaaGreatZh32
import Derived.Test.YtdjhfeaimmpmhaaGreatZh28
import Derived.Test.YtdjhfeaimmpmhaaGreatRows
import Derived.Test.YtdjhfeaimmpmhaaGreatZh1
import Derived.WalkKit
import Derived.ProofKit
import Derived.OpenShut
import Derived.Test.YtdjhfeaimmpmhaaGreatZh2
set_option maxRecDepth 100000
set_option linter.unusedVariables false
set_option linter.unusedSimpArgs false
namespace Go.Proofs.YtdjhfeaimmpmhaaGreat
open Go.RowKit

theorem ByB.below {w w' : World} {B n : Nat} {A : Option Addr} (h : ByB w B A n) (hB : B ≤ w.heap.size) (hb : Below B w w') : ByB w' B A n := fun k hk => by
  obtain ⟨ad, z, rfl, h1, h2, h3, h4, h5⟩ := h k hk
  exact ⟨ad, z, rfl, h1, Nat.lt_of_lt_of_le h2 hb.size, h3, h4, by rw [hb.cell (by rw [block_add]; exact h1)]; exact h5⟩
theorem ByB.mono {w : World} {B B' n : Nat} {A : Option Addr} (h : ByB w B A n) (hB : B ≤ B') : ByB w B' A n := fun k hk => by
  obtain ⟨ad, z, rfl, h1, h2⟩ := h k hk
  exact ⟨ad, z, rfl, Nat.lt_of_lt_of_le h1 hB, h2⟩
set_option maxHeartbeats 4000000 in
theorem s_DrawHamiltonianOf (w : World) (A : Option Addr) (N c : Nat) (hb : ByB w w.heap.size A N) (hN : N ≤ 4096) :
    Calls Tryz.prog 10 #[.slice A N c] w fun e w' => ∃ x, e = .returned x ∧ ∃ zs, Ints w' x zs ∧ Below w.heap.size w w' := by
  have HFR := Lib.hid (s_l01From w A N c hb hN)
  clear hb
  go_enter Tryz.func10, Tryz.ntmps10
  go_upto_region 3 with (first
    | (go_at_call 49; go_loud (refine HFR.out.mono ?_; rintro e w1 ⟨p, rfl, hs1, hb1⟩; have HS1 := Lib.hid hs1; have HB1 := Lib.hid hb1; have hpl := hs1.lt; have hpg := hs1.ge; clear hs1 hb1))
    | (go_at_call 50; go_loud (refine (s_l01Next _ _ p 20 HS1.out (by omega) (by omega)).mono ?_; rintro e w2 ⟨x, rfl, x0, x1, hg, hs⟩; have HG2 := Lib.hid hg; have HS2 := Lib.hid hs; clear hg hs x0 x1)))
  have hpl2 : p < w2.heap.size := HS2.out.lt
  clear HS1
  by_cases hx : x = 0
  · have hd0 : (x == 0) = true := by simp [hx]
    clear hx
    go_wp2_with (first
      | (go_at_call 52; go_loud (refine (s_l01Pick _ _ p _ [9, 11] (HS2.out.below (below1 w2 (.cells (ints [9, 11]).toArray tI))) (lit_keep w2 p [9, 11] (by intro z hz; simp at hz; unfold In64; omega) (by simp) hpl2) (by simp) (by simp)).mono ?_; rintro e w4 ⟨y, rfl, hy, hg, hs⟩; obtain ⟨m, rfl, hm⟩ : ∃ m : Nat, y = m ∧ m ≤ 1000 := (by simp at hy; exact ⟨y.toNat, by omega, by omega⟩); have HG4 := Lib.hid (gtrans (gtrans HG2.out (gof (below1 w2 _))) hg); have HS4 := Lib.hid hs; clear hg hs hy))
      | (go_at_call 51; go_loud (refine (s_l01List _ _ p m HS4.out hm).mono ?_; rintro e w5 ⟨x5, rfl, zs, ho, lz, nz, hg, hs⟩; have HO5 := Lib.hid ho.ints; have HG5 := Lib.hid (gtrans HG4.out hg); clear ho lz nz hg hs)))
    go_ret
    exact ⟨_, rfl, zs, HO5.out, HB1.out.grown HG5.out HB1.out.size (fun k e => by injection e with e; omega)⟩
  · have hd0 : (x == 0) = false := by simp [hx]
    by_cases hx1 : x = 1
    · have hd1 : (x == 1) = true := by simp [hx1]
      clear hx hx1
      go_wp2_with (first
        | (go_at_call 51; go_loud (refine (s_l01List _ _ p 9 HS2.out (by omega)).mono ?_; rintro e w5 ⟨x5, rfl, zs, ho, lz, nz, hg, hs⟩; obtain ⟨A5, c5, he5, -, -⟩ := ho.1.cells.open_; rw [ints_len, lz] at he5; subst he5; have HO5 := Lib.hid ho; have HLZ := Lib.hid lz; have HG5 := Lib.hid (gtrans HG2.out hg); have HS5 := Lib.hid hs; have hsz5 : w2.heap.size ≤ w5.heap.size := hg.size; clear ho lz nz hg hs))
        | (go_at_call 53; go_loud (refine (s_l01Spoil _ _ p HS5.out).mono ?_; rintro e w6 ⟨z, rfl, hz, hg, hs⟩; have HO6 := Lib.hid (HO5.out.1.src hpl2 hg); have HZ := Lib.hid hz; have HG6 := Lib.hid (gtrans HG5.out hg); have hsz6 : w2.heap.size ≤ w6.heap.size := Nat.le_trans hsz5 hg.size; clear hg hs hz))
        | (at_builtin; go_loud (refine wpList_app1 T_int HO6.out (by rw [ints_len, HLZ.out]; omega) hsz6 (by rfl) rfl (by rfl) (by rfl) (by rfl) ?_; intro v7 w7 hown7 hgr7; have HN7 := Lib.hid hown7; have HR7 := Lib.hid hgr7; clear hown7 hgr7)))
      go_ret
      have HG7 := gthen HG6.out HR7.out.1 (fun b hb => Nat.le_trans HG2.out.size (HO6.out.ge b hb))
      exact ⟨_, rfl, zs ++ [z], ⟨by simpa [ints] using HN7.out.cells, fun y hy => by
        rcases List.mem_append.1 hy with hy | hy
        · exact HO5.out.2 y hy
        · simp at hy; subst hy; exact HZ.out⟩, HB1.out.grown HG7 HB1.out.size (fun k e => by injection e with e; omega)⟩
    · have hd1 : (x == 1) = false := by simp [hx1]
      clear hx hx1
      go_wp2_with (go_at_call 51; go_loud (refine (s_l01List _ _ p 10 HS2.out (by omega)).mono ?_; rintro e w5 ⟨x5, rfl, zs, ho, lz, nz, hg, hs⟩; have HO5 := Lib.hid ho.ints; have HG5 := Lib.hid (gtrans HG2.out hg); clear ho lz nz hg hs))
      go_ret
      exact ⟨_, rfl, zs, HO5.out, HB1.out.grown HG5.out HB1.out.size (fun k e => by injection e with e; omega)⟩
set_option maxHeartbeats 4000000 in
theorem s_DrawHamiltonianTo (w : World) (A : Option Addr) (N c : Nat) (hb : ByB w w.heap.size A N) (hN : N ≤ 4096) :
    Calls Tryz.prog 67 #[.slice A N c] w fun e w' => ∃ x, e = .returned x ∧ ∃ zs, Ints w' x zs ∧ Below w.heap.size w w' := by
  have HFR := Lib.hid (s_l01From w A N c hb hN)
  clear hb
  go_enter Tryz.func67, Tryz.ntmps67
  go_upto_if 9 with (first
    | (go_at_call 49; go_loud (refine HFR.out.mono ?_; rintro e w1 ⟨p, rfl, hs1, hb1⟩; have HS1 := Lib.hid hs1; have HB1 := Lib.hid hb1; have hpl := hs1.lt; have hpg := hs1.ge; clear hs1 hb1))
    | (go_at_call 50; go_loud (refine (s_l01Next _ _ p 4 HS1.out (by omega) (by omega)).mono ?_; rintro e w2 ⟨x, rfl, x0, x1, hg, hs⟩; have HG2 := Lib.hid hg; have HS2 := Lib.hid hs; clear hg hs x0 x1)))
  have hpl2 : p < w2.heap.size := HS2.out.lt
  clear HS1
  by_cases hx : x = 0
  · have hd0 : (x == 0) = true := by simp [hx]
    rw [hd0]
    clear hx hd0
    go_wp2_with (go_at_call 128; go_loud (refine (s_l08Draw _ _ p HS2.out).mono ?_; rintro e w3 ⟨g, d, n, m, rfl, hd, hg, hs⟩; have HD3 := Lib.hid hd; have HG3 := Lib.hid (gtrans HG2.out hg); clear hd hg hs))
    go_ret
    obtain ⟨zs, hz⟩ := HD3.out.readable
    exact ⟨_, rfl, zs, hz, HB1.out.grown HG3.out HB1.out.size (fun k e => by injection e with e; omega)⟩
  · have hd0 : (x == 0) = false := by simp [hx]
    rw [hd0]
    clear hx hd0
    go_upto_if 17 with (first
      | (go_at_call 51; go_loud (refine (s_l01List _ _ p 10 HS2.out (by omega)).mono ?_; rintro e w3 ⟨x3, rfl, zs, ho, lz, nz, hg, hs⟩; have HO3 := Lib.hid ho.ints; have HLZ := Lib.hid (And.intro lz nz); have HG3 := Lib.hid (gtrans HG2.out hg); have HS3 := Lib.hid hs; have hpl3 : p < w3.heap.size := Nat.lt_of_lt_of_le hpl2 hg.size; clear ho lz nz hg hs))
      | (go_at_call 62; go_loud (refine (s_l12Make _ _ zs HO3.out HLZ.out.1 (nums_iff.2 HLZ.out.2)).mono ?_; rintro e w4 ⟨x4, rfl, ho, hb4⟩; obtain ⟨g, cap, rfl, hm⟩ := M38.of ho (hamZ_len _) (hamZ_nums HLZ.out.2); have HM4 := Lib.hid hm; have HG4 := Lib.hid (gtrans HG3.out (gof hb4)); have HS4 := Lib.hid (HS3.out.below hb4); have hgw : w3.heap.size ≤ g := hm.ge; clear ho hb4 hm))
      | (go_at_call 50; go_loud (refine (s_l01Next _ _ p 2 HS4.out (by omega) (by omega)).mono ?_; rintro e w5 ⟨y, rfl, y0, y1, hg, hs⟩; have HG5 := Lib.hid (gtrans HG4.out hg); have HS5 := Lib.hid hs; have HM5 := Lib.hid (HM4.out.src hpl3 hg); clear hg hs y0 y1)))
    have hgp : g ≠ p := by omega
    have hwg : w1.heap.size ≤ g := Nat.le_trans (Nat.le_trans HG3.out.size (Nat.le_refl _)) hgw
    by_cases hy : y = 0
    · have hd0 : (y == 0) = true := by simp [hy]
      rw [hd0]
      clear hy hd0
      go_wp2_with (first
        | (go_at_call 50; go_loud (refine (s_l01Next _ _ p 37 HS5.out (by omega) (by omega)).mono ?_; rintro e w6 ⟨y, rfl, y0, y1, hg, hs⟩; obtain ⟨k, rfl⟩ : ∃ k : Nat, y = k := ⟨y.toNat, by omega⟩; have hk37 : k < 37 := (by omega); have hwk : wrap64 (1 + (k : Int)) = 1 + (k : Int) := w64_dr _ (by omega); have hkc : 1 + (k : Int) < 38 := (by omega); have hkd : (1 + (k : Int)).toNat = 1 + k := (by omega); have HG6 := Lib.hid (gtrans HG5.out hg); have HS6 := Lib.hid hs; have HM6 := Lib.hid (HM5.out.src hpl3 hg); clear hg hs y0 y1))
        | (go_at_call 112; go_loud (refine (s_l01Number _ _ p HS6.out).mono ?_; rintro e w7 ⟨z, rfl, hz, hg, hs⟩; have HG7 := Lib.hid (gtrans HG6.out hg); have HM7 := Lib.hid (HM6.out.src hpl3 hg); obtain ⟨⟨u1, hu1⟩, hfr1, ho11, hg11⟩ := HM7.out.set_ (k := 1 + k) (by omega) hz; have HM8 := Lib.hid ho11; have HG8 := Lib.hid (gthen HG7.out hg11 (by rintro b ⟨⟩; exact hwg)); clear hg hs hz ho11 hg11)))
      go_ret
      obtain ⟨zs, hz⟩ := HM8.out.dr.readable
      exact ⟨_, rfl, zs, hz, HB1.out.grown HG8.out HB1.out.size (fun k e => by injection e with e; omega)⟩
    · have hd0 : (y == 0) = false := by simp [hy]
      rw [hd0]
      clear hy hd0
      go_wp2_with fail
      go_ret
      obtain ⟨zs, hz⟩ := HM5.out.dr.readable
      exact ⟨_, rfl, zs, hz, HB1.out.grown HG5.out HB1.out.size (fun k e => by injection e with e; omega)⟩
set_option maxHeartbeats 1000000 in
theorem s_DrawFreeNumbersOf (w : World) (A : Option Addr) (N c : Nat) (hb : ByB w w.heap.size A N) (hN : N ≤ 4096) :
    Calls Tryz.prog 16 #[.slice A N c] w fun e w' => ∃ x, e = .returned x ∧ ∃ zs, Ints w' x zs ∧ Below w.heap.size w w' := by
  have HFR := Lib.hid (s_DrawHamiltonianTo w A N c hb hN)
  clear hb
  go_enter Tryz.func16, Tryz.ntmps16
  go_wp2_with (go_at_call 67; refine HFR.out.mono ?_; rintro e w1 ⟨x, rfl, zs, hz, hb1⟩; have HZ := Lib.hid hz; have HB1 := Lib.hid hb1; clear hz hb1)
  go_ret
  exact ⟨_, rfl, zs, HZ.out, HB1.out⟩
/-! ### the law -/
theorem toV_six {a : List Int} {c : Int} (h : ¬ toV a c < 6) : ToR a c 6 := by
  unfold toV at h
  by_cases hx : ∃ r, ToR a c r
  · rw [dif_pos hx] at h
    have h1 := Classical.choose_spec hx
    have h2 := h1.le
    rw [show Classical.choose hx = 6 by omega] at h1
    exact h1
  · rw [dif_neg hx] at h
    omega
theorem infC_of {a : List Int} (hl : a.length = 38) (hn : Nums a) (h0 : a.getD 0 0 = 0) : infC a = 0 := by
  have hm : mapB a = true := by
    unfold mapB
    rw [Bool.and_eq_true]
    exact ⟨by simp [hl], nums_iff.2 hn⟩
  unfold infC
  rw [if_pos hm, if_pos h0]
/-- a list of numbers makes a Hamiltonian map, from which it is read back -/
theorem ham_back {zs : List Int} (h : hamOk zs = true) : hamC zs = 0 ∧ hamR zs = hamZ zs ∧ htoR (hamZ zs) = 6 ∧ infC (hamZ zs) = 0 ∧ fnoC (hamZ zs) = 0 ∧ fnoR (hamZ zs) = zs := by
  have h' := h
  unfold hamOk at h'
  rw [Bool.and_eq_true, nums_iff] at h'
  have hl : zs.length = 10 := by simpa using h'.1
  have hn : Nums zs := h'.2
  have hi := infC_of (hamZ_len zs) (hamZ_nums hn) (hamZ_head zs)
  have ht := toV_is (hamZ_to zs)
  have hlt : ¬ toV (hamZ zs) 0 < 6 := by rw [ht]; omega
  refine ⟨if_pos h, if_pos h, ?_, hi, ?_, ?_⟩
  · unfold htoR; rw [if_pos hi, ht]; rfl
  · unfold fnoC; rw [if_pos hi, if_neg hlt]
  · unfold fnoR; rw [if_pos hi, if_neg hlt]; exact frL_hamZ hn hl
theorem ham_none {zs : List Int} (h : hamOk zs = false) : hamC zs = 2 ∧ hamR zs = [] := ⟨if_neg (by rw [h]; simp), if_neg (by rw [h]; simp)⟩
/-- each Hamiltonian map is made so -/
theorem ham_made {x : List Int} (h : fnoC x = 0) : hamC (fnoR x) = 0 ∧ hamR (fnoR x) = x := by
  unfold fnoC at h
  by_cases hi : infC x = 0
  · rw [if_pos hi] at h
    by_cases h6 : toV x 0 < 6
    · rw [if_pos h6] at h; omega
    · obtain ⟨hm, h0⟩ := inf_of hi
      obtain ⟨hl, hn⟩ := mapB_true hm
      have hn : Nums x := hn
      have e : fnoR x = frL x := by unfold fnoR; rw [if_pos hi, if_neg h6]; rfl
      have hok : hamOk (frL x) = true := by
        unfold hamOk
        rw [Bool.and_eq_true, nums_iff]
        exact ⟨by simp [frL_len], frL_nums hn⟩
      rw [e]
      exact ⟨if_pos hok, by rw [show hamR (frL x) = hamZ (frL x) from if_pos hok]; exact hamZ_frL hn hl h0 (toV_six h6)⟩
  · rw [if_neg hi] at h
    exact absurd h hi
theorem fno_none {x : List Int} (h : fnoC x ≠ 0) : fnoR x = [] := by
  unfold fnoR
  unfold fnoC at h
  by_cases hi : infC x = 0
  · rw [if_pos hi] at h ⊢
    by_cases h6 : toV x 0 < 6
    · rw [if_pos h6]
    · rw [if_neg h6] at h; exact absurd rfl h
  · rw [if_neg hi]
end Go.Proofs.YtdjhfeaimmpmhaaGreat

set_option maxRecDepth 100000
set_option linter.unusedVariables false
set_option linter.unusedSimpArgs false
namespace Go.Proofs.YtdjhfeaimmpmhaaGreat
open Go.RowKit

set_option maxHeartbeats 16000000 in
theorem law_HamiltonianMaps (w : World) (v : Value) (n : Nat) (h : Bts w v n) :
    Calls Tryz.prog 3 #[v] w fun e w' => e = .returned (.bool true) ∧ Below w.heap.size w w' := by
  obtain ⟨A, c, rfl, hb⟩ := h
  have HBG := Lib.hid (l_big w A n c)
  by_cases h4 : 4096 < n
  · have hd : decide (4096 < n) = true := by simp [h4]
    rw [hd] at HBG
    clear hd h4 hb
    go_enter Tryz.func3, Tryz.ntmps3
    go_wp2_with (go_at_call 9; refine HBG.out.mono ?_; rintro e w0 ⟨rfl, rfl⟩)
    go_ret
    exact ⟨rfl, Below.refl _ _⟩
  · have hd : decide (4096 < n) = false := by simp [h4]
    rw [hd] at HBG
    have HDR := Lib.hid (s_DrawHamiltonianOf w A n c hb (by omega))
    have HBY := Lib.hid hb
    have hn4 : n ≤ 4096 := by omega
    clear hd h4 hb
    go_enter Tryz.func3, Tryz.ntmps3
    go_upto_region 4 with (first
      | (go_at_call 9; refine HBG.out.mono ?_; rintro e w0 ⟨rfl, rfl⟩)
      | (go_at_call 10; go_loud (refine HDR.out.mono ?_; rintro e w1 ⟨x, rfl, zs, hz, hb1⟩; have HZ := Lib.hid hz; have HB1 := Lib.hid hb1; clear hz hb1)))
    clear HBG HDR
    have HH1 := Lib.hid (i_HamiltonianOf w1 x zs HZ.out)
    have HH2 := Lib.hid (fun X (hX : Below w1.heap.size w1 X) => s_HamiltonianOf X x zs (HZ.out.below hX))
    go_upto_if 37 with (first
      | (go_at_call 11; go_loud (refine HH1.out.mono ?_; rintro e w2 ⟨xb, rfl, ho2, hb2⟩; obtain ⟨Ab, cb, rfl, -, -, -⟩ := ho2.ints.open_; have HO2 := Lib.hid ho2.ints; have HB2 := Lib.hid hb2; clear ho2 hb2))
      | (go_at_call 12; go_loud (refine (HH2.out _ HB2.out).mono ?_; rintro e w3 ⟨xc, rfl, ho3, hb3⟩; have HO3 := Lib.hid (HO2.out.below hb3); have HB3 := Lib.hid (HB2.out.trans (hb3.mono HB2.out.size)); clear ho3 hb3)))
    clear HH1 HH2
    go_cut [8, 9, 10, 11] (fun _ _ _ _ wx => Below w.heap.size w wx)
    case first =>
      have HW3 := Lib.hid (HB1.out.trans (HB3.out.mono HB1.out.size))
      cases hok : hamOk zs with
      | true =>
        obtain ⟨e1, e2, e3, e4, e5, e6⟩ := ham_back hok
        rw [← e2] at e3 e4 e5 e6
        have hdc : (hamC zs == 0) = true := by simp [e1]
        have HT := Lib.hid (fun X (hX : Ints X (.slice Ab (hamR zs).length cb) (hamR zs)) => i_HamiltonianTo X _ _ hX)
        have HF := Lib.hid (fun X (hX : Ints X (.slice Ab (hamR zs).length cb) (hamR zs)) => i_FreeNumbersOf X _ _ hX)
        simp only [e3, e4] at HT
        simp only [e5, e6] at HF
        have HZ3 := Lib.hid (HZ.out.below HB3.out)
        clear hok e1 e2 e3 e4 e5 e6 HO2 HB2
        go_wp2_with (first
          | (go_at_call 13; go_loud (refine (HT.out _ HO3.out).mono ?_; rintro e w4 ⟨rfl, hb4⟩; have HB4 := Lib.hid hb4; clear hb4))
          | (go_at_call 14; go_loud (refine (HF.out _ (HO3.out.below HB4.out)).mono ?_; rintro e w5 ⟨x5, rfl, ho5, hb5⟩; have HO5 := Lib.hid ho5.ints; have HB5 := Lib.hid (HB4.out.trans (hb5.mono HB4.out.size)); clear ho5 hb5))
          | (go_at_call 15; (refine (l_likeInts _ _ _ _ _ HO5.out (HZ3.out.below HB5.out)).mono ?_); go_loud (rw [show decide (zs = zs) = true from decide_eq_true rfl]; rintro e w6 ⟨rfl, n6, hw6⟩; have HB6 := Lib.hid (show Below w3.heap.size w3 w6 from by rw [hw6]; exact below_drewN HB5.out n6); clear hw6)))
        go_meet
        exact HW3.out.trans (HB6.out.mono HW3.out.size)
      | false =>
        obtain ⟨e1, e2⟩ := ham_none hok
        have hdc : (hamC zs == 0) = false := by simp [e1]
        have hn1 : ¬ (0 < ((hamR zs).length : Int)) := by rw [e2]; simp
        have hn2 : ¬ (0 < (hamR zs).length) := by rw [e2]; simp
        have hn3 : decide (0 < (hamR zs).length) = false := decide_eq_false hn2
        clear hok e1 e2 HO2 HO3
        go_wp2_with fail
        go_meet
        exact HW3.out
    case rest =>
      rename World => wc
      have HWC := Lib.hid hcut
      have HDF := Lib.hid (s_DrawFreeNumbersOf wc A n c ((HBY.out.below (Nat.le_refl _) hcut).mono hcut.size) hn4)
      clear hcut HZ HB1 HO2 HB2 HO3 HB3 HBY
      go_upto_region 16 with (go_at_call 16; go_loud (refine HDF.out.mono ?_; rintro e w1 ⟨xd, rfl, ds, hz, hb1⟩; obtain ⟨Ad, cd, rfl, -, -, -⟩ := hz.open_; have HZ := Lib.hid hz; have HB1 := Lib.hid (HWC.out.trans (hb1.mono HWC.out.size)); clear hz hb1))
      have HF1 := Lib.hid (fun X (hX : Ints X (.slice Ad ds.length cd) ds) => i_FreeNumbersOf X _ _ hX)
      have HF2 := Lib.hid (fun X (hX : Ints X (.slice Ad ds.length cd) ds) => s_FreeNumbersOf X _ _ hX)
      clear HDF HWC
      by_cases hc : fnoC ds = 0
      · obtain ⟨e1, e2⟩ := ham_made hc
        simp only [hc] at HF1 HF2
        have HM := Lib.hid (fun X v (hX : Ints X v (fnoR ds)) => i_HamiltonianOf X v _ hX)
        simp only [e1, e2] at HM
        clear hc e1 e2
        generalize fnoR ds = fs at *
        go_wp2_with (first
          | (go_at_call 14; go_loud (refine (HF1.out _ HZ.out).mono ?_; rintro e w5 ⟨x5, rfl, ho5, hb5⟩; have HO5 := Lib.hid ho5.ints; have HB5 := Lib.hid hb5; clear ho5 hb5))
          | (go_at_call 17; go_loud (refine (HF2.out _ (HZ.out.below HB5.out)).mono ?_; rintro e w6 ⟨x6, rfl, ho6, hb6⟩; have HO6 := Lib.hid (HO5.out.below hb6); have HB6 := Lib.hid (HB5.out.trans (hb6.mono HB5.out.size)); clear ho6 hb6))
          | (go_at_call 11; go_loud (refine (HM.out _ _ HO6.out).mono ?_; rintro e w7 ⟨x7, rfl, ho7, hb7⟩; have HO7 := Lib.hid ho7.ints; have HB7 := Lib.hid (HB6.out.trans (hb7.mono HB6.out.size)); clear ho7 hb7))
          | (go_at_call 15; (refine (l_likeInts _ _ _ _ _ HO7.out (HZ.out.below HB7.out)).mono ?_); go_loud (rw [show decide (ds = ds) = true from decide_eq_true rfl]; rintro e w8 ⟨rfl, n8, hw8⟩; have HB8 := Lib.hid (show Below w1.heap.size w1 w8 from by rw [hw8]; exact below_drewN HB7.out n8); clear hw8)))
        go_ret
        exact ⟨rfl, HB1.out.trans (HB8.out.mono HB1.out.size)⟩
      · have e2 := fno_none hc
        have hd : (fnoC ds != 0) = true := by simp [hc]
        simp only [e2] at HF1
        clear e2 hc
        generalize fnoC ds = cc at *
        go_wp2_with (first
          | (go_at_call 14; go_loud (refine (HF1.out _ HZ.out).mono ?_; rintro e w5 ⟨x5, rfl, ho5, hb5⟩; obtain ⟨A5, c5, rfl, -, -, -⟩ := ho5.ints.open_; have HB5 := Lib.hid hb5; clear ho5 hb5))
          | (go_at_call 17; go_loud (refine (HF2.out _ (HZ.out.below HB5.out)).mono ?_; rintro e w6 ⟨x6, rfl, ho6, hb6⟩; have HB6 := Lib.hid (HB5.out.trans (hb6.mono HB5.out.size)); clear ho6 hb6)))
        go_ret
        exact ⟨rfl, HB1.out.trans (HB6.out.mono HB1.out.size)⟩
end Go.Proofs.YtdjhfeaimmpmhaaGreat

set_option maxRecDepth 100000
set_option linter.unusedVariables false
set_option linter.unusedSimpArgs false
namespace Go.Proofs.YtdjhfeaimmpmhaaGreat
open Go.ChangeShapes Go.WideShapes Go.ChangeAt Go.RowKit

end Go.Proofs.YtdjhfeaimmpmhaaGreat

set_option maxRecDepth 100000
set_option linter.unusedVariables false
set_option linter.unusedSimpArgs false
namespace Go.Proofs.YtdjhfeaimmpmhaaGreat
open Go.ChangeShapes Go.WideShapes Go.ChangeAt Go.RowKit

theorem u8_of_wf {z : Int} (h : (Lit.int .u8 z).wf = true) : 0 ≤ z ∧ z ≤ 255 := by
  simp [Lit.wf, IntKind.min, IntKind.max, IntKind.signed, IntKind.bits] at h
  omega
theorem open_bytes {H : Type} {enc : TypeId × Value → H} {W : World} {base : Nat} {v : Value} {d : DataW H} {p : List MemPlace}
    (hv : Value.okWide Tryz.prog W .any base 22 v) (h : DataW.Trod enc Tryz.prog W 0 (fun _ => true) true 22 v d p) : ∃ n, Bts W v n := by
  obtain ⟨a, len, cap, rfl⟩ := okWide_slice Tryz.underlying22 hv
  obtain ⟨fuel, hf⟩ := h
  rcases open_ints Tryz.underlying22 Tryz.underlying5 (by kernel_rfl) hf with ⟨hcs, _⟩ | ⟨x, l, c, zs, hcs, _, hl, hm, hz, _, hcell, hwz⟩
  · simp [Value.cells] at hcs
    obtain ⟨rfl, rfl, rfl⟩ := hcs
    exact ⟨0, none, 0, rfl, fun k hk => by omega⟩
  · simp [Value.cells] at hcs
    obtain ⟨rfl, rfl, rfl⟩ := hcs
    have hz' : zs.length = cap := by simpa using hz
    refine ⟨len, some x, cap, rfl, fun k hk => ?_⟩
    have hk2 : k < zs.length := by omega
    have hc := hcell k (by omega)
    have hw := u8_of_wf (hwz _ (List.getElem_mem hk2))
    have e : zs.getD k 0 = zs[k] := by simp [List.getD, hk2]
    rw [e] at hc
    have hb := World.block_lt_of_cell? W _ hc
    rw [block_add] at hb
    exact ⟨x, zs[k], rfl, hb, hb, hw.1, hw.2, hc⟩
end Go.Proofs.YtdjhfeaimmpmhaaGreat

