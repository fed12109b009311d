/- Walks: the codes of two maps the first of which has to be infinitesimal, of the program and of the reference; SubstituteMap of both. | Walks: Convolve of the program at a character and a map, conv9 of the laws, and the law FnSubstitutedProducts. | The law FnSubstitutedProducts, walked. | Arguments that came in, opened to the words of the Mem text. | Byte slices that came in, opened. | Walks: numbers that are drawn (spec.l01Source). (printed by drwgen.py) | Walks: what is drawn out of the source: picks, numbers, lists. -/
import Derived.Test.YtngdpoeondnchaaGreatR30
import Derived.Test.YtngdpoeondnchaaGreatR32
import Derived.Test.YtngdpoeondnchaaGreatR33
import Derived.Test.YtngdpoeondnchaaGreatR3
import Derived.Test.YtngdpoeondnchaaGreatR29
import Derived.Test.YtngdpoeondnchaaGreatRows
import Derived.Test.YtngdpoeondnchaaGreatR1
import Derived.WalkKit
import Derived.ProofKit
import Derived.OpenShut
import Derived.Test.YtngdpoeondnchaaGreatR2
import Derived.Test.YtngdpoeondnchaaGreatR5
set_option maxRecDepth 100000
set_option linter.unusedVariables false
set_option linter.unusedSimpArgs false
namespace Go.Proofs.YtngdpoeondnchaaGreat
open Go.RowKit

set_option maxHeartbeats 1600000 in
theorem s_l16Maps (w : World) (vb va : Value) (b a : List Int) (h1 : Ints w vb b) (h2 : Ints w va a) : Calls Tryz.prog 90 #[vb, va] w fun e w' => e = .returned (.int .i64 (infA b [a])) ∧ w = w' := by
  have HM1 := Lib.hid (s_l14Map w vb b h1)
  have HM2 := Lib.hid (s_l14Map w va a h2)
  rw [infA_one]
  obtain ⟨Ab, cb, rfl, -, -, -⟩ := h1.open_
  obtain ⟨Aa, ca, rfl, -, -, -⟩ := h2.open_
  cases hm : mapB b with
  | false =>
    rw [hm] at HM1
    rw [show (if (false && mapB a) = true then (if b.getD 0 0 = 0 then (0 : Int) else 5) else 1) = 1 from rfl]
    clear hm h1 h2
    go_enter Tryz.func90, Tryz.ntmps90
    go_wp2_with (go_at_call 105; refine HM1.out.mono ?_; rintro e w' ⟨rfl, rfl⟩)
    go_ret
    exact ⟨rfl, rfl⟩
  | true =>
    cases hm2 : mapB a with
    | false =>
      rw [hm] at HM1
      rw [hm2] at HM2
      rw [show (if (true && false) = true then (if b.getD 0 0 = 0 then (0 : Int) else 5) else 1) = 1 from rfl]
      clear hm hm2 h1 h2
      go_enter Tryz.func90, Tryz.ntmps90
      go_wp2_with (first
        | (go_at_call 105; (with_reducible refine HM1.out.mono ?_); rintro e w' ⟨rfl, rfl⟩)
        | (go_at_call 105; (with_reducible refine HM2.out.mono ?_); rintro e w' ⟨rfl, rfl⟩))
      go_ret
      exact ⟨rfl, rfl⟩
    | true =>
      obtain ⟨ad, rfl, hc⟩ := map_head h1 hm
      have hl := (mapB_true hm).1
      rw [hm] at HM1
      rw [hm2] at HM2
      have hpos : 0 < b.length := by omega
      have hpi : (0 : Int) < (b.length : Int) := by omega
      rw [show (if (true && true) = true then (if b.getD 0 0 = 0 then (0 : Int) else 5) else 1) = if b.getD 0 0 = 0 then (0 : Int) else 5 from rfl]
      clear hm hm2 h1 h2 hl
      generalize b.getD 0 0 = z at *
      by_cases hz : z = 0
      · have hd : (z != 0) = false := by simp [hz]
        rw [if_pos hz]
        clear hz
        go_enter Tryz.func90, Tryz.ntmps90
        go_wp2_with (first
          | (go_at_call 105; (with_reducible refine HM1.out.mono ?_); rintro e w' ⟨rfl, rfl⟩)
          | (go_at_call 105; (with_reducible refine HM2.out.mono ?_); rintro e w' ⟨rfl, rfl⟩))
        go_ret
        exact ⟨rfl, rfl⟩
      · have hd : (z != 0) = true := by simp [hz]
        rw [if_neg hz]
        clear hz
        go_enter Tryz.func90, Tryz.ntmps90
        go_wp2_with (first
          | (go_at_call 105; (with_reducible refine HM1.out.mono ?_); rintro e w' ⟨rfl, rfl⟩)
          | (go_at_call 105; (with_reducible refine HM2.out.mono ?_); rintro e w' ⟨rfl, rfl⟩))
        go_ret
        exact ⟨rfl, rfl⟩
/-- the program's check of an infinitesimal map and another one -/
theorem i_checkInf2 (w : World) (vb va : Value) (b a : List Int) (h1 : Ints w vb b) (h2 : Ints w va a) :
    Calls Tryz.prog 53 #[vb, .slice (some ⟨w.heap.size, 0, none⟩) 1 1] (w.alloc (.cells #[va] tL)) fun e w' => e = .returned (.int .i64 (infA b [a])) ∧ Below w.heap.size w w' := by
  have hlt : ∀ {v : Value} {zs : List Int}, Ints w v zs → ∀ W, (w.alloc (.cells #[va] tL)).grownBy W (some w.heap.size) → Ints W v zs := fun h W hg =>
    h.of_old fun k hk _ => by rw [hg.block k (by simp; omega) (by intro e; injection e with e; omega)]; exact Below.heap_alloc _ _ _ hk
  have h := i_checkInfinitesimal (w.alloc (.cells #[va] tL)) vb (.slice (some ⟨w.heap.size, 0, none⟩) 1 1) w.heap.size [va] b [a] (own_lit w tL [va] (by simp [maxLen])) rfl (by simp) (by simp) (fun W hg => hlt h1 W hg)
    (fun k u zs W hu hz hg => by
      cases k with
      | zero => simp at hu hz; subst hu hz; exact hlt h2 W hg
      | succ k => simp at hu)
  exact h.mono fun e w' ⟨he, hg⟩ => ⟨he, (below1 w (.cells #[va] tL)).grown hg (by simp) (fun b hb => by simp [Value.ownBlock] at hb; omega)⟩
theorem infA_zero {b a : List Int} (h : infA b [a] = 0) : mapB b = true ∧ mapB a = true ∧ b.getD 0 0 = 0 := by
  rw [infA_one] at h
  cases h1 : mapB b with
  | false => rw [h1] at h; simp at h
  | true =>
    cases h2 : mapB a with
    | false => rw [h1, h2] at h; simp at h
    | true =>
      rw [h1, h2] at h
      refine ⟨rfl, rfl, ?_⟩
      by_cases e : b.getD 0 0 = 0
      · exact e
      · rw [Bool.and_self, if_pos rfl, if_neg e] at h; exact absurd h (by decide)
def sbmR (b a : List Int) : List Int := if infA b [a] = 0 then subZ b a else []
set_option maxHeartbeats 8000000 in
theorem i_SubstituteMap (w : World) (vb va : Value) (b a : List Int) (h1 : Ints w vb b) (h2 : Ints w va a) :
    Calls Tryz.prog 18 #[vb, va] w fun e w' => ∃ x, e = .returned (.tuple #[x, .int .i64 (infA b [a])]) ∧ OwnInts w' w.heap.size tI x (sbmR b a) ∧ Below w.heap.size w w' := by
  have HCH := Lib.hid (i_checkInf2 w vb va b a h1 h2)
  have HB1 := Lib.hid h1
  have HA1 := Lib.hid h2
  obtain ⟨Ab, cb, rfl, -, -, -⟩ := h1.open_
  obtain ⟨Aa, ca, rfl, -, -, -⟩ := h2.open_
  clear h1 h2
  by_cases hc : infA b [a] = 0
  · obtain ⟨hm1, hm2, -⟩ := infA_zero hc
    obtain ⟨l1, n1⟩ := mapB_true hm1
    obtain ⟨l2, n2⟩ := mapB_true hm2
    have HR := Lib.hid (show sbmR b a = subZ b a from if_pos hc)
    rw [hc] at HCH ⊢
    have HSU := Lib.hid (fun W Bp vp (hP : Prs W Bp vp) (g1 : Ints W (.slice Ab b.length cb) b) (g2 : Ints W (.slice Aa a.length ca) a) => i_substituted W vp _ _ Bp b a hP g1 l1 n1 g2 l2 n2)
    clear hc hm1 hm2 l1 l2 n1 n2
    go_enter Tryz.func18, Tryz.ntmps18
    go_wp2_with (first
      | (go_at_call 53; go_loud (refine HCH.out.mono ?_; rintro e w0 ⟨rfl, hb0⟩; have HB0 := Lib.hid hb0; clear hb0))
      | (go_at_call 56; go_loud (refine (i_newForms _).mono ?_; rintro e w1 ⟨f, rfl, hf, hb1⟩; obtain ⟨Af, cf, Ay, my, cy, rfl, hrf⟩ := hf.opens; have HRF := Lib.hid hrf; have HB1W := Lib.hid (HB0.out.trans (hb1.mono HB0.out.size)); clear hf hrf hb1))
      | (go_at_call 55; go_loud (refine (i_mapPartitions _ _ Ay my cy HRF.out).mono ?_; rintro e w2 ⟨x2, rfl, hp2, hb2⟩; have HP2 := Lib.hid hp2; have HB2W := Lib.hid (HB1W.out.trans (hb2.mono HB1W.out.size)); clear hp2 hb2))
      | (go_at_call 54; go_loud (refine (HSU.out _ _ _ HP2.out (HB1.out.below HB2W.out) (HA1.out.below HB2W.out)).mono ?_; rintro e w3 ⟨x3, rfl, ho3, hb3⟩; have HO3 := Lib.hid ho3; have HB3 := Lib.hid hb3; clear ho3 hb3)))
    go_ret2
    rw [HR.out]
    exact ⟨_, rfl, HO3.out.mono HB2W.out.size, HB2W.out.trans (HB3.out.mono HB2W.out.size)⟩
  · have hd : (infA b [a] != 0) = true := by simp [hc]
    have HR := Lib.hid (show sbmR b a = [] from if_neg hc)
    rw [HR.out]
    generalize infA b [a] = cc at *
    clear hc HR
    go_enter Tryz.func18, Tryz.ntmps18
    go_wp2_with (go_at_call 53; go_loud (refine HCH.out.mono ?_; rintro e w0 ⟨rfl, hb0⟩; have HB0 := Lib.hid hb0; clear hb0))
    go_ret2
    exact ⟨_, rfl, OwnInts.nil _ _ _, HB0.out⟩
set_option maxHeartbeats 8000000 in
theorem s_SubstituteMap (w : World) (vb va : Value) (b a : List Int) (h1 : Ints w vb b) (h2 : Ints w va a) :
    Calls Tryz.prog 41 #[vb, va] w fun e w' => ∃ x, e = .returned (.tuple #[x, .int .i64 (infA b [a])]) ∧ OwnInts w' w.heap.size tI x (sbmR b a) ∧ Below w.heap.size w w' := by
  have HCH := Lib.hid (s_l16Maps w vb va b a h1 h2)
  have HB1 := Lib.hid h1
  have HA1 := Lib.hid h2
  obtain ⟨Ab, cb, rfl, -, -, -⟩ := h1.open_
  obtain ⟨Aa, ca, rfl, -, -, -⟩ := h2.open_
  clear h1 h2
  by_cases hc : infA b [a] = 0
  · obtain ⟨hm1, hm2, -⟩ := infA_zero hc
    obtain ⟨l1, n1⟩ := mapB_true hm1
    obtain ⟨l2, n2⟩ := mapB_true hm2
    have HR := Lib.hid (show sbmR b a = subZ b a from if_pos hc)
    rw [hc] at HCH ⊢
    have HSU := Lib.hid (s_l16Substitute w _ _ b a HB1.out l1 n1 HA1.out l2 n2)
    clear hc hm1 hm2 l1 l2 n1 n2
    go_enter Tryz.func41, Tryz.ntmps41
    go_wp2_with (first
      | (go_at_call 90; refine HCH.out.mono ?_; rintro e w0 ⟨rfl, rfl⟩)
      | (go_at_call 91; go_loud (refine HSU.out.mono ?_; rintro e w3 ⟨x3, rfl, ho3, hb3⟩; have HO3 := Lib.hid ho3; have HB3 := Lib.hid hb3; clear ho3 hb3)))
    go_ret2
    rw [HR.out]
    exact ⟨_, rfl, HO3.out, HB3.out⟩
  · have hd : (infA b [a] != 0) = true := by simp [hc]
    have HR := Lib.hid (show sbmR b a = [] from if_neg hc)
    rw [HR.out]
    generalize infA b [a] = cc at *
    clear hc HR
    go_enter Tryz.func41, Tryz.ntmps41
    go_wp2_with (go_at_call 90; refine HCH.out.mono ?_; rintro e w0 ⟨rfl, rfl⟩)
    go_ret2
    exact ⟨_, rfl, OwnInts.nil _ _ _, Below.refl _ _⟩
end Go.Proofs.YtngdpoeondnchaaGreat

set_option maxRecDepth 100000
set_option linter.unusedVariables false
set_option linter.unusedSimpArgs false
namespace Go.Proofs.YtngdpoeondnchaaGreat
open Go.RowKit

theorem mapB_of {a : List Int} (l : a.length = 38) (n : Nums a) : mapB a = true := by
  unfold mapB
  rw [Bool.and_eq_true]
  exact ⟨by simp [l], nums_iff.2 n⟩
theorem infA_of {b a : List Int} (lb : b.length = 38) (nb : Nums b) (h0 : b.getD 0 0 = 0) (la : a.length = 38) (na : Nums a) : infA b [a] = 0 := by
  rw [infA_one, mapB_of lb nb, mapB_of la na, Bool.and_self, if_pos rfl, if_pos h0]
set_option maxHeartbeats 4000000 in
theorem i_Convolve0 (w : World) (va vb : Value) (a b : List Int) (h1 : Ints w va a) (h2 : Ints w vb b) (l1 : a.length = 38) (n1 : Nums a) (a0 : a.getD 0 0 = 1) (l2 : b.length = 38) (n2 : Nums b) :
    Calls Tryz.prog 57 #[va, vb] w fun e w' => ∃ x, e = .returned (.tuple #[x, .int .i64 0]) ∧ OwnInts w' w.heap.size tI x (cvZ a b) ∧ Below w.heap.size w w' := by
  have HM1 := Lib.hid (i_IsMap w va a h1)
  have HM2 := Lib.hid (i_IsMap w vb b h2)
  rw [mapB_of l1 n1] at HM1
  rw [mapB_of l2 n2] at HM2
  have HA := Lib.hid h1
  have HB := Lib.hid h2
  obtain ⟨ad, ca, rfl, hc⟩ : ∃ ad ca, va = .slice (some ad) 38 ca ∧ w.cell? ad = some (.int .i64 1) := by
    obtain ⟨Aa, ca, rfl, -, -, -⟩ := h1.open_
    obtain ⟨ad, rfl, hc⟩ := map_head h1 (mapB_of l1 n1)
    rw [a0] at hc
    exact ⟨ad, ca, by rw [l1], hc⟩
  obtain ⟨Ab, cb, rfl, -, -, -⟩ := h2.open_
  rw [l2] at h2 HB HM2 ⊢
  have HMM := Lib.hid (fun W Af cf Bp vp (hP : FrC W Bp vp) (g : Ints W (.slice (some ad) 38 ca) a) (g2 : Ints W (.slice Ab 38 cb) b) => i_convolve W vp _ _ Af cf Bp a b hP g l1 n1 g2 l2 n2)
  clear h1 h2 l1 n1 a0 l2 n2
  go_enter Tryz.func57, Tryz.ntmps57
  go_wp2_with (first
    | (go_at_call 76; (with_reducible refine HM1.out.mono ?_); rintro e w' ⟨rfl, rfl⟩)
    | (go_at_call 76; (with_reducible refine HM2.out.mono ?_); rintro e w' ⟨rfl, rfl⟩)
    | (go_at_call 56; go_loud (refine (i_newForms _).mono ?_; rintro e w1 ⟨f, rfl, hf, hb1⟩; obtain ⟨Af, cf, Ay, cy, rfl, hrf, hfc⟩ := hf.openC; have HRF := Lib.hid hrf; have HFC := Lib.hid hfc; have HB1 := Lib.hid hb1; clear hf hrf hfc hb1))
    | (go_at_call 64; go_loud (refine (HMM.out _ _ _ _ _ HFC.out (HA.out.below HB1.out) (HB.out.below HB1.out)).mono ?_; rintro e w3 ⟨x3, rfl, ho3, hb3⟩; have HO3 := Lib.hid ho3; have HB3 := Lib.hid hb3; clear ho3 hb3)))
  go_ret2
  exact ⟨_, rfl, HO3.out.mono HB1.out.size, HB1.out.trans (HB3.out.mono HB1.out.size)⟩
set_option maxHeartbeats 1000000 in
theorem l_conv9 (w : World) (va vb : Value) (a b : List Int) (h1 : Ints w va a) (h2 : Ints w vb b) (l1 : a.length = 38) (n1 : Nums a) (a0 : a.getD 0 0 = 1) (l2 : b.length = 38) (n2 : Nums b) :
    Calls Tryz.prog 19 #[va, vb] w fun e w' => ∃ x, e = .returned x ∧ OwnInts w' w.heap.size tI x (cvZ a b) ∧ Below w.heap.size w w' := by
  have HC := Lib.hid (i_Convolve0 w va vb a b h1 h2 l1 n1 a0 l2 n2)
  clear h1 h2 l1 n1 a0 l2 n2
  go_enter Tryz.func19, Tryz.ntmps19
  go_wp2_with (go_at_call 57; refine HC.out.mono ?_; rintro e w3 ⟨x3, rfl, ho3, hb3⟩; have HO3 := Lib.hid ho3; have HB3 := Lib.hid hb3; clear ho3 hb3)
  go_ret
  exact ⟨_, rfl, HO3.out, HB3.out⟩
theorem i_SubstMap0 (w : World) (vb va : Value) (b a : List Int) (h1 : Ints w vb b) (h2 : Ints w va a) (lb : b.length = 38) (nb : Nums b) (b0 : b.getD 0 0 = 0) (la : a.length = 38) (na : Nums a) :
    Calls Tryz.prog 18 #[vb, va] w fun e w' => ∃ x, e = .returned (.tuple #[x, .int .i64 0]) ∧ OwnInts w' w.heap.size tI x (subZ b a) ∧ Below w.heap.size w w' := by
  have h := i_SubstituteMap w vb va b a h1 h2
  have hc := infA_of lb nb b0 la na
  rw [hc, show sbmR b a = subZ b a from if_pos hc] at h
  exact h
end Go.Proofs.YtngdpoeondnchaaGreat

set_option maxRecDepth 100000
set_option linter.unusedVariables false
set_option linter.unusedSimpArgs false
namespace Go.Proofs.YtngdpoeondnchaaGreat
open Go.RowKit

theorem OwnInts.src {w w' : World} {C p : Nat} {e : TypeId} {v : Value} {vs : List Int} (h : OwnInts w C e v vs) (hp : p < C) (hg : w.grownBy w' (some p)) : OwnInts w' C e v vs := ⟨h.1.src hp hg, h.2⟩
set_option maxHeartbeats 8000000 in
theorem law_SubstitutedProducts (w : World) (v : Value) (n : Nat) (h : Bts w v n) :
    Calls Tryz.prog 3 #[v] w fun e w' => e = .returned (.bool true) ∧ Below w.heap.size w w' := by
  obtain ⟨A, c, rfl, hb⟩ := h
  have HBG := Lib.hid (l_big w A n c)
  by_cases h4 : 4096 < n
  · have hd : decide (4096 < n) = true := by simp [h4]
    rw [hd] at HBG
    clear hd h4 hb
    go_enter Tryz.func3, Tryz.ntmps3
    go_wp2_with (go_at_call 15; refine HBG.out.mono ?_; rintro e w0 ⟨rfl, rfl⟩)
    go_ret
    exact ⟨rfl, Below.refl _ _⟩
  · have hd : decide (4096 < n) = false := by simp [h4]
    rw [hd] at HBG
    have HRO := Lib.hid (l_roll w A n c 1171 hb (by omega) (by omega) (by omega))
    clear hd h4 hb
    go_enter Tryz.func3, Tryz.ntmps3
    go_upto_region 4 with (first
      | (go_at_call 15; refine HBG.out.mono ?_; rintro e w0 ⟨rfl, rfl⟩)
      | (go_at_call 16; go_loud (refine HRO.out.mono ?_; rintro e w1 ⟨p, rfl, hs1, hb1⟩; have HS1 := Lib.hid hs1; have HB1 := Lib.hid hb1; have hpl := hs1.lt; have hpg := hs1.ge; clear hs1 hb1)))
    go_upto_region 5 with (first
      | (go_at_call 17; (with_reducible refine (l_map9 w1 _ p 0 HS1.out (by omega)).mono ?_); go_loud (rintro e w2 ⟨xb, rfl, zb, ho2, lb, nb, b0, hg2, hs2⟩; obtain ⟨A2, c2, he2, -, -, -⟩ := ho2.ints.open_; rw [lb] at he2; subst he2; have HO2 := Lib.hid ho2; have HN2 := Lib.hid (And.intro lb (And.intro nb b0)); have HG2 := Lib.hid hg2; have HS2 := Lib.hid hs2; clear ho2 lb nb b0 hg2 hs2))
      | (go_at_call 17; (with_reducible refine (l_map9 w2 _ p 1 HS2.out (by omega)).mono ?_); go_loud (rintro e w3 ⟨xa, rfl, za, ho3, la, na, a0, hg3, hs3⟩; obtain ⟨A3, c3, he3, -, -, -⟩ := ho3.ints.open_; rw [la] at he3; subst he3; have HO3 := Lib.hid ho3; have HN3 := Lib.hid (And.intro la (And.intro na a0)); have HG3 := Lib.hid hg3; have HS3 := Lib.hid hs3; clear ho3 la na a0 hg3 hs3))
      | (go_at_call 17; (with_reducible refine (l_map9 w3 _ p 1 HS3.out (by omega)).mono ?_); go_loud (rintro e w4 ⟨xc, rfl, zc, ho4, lc, nc, c0, hg4, hs4⟩; obtain ⟨A4, c4, he4, -, -, -⟩ := ho4.ints.open_; rw [lc] at he4; subst he4; have HO4 := Lib.hid ho4; have HN4 := Lib.hid (And.intro lc (And.intro nc c0)); have HG4 := Lib.hid hg4; clear ho4 lc nc c0 hg4 hs4)))
    have HX2 := Lib.hid (((HO2.out.src hpl HG3.out).src hpl HG4.out).ints)
    have HX3 := Lib.hid ((HO3.out.src (Nat.lt_of_lt_of_le hpl HG2.out.size) HG4.out).ints)
    have HX4 := Lib.hid (HO4.out.ints)
    have HBW := Lib.hid (HB1.out.grown (gtrans (gtrans HG2.out HG3.out) HG4.out) HB1.out.size (fun k e => by injection e with e; omega))
    obtain ⟨lb, nb, b0⟩ := HN2.out
    obtain ⟨la, na, a0⟩ := HN3.out
    obtain ⟨lc, nc, c0⟩ := HN4.out
    have HCV := Lib.hid (fun X (hX : Below w4.heap.size w4 X) => l_conv9 X _ _ za zc (HX3.out.below hX) (HX4.out.below hX) la na a0 lc nc)
    have HSB := Lib.hid (fun X r z (hX : Below w4.heap.size w4 X) (hr : Ints X r z) (lz : z.length = 38) (nz : Nums z) => i_SubstMap0 X _ r zb z (HX2.out.below hX) hr lb nb b0 lz nz)
    have HPA := Lib.hid (show (subZ zb za).getD 0 0 = 1 from a0)
    have HE := Lib.hid (subZ_cvZ (b := zb) (a := za) nc)
    have HNA := Lib.hid na
    have HLA := Lib.hid la
    have HNC := Lib.hid nc
    have HLC := Lib.hid lc
    clear HN2 HN3 HN4 lb nb b0 la na a0 lc nc c0 HO2 HO3 HO4 HG2 HG3 HG4 HS1 HS2 HS3 hpl hpg HRO HBG HB1
    go_wp2_with (first
      | (go_at_call 19; (with_reducible refine (HCV.out w4 (Below.refl _ _)).mono ?_); go_loud (rintro e w5 ⟨x5, rfl, ho5, hb5⟩; have HX5 := Lib.hid ho5.ints; have HB5 := Lib.hid hb5; clear ho5 hb5))
      | (go_at_call 18; (with_reducible refine (HSB.out w5 x5 _ HB5.out HX5.out (cvZ_len _ _) (cvZ_nums HNC.out)).mono ?_); go_loud (rintro e w6 ⟨x6, rfl, ho6, hb6⟩; have HX6 := Lib.hid ho6.ints; have HB6 := Lib.hid (HB5.out.trans (hb6.mono HB5.out.size)); clear ho6 hb6))
      | (go_at_call 18; (with_reducible refine (HSB.out w6 _ _ HB6.out (HX3.out.below HB6.out) HLA.out HNA.out).mono ?_); go_loud (rintro e w7 ⟨x7, rfl, ho7, hb7⟩; have HX7 := Lib.hid ho7.ints; have HB7 := Lib.hid (HB6.out.trans (hb7.mono HB6.out.size)); have HC6 := Lib.hid (HX6.out.below hb7); clear ho7 hb7))
      | (go_at_call 18; (with_reducible refine (HSB.out w7 _ _ HB7.out (HX4.out.below HB7.out) HLC.out HNC.out).mono ?_); go_loud (rintro e w8 ⟨x8, rfl, ho8, hb8⟩; have HX8 := Lib.hid ho8.ints; have HB8 := Lib.hid (HB7.out.trans (hb8.mono HB7.out.size)); have HD6 := Lib.hid (HC6.out.below hb8); have HD7 := Lib.hid (HX7.out.below hb8); clear ho8 hb8))
      | (go_at_call 20; (refine (l_whole9 _ _ _ HD6.out).mono ?_); rintro e w9 ⟨rfl, rfl⟩)
      | (go_at_call 19; (refine (l_conv9 _ _ _ _ _ HD7.out HX8.out (subZ_len _ _) (subZ_nums HNA.out) HPA.out (subZ_len _ _) (subZ_nums HNC.out)).mono ?_); go_loud (rintro e w10 ⟨x10, rfl, ho10, hb10⟩; have HX10 := Lib.hid ho10.ints; have HB10 := Lib.hid (HB8.out.trans (hb10.mono HB8.out.size)); have HE6 := Lib.hid (HD6.out.below hb10); clear ho10 hb10))
      | (go_at_call 21; (refine (l_likeInts _ _ _ _ _ HX10.out HE6.out).mono ?_); go_loud (rintro e w11 ⟨rfl, n11, hw11⟩; have HB11 := Lib.hid (show Below w4.heap.size w4 w11 from by rw [hw11]; exact below_drewN HB10.out n11); clear hw11)))
    go_ret
    exact ⟨ret_bool (decide_eq_true HE.out.symm), HBW.out.trans (HB11.out.mono HBW.out.size)⟩
end Go.Proofs.YtngdpoeondnchaaGreat

set_option maxRecDepth 100000
set_option linter.unusedVariables false
set_option linter.unusedSimpArgs false
namespace Go.Proofs.YtngdpoeondnchaaGreat
open Go.ChangeShapes Go.WideShapes Go.ChangeAt Go.RowKit

end Go.Proofs.YtngdpoeondnchaaGreat

set_option maxRecDepth 100000
set_option linter.unusedVariables false
set_option linter.unusedSimpArgs false
namespace Go.Proofs.YtngdpoeondnchaaGreat
open Go.ChangeShapes Go.WideShapes Go.ChangeAt Go.RowKit

theorem u8_of_wf {z : Int} (h : (Lit.int .u8 z).wf = true) : 0 ≤ z ∧ z ≤ 255 := by
  simp [Lit.wf, IntKind.min, IntKind.max, IntKind.signed, IntKind.bits] at h
  omega
theorem open_bytes {H : Type} {enc : TypeId × Value → H} {W : World} {base : Nat} {v : Value} {d : DataW H} {p : List MemPlace}
    (hv : Value.okWide Tryz.prog W .any base 22 v) (h : DataW.Trod enc Tryz.prog W 0 (fun _ => true) true 22 v d p) : ∃ n, Bts W v n := by
  obtain ⟨a, len, cap, rfl⟩ := okWide_slice Tryz.underlying22 hv
  obtain ⟨fuel, hf⟩ := h
  rcases open_ints Tryz.underlying22 Tryz.underlying5 (by kernel_rfl) hf with ⟨hcs, _⟩ | ⟨x, l, c, zs, hcs, _, hl, hm, hz, _, hcell, hwz⟩
  · simp [Value.cells] at hcs
    obtain ⟨rfl, rfl, rfl⟩ := hcs
    exact ⟨0, none, 0, rfl, fun k hk => by omega⟩
  · simp [Value.cells] at hcs
    obtain ⟨rfl, rfl, rfl⟩ := hcs
    have hz' : zs.length = cap := by simpa using hz
    refine ⟨len, some x, cap, rfl, fun k hk => ?_⟩
    have hk2 : k < zs.length := by omega
    have hc := hcell k (by omega)
    have hw := u8_of_wf (hwz _ (List.getElem_mem hk2))
    have e : zs.getD k 0 = zs[k] := by simp [List.getD, hk2]
    rw [e] at hc
    have hb := World.block_lt_of_cell? W _ hc
    rw [block_add] at hb
    exact ⟨x, zs[k], rfl, hb, hb, hw.1, hw.2, hc⟩
end Go.Proofs.YtngdpoeondnchaaGreat

set_option maxRecDepth 100000
set_option linter.unusedVariables false
set_option linter.unusedSimpArgs false
namespace Go.Proofs.YtngdpoeondnchaaGreat
open Go.RowKit

abbrev tSc : TypeId := 111
set_option maxHeartbeats 4000000 in
theorem s_l01Next (w : World) (B p : Nat) (n : Int) (h : Src w B tSc p) (hn : n ≤ 4611686018427387904) (hn0 : 1 ≤ n) :
    Calls Tryz.prog 127 #[at0 p, .int .i64 n] w fun e w' => ∃ x, e = .returned (.int .i64 x) ∧ 0 ≤ x ∧ x < n ∧ w.grownBy w' (some p) ∧ Src w' B tSc p := by
  obtain ⟨A, m, c, k, hs, hk, hB, hby, hkm, hm, h0, h1⟩ := h
  have HK := Lib.hid hk
  have HBY := Lib.hid hby
  have k2 : w.cell? ⟨p, 2, none⟩ = some (.int .u64 hs) := hk.cell 2
  have f2 : w.frozen? ⟨p, 2, none⟩ = false := hk.frozen 2
  clear hk hby
  go_enter Tryz.func127, Tryz.ntmps127
  go_upto_region 5 with fail
  obtain ⟨x, y, hx, x0, x1, hy, hw, y0, y1⟩ := hash_bd (IntKind.u64.wrap (hs * 6364136223846793005) + 1442695040888963407)
  rw [← hx, hw, ← hy]
  clear hx hy hw h0 h1 f2 k2
  have HK1 := Lib.hid (HK.out.set_ 2 (.int .u64 x))
  have HG1 := Lib.hid (gset w p 2 (.int .u64 x))
  generalize w.setCell ⟨p, 2, none⟩ (.int .u64 x) = w1 at HK1 HG1 ⊢
  generalize x / 8589934592 = x9
  generalize IntKind.u64.wrap (hs * 6364136223846793005) = x8
  have HBY1 := Lib.hid (HBY.out.grown HG1.out hB)
  have HK1 := Lib.hid (show Blk w1 p tSc #[.slice A m c, .int .i64 k, .int .u64 x] from HK1.out)
  have k0 : w1.cell? ⟨p, 0, none⟩ = some (.slice A m c) := HK1.out.cell 0
  have k1 : w1.cell? ⟨p, 1, none⟩ = some (.int .i64 k) := HK1.out.cell 1
  have f1 : w1.frozen? ⟨p, 1, none⟩ = false := HK1.out.frozen 1
  clear HK HBY
  by_cases hlt : k < m
  · obtain ⟨ad, z, rfl, a1, a2, z0, z1, hc⟩ := HBY1.out k hlt
    have hkk : (k : Int) < (m : Int) := by omega
    have hw1 : wrap64 (y + z) = y + z := w64_dr _ (by omega)
    have hwk : wrap64 ((k : Int) + 1) = (k : Int) + 1 := w64_dr _ (by omega)
    clear a1 a2
    go_quiet (fail)
    go_upto_region 6 with fail
    rename Nat => nq0
    have k0' : (w1.drewN nq0).cell? ⟨p, 0, none⟩ = some (.slice (some ad) m c) := k0
    have k1' : (w1.drewN nq0).cell? ⟨p, 1, none⟩ = some (.int .i64 k) := k1
    have hc' : (w1.drewN nq0).cell? (ad.add k) = some (.int .u8 z) := hc
    go_quiet (fail)
    go_wp2_with fail
    go_ret
    obtain ⟨r0, r1⟩ := rem_bd (x := y + z) (n := n) (by omega) hn0
    have HB2 : w1.grownBy ((w1.drewN (nq0 + nq)).setCell ⟨p, 1, none⟩ (.int .i64 ((k : Int) + 1))) (some p) := gtrans (gof (below_drewN (Below.refl _ _) _)) (gset _ _ _ _)
    exact ⟨_, rfl, r0, r1, gtrans HG1.out HB2, some ad, m, c, k + 1, x, by simpa using (HK1.out.drewN _).set_ 1 (.int .i64 ((k : Int) + 1)), hB, HBY1.out.grown HB2 hB, hlt, hm, x0, x1⟩
  · have hkk : ¬ ((k : Int) < (m : Int)) := by omega
    go_quiet (fail)
    go_wp2_with fail
    go_ret
    obtain ⟨r0, r1⟩ := rem_bd (x := y) (n := n) (by omega) hn0
    rename Nat => nq0
    have HB2 : w1.grownBy (w1.drewN nq0) (some p) := gof (below_drewN (Below.refl _ _) _)
    exact ⟨_, rfl, r0, r1, gtrans HG1.out HB2, A, m, c, k, x, HK1.out.drewN _, hB, HBY1.out.grown HB2 hB, hkm, hm, x0, x1⟩
set_option maxHeartbeats 4000000 in
theorem s_l01From (w : World) (A : Option Addr) (n c : Nat) (hb : ByB w w.heap.size A n) (hn : n ≤ 4096) :
    Calls Tryz.prog 87 #[.slice A n c] w fun e w' => ∃ p, e = .returned (at0 p) ∧ Src w' w.heap.size tSc p ∧ Below w.heap.size w w' := by
  have HBY := Lib.hid hb
  have hs2 : 0 ≤ 5381 + (n : Int) ∧ 5381 + (n : Int) < 18446744073709551616 := by omega
  clear hb
  go_enter Tryz.func87, Tryz.ntmps87
  go_wp2_with fail
  obtain ⟨h0, hh0⟩ : ∃ h0, h0 = 5381 + (n : Int) := ⟨_, rfl⟩
  rw [← hh0] at hs2 ⊢
  obtain ⟨W, hW⟩ : ∃ W, W = w.alloc (Obj.cells #[Value.slice A n c, Value.int IntKind.i64 0, Value.int IntKind.u64 h0] tSc) := ⟨_, rfl⟩
  have HBW := Lib.hid (show Below w.heap.size w W from by rw [hW]; exact below1 w _)
  have HK := Lib.hid (show Blk W w.heap.size tSc #[Value.slice A n c, Value.int IntKind.i64 0, Value.int IntKind.u64 h0] from by rw [hW]; exact Blk.new _ _ _)
  rw [← hW]
  clear hW hh0
  obtain ⟨g0, g1⟩ := hs2
  go_loopw [4] (fun x wr => ∃ (j : Nat) (h : Int), j ≤ n ∧ x = .int .i64 j ∧ 0 ≤ h ∧ h < 18446744073709551616 ∧ Blk wr w.heap.size tSc #[Value.slice A n c, Value.int IntKind.i64 0, Value.int IntKind.u64 h] ∧ Below w.heap.size w wr) (fun x _ => n - (intOf x).toNat)
  case atStart => exact ⟨0, h0, Nat.zero_le _, rfl, g0, g1, HK.out, HBW.out⟩
  case round =>
    obtain ⟨j, h, hj, rfl, q0, q1, hk, hb⟩ := hrel
    rename World => wq
    clear HK HBW
    have HK := Lib.hid hk
    have HB := Lib.hid hb
    have k2 : wq.cell? ⟨w.heap.size, 2, none⟩ = some (.int .u64 h) := hk.cell 2
    have f2 : wq.frozen? ⟨w.heap.size, 2, none⟩ = false := hk.frozen 2
    clear hk hb
    by_cases hlt : j < n
    · have hj4 : (j : Int) < 4096 := by omega
      have hjj : (j : Int) < (n : Int) := by omega
      obtain ⟨ad, z, rfl, a1, a2, z0, z1, hc⟩ := HBY.out j hlt
      have hc1 : wq.cell? (ad.add j) = some (.int .u8 z) := by rw [HB.out.cell (by rw [block_add]; exact a1)]; exact hc
      have hjk : wrap64 ((j : Int) + 1) = (j : Int) + 1 := w64_dr _ (by omega)
      clear a1 a2 hc
      go_upto_region 5 with fail
      go_region_law (fail)
      all_goals
        obtain ⟨y, hy⟩ : ∃ y, y = IntKind.u64.wrap (IntKind.u64.wrap (IntKind.u64.wrap (h * 1099511628211) + IntKind.u64.wrap z) + 11) := ⟨_, rfl⟩
        obtain ⟨b0, b1⟩ : 0 ≤ y ∧ y < 18446744073709551616 := by rw [hy]; exact u64_bd _
        rw [← hy]
        clear hy
        go_wp2_with fail
        go_roundw
        case rel =>
          exact ⟨j + 1, _, by omega, by go_num, b0, b1, (HK.out.set_ 2 _).drewN 1, (HB.out.setCell (Nat.le_refl _) _).drew⟩
        case measure => simp [intOf]; omega
    · have hjn : j = n := by omega
      subst hjn
      go_wp2_with fail
      go_ret
      exact ⟨_, rfl, ⟨A, j, c, 0, h, HK.out, Nat.le_refl _, fun k hk => by obtain ⟨ad, z, e, a1, a2, z0, z1, hc⟩ := HBY.out k hk; exact ⟨ad, z, e, a1, Nat.lt_of_lt_of_le a1 HB.out.size, z0, z1, by rw [HB.out.cell (by rw [block_add]; exact a1)]; exact hc⟩, Nat.zero_le _, (by omega), q0, q1⟩, HB.out⟩
end Go.Proofs.YtngdpoeondnchaaGreat

set_option maxRecDepth 100000
set_option linter.unusedVariables false
set_option linter.unusedSimpArgs false
namespace Go.Proofs.YtngdpoeondnchaaGreat
open Go.RowKit

theorem wrap_i64 (x : Int) (h : -9223372036854775808 ≤ x ∧ x ≤ 9223372036854775807) : IntKind.i64.wrap x = x := IntWalk.i64_in _ (by omega)
/-- a literal list of numbers is kept where the source changes -/
theorem lit_keep (w : World) (p : Nat) (zs : List Int) (hz : ∀ z ∈ zs, In64 z) (hl : zs.length ≤ 1000) (hp : p < w.heap.size) :
    ∀ W, (w.alloc (.cells (ints zs).toArray tI)).grownBy W (some p) → Ints W (.slice (some ⟨w.heap.size, 0, none⟩) zs.length zs.length) zs := fun W hg => by
  have h := own_lit w tI (ints zs) (by rw [ints_len]; simp [maxLen]; omega)
  rw [ints_len] at h
  exact ⟨(h.kept hg (.inr (fun e => by simp [Value.ownBlock] at e; omega))).cells, hz⟩
set_option maxHeartbeats 4000000 in
theorem s_l01Pick (w : World) (B p : Nat) (v : Value) (zs : List Int) (h : Src w B tSc p) (hv : ∀ W, w.grownBy W (some p) → Ints W v zs) (h1 : 1 ≤ zs.length) (h2 : zs.length ≤ 1000) :
    Calls Tryz.prog 89 #[at0 p, v] w fun e w' => ∃ z, e = .returned (.int .i64 z) ∧ z ∈ zs ∧ w.grownBy w' (some p) ∧ Src w' B tSc p := by
  obtain ⟨A, c, rfl, g1, g2, g3⟩ := (hv w (World.grownBy.refl _ _)).open_
  have HV := Lib.hid hv
  have HN := Lib.hid (s_l01Next w B p (zs.length : Nat) h (by omega) (by omega))
  clear g3 h hv
  go_enter Tryz.func89, Tryz.ntmps89
  go_wp2_with (go_at_call 127; go_loud (refine HN.out.mono ?_; rintro e w1 ⟨x, rfl, x0, x1, hg, hs⟩; obtain ⟨k, rfl⟩ : ∃ k : Nat, x = k := ⟨x.toNat, by omega⟩; obtain ⟨A', c', he, -, -, g3⟩ := (HV.out w1 hg).open_; (simp only [Value.slice.injEq] at he); obtain ⟨rfl, -, rfl⟩ := he; obtain ⟨ad, z, rfl, hz, hz2, hc⟩ := g3 k (by omega); have HZ := Lib.hid (List.mem_of_getElem? hz); have HG := Lib.hid hg; have HS := Lib.hid hs; have hkl : k < zs.length := (by omega); clear g3 hz hz2 hg hs x0 x1))
  go_ret
  exact ⟨_, rfl, HZ.out, HG.out, HS.out⟩
theorem nume_bd (x : Int) : 0 ≤ x % 10007 ∧ x % 10007 ≤ 10006 := by omega
set_option maxHeartbeats 1000000 in
theorem s_l01FracZ (w : World) (p q : Int) (h0 : -1000000 ≤ p) (h1 : p ≤ 1000000) (g0 : 0 ≤ q) (g1 : q ≤ 1000000) :
    Calls Tryz.prog 79 #[.int .i64 p, .int .i64 q] w fun e w' => ∃ z, e = .returned (.int .i64 z) ∧ (0 ≤ z ∧ z ≤ 10006) ∧ w = w' := by
  have hp := pw_bd (q % 10007) 10005
  have hq : 0 ≤ q % 10007 ∧ q % 10007 ≤ 10006 := by omega
  have hq2 : 0 ≤ p % 10007 ∧ p % 10007 ≤ 10006 := by omega
  go_enter Tryz.func79, Tryz.ntmps79
  go_wp2_with (first
    | (go_at_call 98; (with_reducible refine (s_l01Inv _ _ (by omega) (by omega)).mono ?_); rintro e w2 ⟨rfl, rfl⟩)
    | (go_at_call 96; (with_reducible refine (s_l01Mul _ _ _ (by omega) (by omega) (by omega) (by omega)).mono ?_); rintro e w2 ⟨rfl, rfl⟩)
    | (go_at_call 117; (with_reducible refine (s_l01Mod _ _ (by omega) (by omega)).mono ?_); rintro e w2 ⟨rfl, rfl⟩))
  go_ret
  exact ⟨_, rfl, nume_bd _, rfl⟩
set_option maxHeartbeats 4000000 in
theorem s_l01Number (w : World) (B p : Nat) (h : Src w B tSc p) :
    Calls Tryz.prog 128 #[at0 p] w fun e w' => ∃ z, e = .returned (.int .i64 z) ∧ (0 ≤ z ∧ z ≤ 10006) ∧ w.grownBy w' (some p) ∧ Src w' B tSc p := by
  have HN := Lib.hid (s_l01Next w B p 5 h (by omega) (by omega))
  have hpl := h.lt
  clear h
  go_enter Tryz.func128, Tryz.ntmps128
  go_upto_region 2 with (go_at_call 127; go_loud (refine HN.out.mono ?_; rintro e w1 ⟨x, rfl, x0, x1, hg, hs⟩; have HG := Lib.hid hg; have HS := Lib.hid hs; clear hg hs))
  have hpl1 : p < w1.heap.size := Nat.lt_of_lt_of_le hpl HG.out.size
  by_cases hx0 : x = 0
  · have hd0 : (x == 0) = true := by simp [hx0]
    have HN1 := Lib.hid (s_l01Next w1 B p 10007 HS.out (by omega) (by omega))
    clear hx0 x0 x1
    go_wp2_with (go_at_call 127; go_loud (refine HN1.out.mono ?_; rintro e w2 ⟨y, rfl, y0, y1, hg, hs⟩; have HG2 := Lib.hid (gtrans HG.out hg); have HS2 := Lib.hid hs; clear hg hs))
    go_ret
    exact ⟨_, rfl, ⟨y0, by omega⟩, HG2.out, HS2.out⟩
  · have hd0 : (x == 0) = false := by simp [hx0]
    by_cases hx1 : x = 1
    · have hd1 : (x == 1) = true := by simp [hx1]
      have HL := Lib.hid (lit_keep w1 p [0, 1, 0, 1, 10006, 2] (by intro z hz; simp at hz; unfold In64; omega) (by simp) hpl1)
      have HSL := Lib.hid (HS.out.below (below1 w1 (.cells (ints [0, 1, 0, 1, 10006, 2]).toArray tI)))
      have HPK := Lib.hid (s_l01Pick _ B p _ [0, 1, 0, 1, 10006, 2] HSL.out HL.out (by simp) (by simp))
      clear hx0 hx1 x0 x1
      go_wp2_with (go_at_call 89; go_loud (refine HPK.out.mono ?_; rintro e w2 ⟨y, rfl, hy, hg, hs⟩; have HG2 := Lib.hid (gtrans (gtrans HG.out (gof (below1 w1 _))) hg); have HS2 := Lib.hid hs; have HY := Lib.hid hy; clear hg hs hy))
      go_ret
      exact ⟨_, rfl, by have := HY.out; simp at this; omega, HG2.out, HS2.out⟩
    · have hd1 : (x == 1) = false := by simp [hx1]
      have HN1 := Lib.hid (s_l01Next w1 B p 15 HS.out (by omega) (by omega))
      have hw := fun y (h : 0 ≤ y ∧ y < 15) => wrap_i64 (y - 7) (by omega)
      have hw2 := fun y (h : 0 ≤ y ∧ y < 12) => w64_dr (1 + y) (by omega)
      clear hx0 hx1 x0 x1
      go_wp2_with (first
        | (go_at_call 127; (with_reducible refine HN1.out.mono ?_); go_loud (rintro e w2 ⟨y, rfl, y0, y1, hg, hs⟩; have HG2 := Lib.hid (gtrans HG.out hg); have HS2 := Lib.hid hs; have hwy := hw y ⟨y0, y1⟩; clear hg hs))
        | (go_at_call 127; (with_reducible refine (s_l01Next w2 B p 12 HS2.out (by omega) (by omega)).mono ?_); go_loud (rintro e w3 ⟨u, rfl, u0, u1, hg, hs⟩; have HG3 := Lib.hid (gtrans HG2.out hg); have HS3 := Lib.hid hs; have hwu := hw2 u ⟨u0, u1⟩; clear hg hs))
        | (go_at_call 79; go_loud (refine (s_l01FracZ _ _ _ (by omega) (by omega) (by omega) (by omega)).mono ?_; rintro e w4 ⟨z, rfl, hz, rfl⟩; have HZ := Lib.hid hz; clear hz)))
      go_ret
      exact ⟨_, rfl, HZ.out, HG3.out, HS3.out⟩
end Go.Proofs.YtngdpoeondnchaaGreat

