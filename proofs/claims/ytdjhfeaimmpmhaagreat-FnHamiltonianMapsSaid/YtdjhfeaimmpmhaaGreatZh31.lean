/- Walks: HamiltonianOf of the program and of the reference. | The partitions of the trees of maps by places: the pieces', the skeleton's, how often. (printed by sbtgen.py) No walk. | Plain: substitution by a table of places is associative, has a unit on either side, and goes into convolutions; kernel checks. No walk. | Words of memory: partitions by places, and lists of lists of them. No walk. | FnExactSubstitutionUnit is true: the program's SubstitutionUnit and the reference's return the same list, each in memory of its own. No condition. | Plain: substitution of maps, its inverse, and the map whose substitution is another one, as both reckon them. No walk. | Plain: substitution of lists of numbers is the one by the table of places; associative, units, inverses on both sides, powers. No walk. -/
import Derived.Test.YtdjhfeaimmpmhaaGreatZh27
import Derived.Test.YtdjhfeaimmpmhaaGreatZh30
import Derived.Test.YtdjhfeaimmpmhaaGreatZh5
import Derived.Test.YtdjhfeaimmpmhaaGreatZh20
import Derived.Test.YtdjhfeaimmpmhaaGreatZh29
import Derived.Test.YtdjhfeaimmpmhaaGreatZh22
import Derived.Test.YtdjhfeaimmpmhaaGreatZh21
import Derived.Test.YtdjhfeaimmpmhaaGreatRows
import Derived.Test.YtdjhfeaimmpmhaaGreatZh1
import Derived.WalkLawsBesides
import Derived.Test.YtdjhfeaimmpmhaaGreatZh2
set_option maxRecDepth 100000
set_option linter.unusedVariables false
set_option linter.unusedSimpArgs false
namespace Go.Proofs.YtdjhfeaimmpmhaaGreat
open Go.RowKit

def C6 : List (List Nat) := [[0], [0, 1, 2], [0, 1, 2, 2], [0, 1, 2, 3, 4], [0, 1, 2, 3, 3], [0, 1, 2, 2, 2], [0, 1, 2, 3, 4, 4], [0, 1, 2, 3, 4, 3], [0, 1, 2, 3, 3, 3], [0, 1, 2, 2, 2, 2]]
theorem C6_eq : allG cndN 6 = C6 := eqLL_eq (by decide +kernel)
def T6 : List (List Nat) := allG treesN 6
theorem T6_len : T6.length = 37 := by decide +kernel
/-- one more than the place of a tree's free form among the free conditions, or 0 -/
def hIdx (t : List Nat) : Nat := match freeO t with
  | some fr => idxN C6 fr
  | none => 0
def hamV (zs : List Int) (t : List Nat) : Int := match hIdx t with
  | 0 => 0
  | i + 1 => if evN t then zs.getD i 0 else (-(zs.getD i 0)) % 10007
def hamZ (zs : List Int) : List Int := 0 :: T6.map (hamV zs)
def hamOk (zs : List Int) : Bool := decide (zs.length = 10) && nums zs
def hamR (zs : List Int) : List Int := if hamOk zs then hamZ zs else []
def hamC (zs : List Int) : Int := if hamOk zs then 0 else 2

def okH (t : List Nat) : Bool := lvl t && (Nat.ble t.length 8 && (t.all fun l => Nat.ble l 8)) && (match freeO t, rootedO t, rooV t t.length with
  | some fr, some rs, some ((fo, _) :: _) => eqN fr fo && (Nat.beq rs.length t.length && (Nat.beq (idxN C6 fr) (fndN C6 fo) && (Nat.ble (idxN C6 fr) 10 &&
      (Nat.beq (idxN C6 fr) 0 || eqB (sgF t fo t.length 0) (evN t)))))
  | _, _, _ => false)
theorem okH_6 : T6.all okH = true := by decide +kernel
theorem eqB_iff {o : Option Bool} {b : Bool} (h : eqB o b = true) : o = some b := by
  cases o with
  | none => cases h
  | some a => cases a <;> cases b <;> first | rfl | cases h
theorem okH_at {t : List Nat} (ht : t ∈ T6) : lvl t = true ∧ t.length ≤ 8 ∧ (∀ l ∈ t, l ≤ 1000000) ∧ ∃ fr rs k ys, freeO t = some fr ∧ rootedO t = some rs ∧ rs.length = t.length ∧ rooV t t.length = some ((fr, k) :: ys) ∧
    fndN C6 fr = idxN C6 fr ∧ idxN C6 fr ≤ 10 ∧ (idxN C6 fr ≠ 0 → sgF t fr t.length 0 = some (evN t)) := by
  have h := okH_6
  rw [List.all_eq_true] at h
  have h1 := h t ht
  unfold okH at h1
  simp only [Bool.and_eq_true] at h1
  obtain ⟨⟨h2, h3, h4⟩, h5⟩ := h1
  refine ⟨h2, Nat.le_of_ble_eq_true h3, fun l hl => ?_, ?_⟩
  · rw [List.all_eq_true] at h4
    have := Nat.le_of_ble_eq_true (h4 l hl); omega
  · cases hf : freeO t with
    | none => rw [hf] at h5; cases h5
    | some fr =>
      cases hr : rootedO t with
      | none => rw [hf, hr] at h5; cases h5
      | some rs =>
        cases hv : rooV t t.length with
        | none => rw [hf, hr, hv] at h5; cases h5
        | some xs =>
          cases xs with
          | nil => rw [hf, hr, hv] at h5; cases h5
          | cons x ys =>
            obtain ⟨fo, k⟩ := x
            rw [hf, hr, hv] at h5
            simp only [Bool.and_eq_true, Bool.or_eq_true] at h5
            obtain ⟨a1, a2, a3, a4, a5⟩ := h5
            have e := eqN_iff.1 a1
            subst e
            refine ⟨fr, rs, k, ys, rfl, rfl, Nat.eq_of_beq_eq_true a2, rfl, (Nat.eq_of_beq_eq_true a3).symm, Nat.le_of_ble_eq_true a4, fun hne => ?_⟩
            rcases a5 with a5 | a5
            · exact absurd (Nat.eq_of_beq_eq_true a5) hne
            · exact eqB_iff a5
theorem hamV_is (zs : List Int) {t fr : List Nat} (hf : freeO t = some fr) : hamV zs t = match idxN C6 fr with
  | 0 => 0
  | i + 1 => if evN t then zs.getD i 0 else (-(zs.getD i 0)) % 10007 := by
  unfold hamV hIdx
  rw [hf]

theorem own_snoc {w : World} {B : Nat} {v : Value} {l : List Int} {z : Int} (h : ∀ y ∈ l, In64 y) (hz : In64 z) (ho : Own w B tI v (ints l ++ [.int .i64 z])) : OwnInts w B tI v (l ++ [z]) := by
  refine ⟨by simpa [ints] using ho, fun y hy => ?_⟩
  rcases List.mem_append.1 hy with hy | hy
  · exact h y hy
  · simp at hy; subst hy; exact hz
theorem LA.keptLt {w w' : World} {B g : Nat} {v : Value} {xss : List (List Int)} (h : LA w B v xss) (hg : w.grownBy w' (some g)) (hlt : g < B) : LA w' B v xss := by
  obtain ⟨vs, h1, h2, h3⟩ := h
  have ne : ∀ u : Value, (∀ b, u.ownBlock = some b → B ≤ b) → u.ownBlock = none ∨ u.ownBlock ≠ some g := fun u hu => by
    cases hb : u.ownBlock with
    | none => exact .inl rfl
    | some b => exact .inr fun e => by injection e with e; have := hu b hb; omega
  exact ⟨vs, h1.kept hg (ne v h1.ge), ⟨h2.1, fun k u zs hu hz => ⟨(h2.2 k u zs hu hz).1.kept hg (ne u (h2.2 k u zs hu hz).1.ge), (h2.2 k u zs hu hz).2⟩⟩, h3⟩

set_option maxHeartbeats 8000000 in
theorem i_HamiltonianOf (w : World) (v : Value) (zs : List Int) (ha : Ints w v zs) :
    Calls Tryz.prog 11 #[v] w fun e w' => ∃ x, e = .returned (.tuple #[x, .int .i64 (hamC zs)]) ∧ OwnInts w' w.heap.size tI x (hamR zs) ∧ Below w.heap.size w w' := by
  have HA := Lib.hid ha
  obtain ⟨A, c, rfl, l1, l2, h3⟩ := ha.open_
  have H3 := Lib.hid h3
  clear ha h3
  by_cases h10 : zs.length = 10
  · have hd : ((zs.length : Int) != 10) = false := by simp [h10]
    have H10 := Lib.hid h10
    cases hn : nums zs with
    | false =>
      have HC := Lib.hid (show hamC zs = 2 from by simp [hamC, hamOk, hn])
      have HR := Lib.hid (show hamR zs = [] from by simp [hamR, hamOk, hn])
      rw [HC.out, HR.out]
      have HNA := Lib.hid (fun W (h : Ints W (.slice A zs.length c) zs) => show Calls Tryz.prog 54 #[.slice A zs.length c] W fun e w' => e = .returned (.bool false) ∧ W = w' from by have h2 := i_areNumbers W _ zs h; rw [hn] at h2; exact h2)
      clear hn h10
      go_enter Tryz.func11, Tryz.ntmps11
      go_wp2_with (go_at_call 54; refine (HNA.out _ HA.out).mono ?_; rintro e w1 ⟨rfl, rfl⟩)
      go_ret2
      exact ⟨_, rfl, OwnInts.nil _ _ _, Below.refl _ _⟩
    | true =>
      have HC := Lib.hid (show hamC zs = 0 from by simp [hamC, hamOk, hn, h10])
      have HR := Lib.hid (show hamR zs = hamZ zs from by simp [hamR, hamOk, hn, h10])
      rw [HC.out, HR.out]
      have HNU := Lib.hid (nums_iff.1 hn)
      have HNA := Lib.hid (fun W (h : Ints W (.slice A zs.length c) zs) => show Calls Tryz.prog 54 #[.slice A zs.length c] W fun e w' => e = .returned (.bool true) ∧ W = w' from by have h2 := i_areNumbers W _ zs h; rw [hn] at h2; exact h2)
      clear hn h10
      have OL := Lib.hid (show OwnInts (w.alloc (.cells #[.int .i64 0] tI)) w.heap.size tI (.slice (some ⟨w.heap.size, 0, none⟩) 1 1) (0 :: (T6.take 0).map (hamV zs)) from ⟨own_lit w tI [.int .i64 0] (by simp [maxLen]), fun z hz => by simp at hz; subst hz; unfold In64; omega⟩)
      go_enter Tryz.func11, Tryz.ntmps11
      go_wp2_with (first
        | (go_at_call 54; refine (HNA.out _ HA.out).mono ?_; rintro e w1 ⟨rfl, rfl⟩)
        | (go_at_call 55; go_loud (refine (i_allConditions _).mono ?_; rintro e w2 ⟨x2, rfl, hl2, hb2⟩; rw [C6_eq] at hl2; have HSZ2 := Lib.hid (show w.heap.size + 1 ≤ w2.heap.size from by have := hb2.size; simpa using this); have HB2 := Lib.hid ((below1 w (.cells #[.int .i64 0] tI)).trans (hb2.mono (by simp))); have OL2 := Lib.hid (OL.out.below hb2); have HL2 := Lib.hid hl2; clear hl2 hb2))
        | (go_at_call 56; go_loud (refine (i_treesTo _ 6 (by omega)).mono ?_; rintro e w3 ⟨x3, rfl, hl3, hb3⟩; rw [show allG treesN 6 = T6 from rfl] at hl3; obtain ⟨A3, c3, he3, -, -, -⟩ := hl3.rows.open_; rw [List.length_map, T6_len] at he3; subst he3; obtain ⟨A2, c2, he2, -, -, -⟩ := HL2.out.rows.open_; rw [List.length_map, show C6.length = 10 from rfl] at he2; subst he2; have HLTB := Lib.hid (show w.heap.size < w2.heap.size from HSZ2.out); have HQ3 := Lib.hid hl3; have HB3 := Lib.hid (HB2.out.trans (hb3.mono HB2.out.size)); have OL3 := Lib.hid (OL2.out.below hb3); have HL3 := Lib.hid (HL2.out.below hb3); clear hl3 hb3)))
      go_loopw [4, 21] (fun o x wr => ∃ i : Nat, i ≤ 37 ∧ x = .int .i64 i ∧ OwnInts wr w.heap.size tI o (0 :: (T6.take i).map (hamV zs)) ∧ Grow w3 wr (.slice (some ⟨w.heap.size, 0, none⟩) 1 1) o) (fun _ x _ => 37 - (intOf x).toNat)
      case atStart => exact ⟨0, Nat.zero_le _, rfl, OL3.out, Grow.refl _ _⟩
      case round =>
        obtain ⟨i, hi, rfl, ho, hg⟩ := hrel
        obtain ⟨Ao, co, rfl, -, -⟩ := ho.1.cells.open_
        have HOL := Lib.hid (show (ints (0 :: (T6.take i).map (hamV zs))).length ≤ 1000 from by rw [ints_len, List.length_cons, List.length_map, List.length_take]; omega)
        generalize hnn : (ints (0 :: (T6.take i).map (hamV zs))).length = nn at ho hg ⊢
        have HNN := Lib.hid hnn
        have HO := Lib.hid ho
        have HG := Lib.hid hg
        have HB := Lib.hid (hg.below HB3.out HB3.out.size (fun b hb => by simp [Value.ownBlock] at hb; omega))
        clear hnn
        have HLC := Lib.hid (HL3.out.keptLt hg.1 (by simp))
        have HLT := Lib.hid (HQ3.out.keptLt hg.1 HLTB.out)
        clear ho hg
        by_cases hlt : i < 37
        · have hq : T6[i]? = some (T6[i]'(by rw [T6_len]; exact hlt)) := List.getElem?_eq_getElem _
          have hmem : T6[i]'(by rw [T6_len]; exact hlt) ∈ T6 := List.getElem_mem _
          obtain ⟨htl, ht8, htm, fr, rs, kk, ys, hf, hrs, hrl, hro, hfn, hix, hsg⟩ := okH_at hmem
          have HV := Lib.hid (show hamV zs (T6[i]'(by rw [T6_len]; exact hlt)) = _ from hamV_is zs hf)
          have HTS := Lib.hid (show 0 :: (T6.take (i + 1)).map (hamV zs) = (0 :: (T6.take i).map (hamV zs)) ++ [hamV zs (T6[i]'(by rw [T6_len]; exact hlt))] from by rw [List.take_add_one, hq, List.map_append]; rfl)
          obtain ⟨A3', c3', he3, -, -, hrow⟩ := HLT.out.rows.open_
          rw [List.length_map, T6_len] at he3 hrow
          simp only [Value.slice.injEq, true_and] at he3
          obtain ⟨rfl, rfl⟩ := he3
          obtain ⟨ad, u, us, rfl, hz, hu, hc⟩ := hrow i hlt
          rw [List.getElem?_map, hq] at hz
          injection hz with hz
          subst hz
          generalize T6[i]'(by rw [T6_len]; exact hlt) = t at *
          obtain ⟨A5, c5, rfl, -, -, -⟩ := hu.open_
          rw [up_len] at hc hu
          have HFF := Lib.hid (fun W h => i_freeForm W (.slice A5 t.length c5) t fr h htl ht8 htm hf)
          have HEV := Lib.hid (fun W h => i_isEvenRoot W (.slice A5 t.length c5) t fr rs h htl ht8 htm hf hrs hrl)
          have HU := Lib.hid hu
          have hii : (i : Int) < 37 := by omega
          clear hq hmem htl ht8 htm hf hrs hrl hro hfn hsg hu hrow
          have hixx := fun W y (hy : Rows W (.slice A2 10 c2) (C6.map up)) (h : Ints W y (up fr)) => i_indexIn W (.slice A2 10 c2) y C6 fr hy h (by decide)
          generalize idxN C6 fr = ix at hix HV hixx
          have HIX := Lib.hid hixx
          clear hixx
          cases ix with
          | zero =>
            have HV0 := Lib.hid (show hamV zs t = 0 from HV.out)
            have hneg : (((0 : Nat) : Int) - 1) = -1 := by omega
            go_wp2_with (first
              | (go_at_call 58; (with_reducible refine (HFF.out _ HU.out).mono ?_); rintro e w4 ⟨x4, rfl, ho4, hb4⟩; have HO4 := Lib.hid ho4; have HB4 := Lib.hid hb4; have HOX := Lib.hid (HO.out.below hb4); have HLC4 := Lib.hid (HLC.out.below hb4); clear ho4 hb4)
              | (go_at_call 57; go_loud (refine (HIX.out _ _ HLC4.out.rows HO4.out.ints).mono ?_; rintro e w5 ⟨rfl, rfl⟩))
              | (at_builtin; go_loud (refine wpList_app1 T_int HOX.out.1 (by have := HOL.out; omega) (Nat.le_trans HB.out.size HB4.out.size) (by rfl) rfl (by rfl) (by rfl) (by rfl) ?_; intro v1 w6 hown1 hgr1; have HN := Lib.hid hown1; have HGR := Lib.hid hgr1; clear hown1 hgr1)))
            go_roundw
            case rel =>
              refine ⟨i + 1, by omega, by go_num, ?_, HG.out.trans (Grow.pre HB4.out HGR.out)⟩
              rw [HTS.out, HV0.out]
              exact own_snoc HO.out.2 (by unfold In64; omega) HN.out
            case measure => simp [intOf]; omega
          | succ i' =>
            have hi' : i' < zs.length := by rw [H10.out]; omega
            obtain ⟨az, z, rfl, hz, hz64, hcz0⟩ := H3.out i' hi'
            have hzn := HNU.out z (List.mem_of_getElem? hz)
            have hgz : zs.getD i' 0 = z := by simp [List.getD, hz]
            have HCZ := Lib.hid hcz0
            have hpos : ((i' + 1 : Nat) : Int) - 1 = (i' : Int) := by omega
            simp only [hpos] at HIX
            have hv := HV.out
            simp only [hgz] at hv
            have hii' : (i' : Int) < (zs.length : Int) := by omega
            clear hz hcz0 hgz HV hpos
            cases hev : evN t with
            | true =>
              rw [hev] at HEV hv
              have HV0 := Lib.hid (show hamV zs t = z from by rw [hv]; rfl)
              clear hv hev
              go_wp2_with (first
              | (go_at_call 58; (with_reducible refine (HFF.out _ HU.out).mono ?_); rintro e w4 ⟨x4, rfl, ho4, hb4⟩; have HO4 := Lib.hid ho4; have HB4 := Lib.hid hb4; have HLC4 := Lib.hid (HLC.out.below hb4); clear ho4 hb4)
              | (go_at_call 57; go_loud (refine (HIX.out _ _ HLC4.out.rows HO4.out.ints).mono ?_; rintro e w5 ⟨rfl, rfl⟩))
              | (go_at_call 59; go_loud ((with_reducible refine (HEV.out _ (HU.out.below HB4.out)).mono ?_); rintro e w7 ⟨rfl, hb7⟩; have HB7 := Lib.hid (HB4.out.trans (hb7.mono HB4.out.size)); have HOX := Lib.hid (HO.out.below HB7.out); have hcz := keepCell (HB.out.trans (HB7.out.mono HB.out.size)) HCZ.out; clear hb7))
              | (at_builtin; go_loud (refine wpList_app1 T_int HOX.out.1 (by have := HOL.out; omega) (Nat.le_trans HB.out.size HB7.out.size) (by rfl) rfl (by rfl) (by rfl) (by rfl) ?_; intro v1 w6 hown1 hgr1; have HN := Lib.hid hown1; have HGR := Lib.hid hgr1; clear hown1 hgr1)))
              go_roundw
              case rel =>
                refine ⟨i + 1, by omega, by go_num, ?_, HG.out.trans (Grow.pre HB7.out HGR.out)⟩
                rw [HTS.out, HV0.out]
                exact own_snoc HO.out.2 hz64 HN.out
              case measure => simp [intOf]; omega
            | false =>
              rw [hev] at HEV hv
              have HV0 := Lib.hid (show hamV zs t = (-z) % 10007 from by rw [hv]; rfl)
              have hbz : -9223372036854775808 ≤ -z ∧ -z ≤ 9223372036854775807 := by omega
              have hw1 := w64_in' _ hbz
              have hw2 := IntWalk.i64_in _ hbz
              clear hv hev hbz
              go_wp2_with (first
              | (go_at_call 58; (with_reducible refine (HFF.out _ HU.out).mono ?_); rintro e w4 ⟨x4, rfl, ho4, hb4⟩; have HO4 := Lib.hid ho4; have HB4 := Lib.hid hb4; have HLC4 := Lib.hid (HLC.out.below hb4); clear ho4 hb4)
              | (go_at_call 57; go_loud (refine (HIX.out _ _ HLC4.out.rows HO4.out.ints).mono ?_; rintro e w5 ⟨rfl, rfl⟩))
              | (go_at_call 59; go_loud ((with_reducible refine (HEV.out _ (HU.out.below HB4.out)).mono ?_); rintro e w7 ⟨rfl, hb7⟩; have HB7 := Lib.hid (HB4.out.trans (hb7.mono HB4.out.size)); have HOX := Lib.hid (HO.out.below HB7.out); have hcz := keepCell (HB.out.trans (HB7.out.mono HB.out.size)) HCZ.out; clear hb7))
              | (go_at_call 60; go_loud (refine (i_num _ _ (by clear hw1 hw2; omega) (by clear hw1 hw2; omega)).mono ?_; rintro e w8 ⟨rfl, rfl⟩))
              | (at_builtin; go_loud (refine wpList_app1 T_int HOX.out.1 (by have := HOL.out; omega) (Nat.le_trans HB.out.size HB7.out.size) (by rfl) rfl (by rfl) (by rfl) (by rfl) ?_; intro v1 w6 hown1 hgr1; have HN := Lib.hid hown1; have HGR := Lib.hid hgr1; clear hown1 hgr1)))
              go_roundw
              case rel =>
                refine ⟨i + 1, by clear hw1 hw2; omega, by go_num, ?_, HG.out.trans (Grow.pre HB7.out HGR.out)⟩
                rw [HTS.out, HV0.out]
                clear hw1 hw2
                exact own_snoc HO.out.2 (by unfold In64; omega) HN.out
              case measure => clear hw1 hw2; simp [intOf]; omega
        · have hi37 : i = 37 := by omega
          go_wp2_with fail
          go_ret2
          have e : 0 :: (T6.take i).map (hamV zs) = hamZ zs := by rw [hi37, show T6.take 37 = T6 from List.take_of_length_le (by rw [T6_len]; exact Nat.le_refl _)]; rfl
          exact ⟨_, rfl, Eq.mp (congrArg (fun l => OwnInts wr w.heap.size tI _ l) e) HO.out, HB.out⟩
  · have hd : ((zs.length : Int) != 10) = true := by simp; omega
    have HC := Lib.hid (show hamC zs = 2 from by simp [hamC, hamOk, h10])
    have HR := Lib.hid (show hamR zs = [] from by simp [hamR, hamOk, h10])
    rw [HC.out, HR.out]
    clear h10
    go_enter Tryz.func11, Tryz.ntmps11
    go_wp2_with fail
    go_ret2
    exact ⟨_, rfl, OwnInts.nil _ _ _, Below.refl _ _⟩
end Go.Proofs.YtdjhfeaimmpmhaaGreat

set_option maxRecDepth 100000
namespace Go.Proofs.YtdjhfeaimmpmhaaGreat

def STab : List (List ((List Nat × Nat) × Nat)) := [
  [(([1], 1), 1)],
  [(([2], 1), 1), (([1, 1], 2), 1)],
  [(([3], 1), 1), (([1, 2], 2), 2), (([1, 1, 1], 3), 1)],
  [(([4], 1), 1), (([1, 2], 2), 2), (([1, 1, 1], 4), 1)],
  [(([5], 1), 1), (([1, 3], 2), 2), (([2, 2], 2), 1), (([1, 1, 2], 3), 3), (([1, 1, 1, 1], 5), 1)],
  [(([6], 1), 1), (([1, 3], 2), 2), (([1, 4], 2), 1), (([1, 1, 2], 3), 2), (([1, 1, 2], 4), 1), (([1, 1, 1, 1], 6), 1)],
  [(([7], 1), 1), (([1, 3], 2), 1), (([1, 4], 2), 1), (([2, 2], 2), 1), (([1, 1, 2], 3), 1), (([1, 1, 2], 4), 2), (([1, 1, 1, 1], 7), 1)],
  [(([8], 1), 1), (([1, 4], 2), 3), (([1, 1, 2], 4), 3), (([1, 1, 1, 1], 8), 1)],
  [(([9], 1), 1), (([1, 5], 2), 2), (([2, 3], 2), 2), (([1, 1, 3], 3), 3), (([1, 2, 2], 3), 3), (([1, 1, 1, 2], 5), 4), (([1, 1, 1, 1, 1], 9), 1)],
  [(([10], 1), 1), (([1, 5], 2), 2), (([1, 6], 2), 1), (([2, 4], 2), 1), (([1, 1, 3], 3), 2), (([1, 1, 4], 3), 1), (([1, 2, 2], 3), 2), (([1, 1, 3], 4), 1), (([1, 1, 1, 2], 5), 2), (([1, 1, 1, 2], 6), 2), (([1, 1, 1, 1, 1], 10), 1)],
  [(([11], 1), 1), (([1, 5], 2), 1), (([1, 6], 2), 1), (([1, 7], 2), 1), (([2, 3], 2), 1), (([1, 1, 3], 3), 2), (([1, 1, 4], 3), 1), (([1, 2, 2], 3), 1), (([1, 1, 3], 4), 1), (([1, 2, 2], 4), 1), (([1, 1, 1, 2], 5), 1), (([1, 1, 1, 2], 6), 2), (([1, 1, 1, 2], 7), 1), (([1, 1, 1, 1, 1], 11), 1)],
  [(([12], 1), 1), (([1, 5], 2), 1), (([1, 7], 2), 1), (([2, 3], 2), 1), (([2, 4], 2), 1), (([1, 1, 4], 3), 1), (([1, 2, 2], 3), 2), (([1, 1, 3], 4), 2), (([1, 2, 2], 4), 1), (([1, 1, 1, 2], 5), 1), (([1, 1, 1, 2], 7), 3), (([1, 1, 1, 1, 1], 12), 1)],
  [(([13], 1), 1), (([1, 6], 2), 3), (([1, 8], 2), 1), (([1, 1, 4], 3), 3), (([1, 1, 3], 4), 3), (([1, 1, 1, 2], 6), 3), (([1, 1, 1, 2], 8), 1), (([1, 1, 1, 1, 1], 13), 1)],
  [(([14], 1), 1), (([1, 6], 2), 1), (([1, 7], 2), 2), (([2, 4], 2), 1), (([1, 2, 2], 3), 2), (([1, 1, 3], 4), 2), (([1, 1, 4], 4), 2), (([1, 1, 1, 2], 6), 1), (([1, 1, 1, 2], 7), 2), (([1, 1, 1, 2], 8), 1), (([1, 1, 1, 1, 1], 14), 1)],
  [(([15], 1), 1), (([1, 7], 2), 2), (([2, 3], 2), 2), (([1, 1, 3], 3), 2), (([1, 1, 4], 4), 1), (([1, 2, 2], 4), 3), (([1, 1, 1, 2], 7), 4), (([1, 1, 1, 1, 1], 15), 1)],
  [(([16], 1), 1), (([1, 7], 2), 2), (([1, 8], 2), 1), (([2, 4], 2), 1), (([1, 1, 4], 3), 1), (([1, 1, 3], 4), 1), (([1, 1, 4], 4), 2), (([1, 2, 2], 4), 2), (([1, 1, 1, 2], 7), 2), (([1, 1, 1, 2], 8), 2), (([1, 1, 1, 1, 1], 16), 1)],
  [(([17], 1), 1), (([1, 8], 2), 4), (([1, 1, 4], 4), 6), (([1, 1, 1, 2], 8), 4), (([1, 1, 1, 1, 1], 17), 1)],
  [(([18], 1), 1), (([1, 9], 2), 2), (([2, 5], 2), 2), (([3, 3], 2), 1), (([1, 1, 5], 3), 3), (([1, 2, 3], 3), 6), (([2, 2, 2], 3), 1), (([1, 1, 1, 3], 5), 4), (([1, 1, 2, 2], 5), 6), (([1, 1, 1, 1, 2], 9), 5), (([1, 1, 1, 1, 1, 1], 18), 1)],
  [(([19], 1), 1), (([1, 9], 2), 2), (([1, 10], 2), 1), (([2, 6], 2), 1), (([3, 4], 2), 1), (([1, 1, 5], 3), 2), (([1, 1, 6], 3), 1), (([1, 2, 3], 3), 4), (([1, 2, 4], 3), 2), (([1, 1, 5], 4), 1), (([1, 1, 1, 3], 5), 2), (([1, 1, 1, 4], 5), 1), (([1, 1, 2, 2], 5), 4), (([1, 1, 1, 3], 6), 2), (([1, 1, 2, 2], 6), 1), (([1, 1, 1, 1, 2], 9), 2), (([1, 1, 1, 1, 2], 10), 3), (([1, 1, 1, 1, 1, 1], 19), 1)],
  [(([20], 1), 1), (([1, 9], 2), 1), (([1, 10], 2), 1), (([1, 11], 2), 1), (([2, 5], 2), 1), (([2, 7], 2), 1), (([1, 1, 5], 3), 2), (([1, 1, 6], 3), 1), (([1, 1, 7], 3), 1), (([1, 2, 3], 3), 2), (([1, 2, 4], 3), 1), (([2, 2, 2], 3), 1), (([1, 1, 5], 4), 1), (([1, 2, 3], 4), 1), (([1, 1, 1, 3], 5), 2), (([1, 1, 1, 4], 5), 1), (([1, 1, 2, 2], 5), 2), (([1, 1, 1, 3], 6), 1), (([1, 1, 2, 2], 6), 3), (([1, 1, 1, 3], 7), 1), (([1, 1, 1, 1, 2], 9), 1), (([1, 1, 1, 1, 2], 10), 2), (([1, 1, 1, 1, 2], 11), 2), (([1, 1, 1, 1, 1, 1], 20), 1)],
  [(([21], 1), 1), (([1, 9], 2), 1), (([1, 11], 2), 1), (([1, 12], 2), 1), (([2, 6], 2), 1), (([3, 3], 2), 1), (([1, 1, 5], 3), 1), (([1, 1, 6], 3), 1), (([1, 1, 7], 3), 1), (([1, 2, 3], 3), 3), (([1, 2, 4], 3), 1), (([1, 1, 5], 4), 1), (([1, 2, 3], 4), 2), (([1, 1, 1, 3], 5), 1), (([1, 1, 1, 4], 5), 1), (([1, 1, 2, 2], 5), 2), (([1, 1, 1, 3], 6), 2), (([1, 1, 2, 2], 6), 1), (([1, 1, 1, 3], 7), 1), (([1, 1, 2, 2], 7), 2), (([1, 1, 1, 1, 2], 9), 1), (([1, 1, 1, 1, 2], 11), 3), (([1, 1, 1, 1, 2], 12), 1), (([1, 1, 1, 1, 1, 1], 21), 1)],
  [(([22], 1), 1), (([1, 9], 2), 1), (([1, 12], 2), 1), (([2, 5], 2), 1), (([2, 7], 2), 1), (([3, 4], 2), 1), (([1, 1, 7], 3), 1), (([1, 2, 3], 3), 2), (([1, 2, 4], 3), 2), (([2, 2, 2], 3), 1), (([1, 1, 5], 4), 2), (([1, 2, 3], 4), 2), (([1, 1, 1, 4], 5), 1), (([1, 1, 2, 2], 5), 3), (([1, 1, 1, 3], 7), 3), (([1, 1, 2, 2], 7), 3), (([1, 1, 1, 1, 2], 9), 1), (([1, 1, 1, 1, 2], 12), 4), (([1, 1, 1, 1, 1, 1], 22), 1)],
  [(([23], 1), 1), (([1, 10], 2), 3), (([1, 13], 2), 1), (([2, 8], 2), 1), (([1, 1, 6], 3), 3), (([1, 1, 8], 3), 1), (([1, 2, 4], 3), 3), (([1, 1, 5], 4), 3), (([1, 1, 1, 4], 5), 3), (([1, 1, 1, 3], 6), 3), (([1, 1, 2, 2], 6), 3), (([1, 1, 1, 3], 8), 1), (([1, 1, 1, 1, 2], 10), 3), (([1, 1, 1, 1, 2], 13), 2), (([1, 1, 1, 1, 1, 1], 23), 1)],
  [(([24], 1), 1), (([1, 10], 2), 1), (([1, 11], 2), 2), (([1, 14], 2), 1), (([3, 4], 2), 1), (([1, 1, 6], 3), 1), (([1, 1, 7], 3), 2), (([1, 2, 3], 3), 2), (([1, 2, 4], 3), 1), (([1, 1, 5], 4), 2), (([1, 1, 6], 4), 1), (([1, 2, 4], 4), 1), (([1, 1, 2, 2], 5), 2), (([1, 1, 1, 3], 6), 3), (([1, 1, 1, 4], 6), 2), (([1, 1, 2, 2], 7), 2), (([1, 1, 1, 3], 8), 1), (([1, 1, 1, 1, 2], 10), 1), (([1, 1, 1, 1, 2], 11), 2), (([1, 1, 1, 1, 2], 13), 1), (([1, 1, 1, 1, 2], 14), 1), (([1, 1, 1, 1, 1, 1], 24), 1)],
  [(([25], 1), 1), (([1, 10], 2), 1), (([1, 12], 2), 2), (([2, 6], 2), 1), (([4, 4], 2), 1), (([1, 2, 3], 3), 2), (([1, 2, 4], 3), 3), (([1, 1, 5], 4), 2), (([1, 1, 6], 4), 1), (([1, 1, 7], 4), 1), (([1, 2, 4], 4), 1), (([1, 1, 2, 2], 5), 2), (([1, 1, 1, 4], 6), 1), (([1, 1, 2, 2], 6), 1), (([1, 1, 1, 3], 7), 2), (([1, 1, 1, 4], 7), 1), (([1, 1, 2, 2], 7), 2), (([1, 1, 1, 3], 8), 1), (([1, 1, 1, 1, 2], 10), 1), (([1, 1, 1, 1, 2], 12), 2), (([1, 1, 1, 1, 2], 14), 2), (([1, 1, 1, 1, 1, 1], 25), 1)],
  [(([26], 1), 1), (([1, 11], 2), 2), (([1, 15], 2), 1), (([2, 5], 2), 2), (([1, 1, 5], 3), 2), (([1, 1, 7], 3), 2), (([1, 2, 3], 3), 2), (([1, 1, 6], 4), 1), (([1, 2, 3], 4), 2), (([2, 2, 2], 4), 1), (([1, 1, 1, 3], 5), 2), (([1, 1, 1, 4], 6), 1), (([1, 1, 2, 2], 6), 3), (([1, 1, 1, 3], 7), 2), (([1, 1, 2, 2], 7), 2), (([1, 1, 1, 1, 2], 11), 4), (([1, 1, 1, 1, 2], 15), 1), (([1, 1, 1, 1, 1, 1], 26), 1)],
  [(([27], 1), 1), (([1, 11], 2), 2), (([1, 13], 2), 1), (([1, 16], 2), 1), (([2, 6], 2), 1), (([1, 1, 6], 3), 1), (([1, 1, 7], 3), 2), (([1, 1, 8], 3), 1), (([1, 2, 4], 3), 1), (([1, 1, 5], 4), 1), (([1, 1, 6], 4), 2), (([1, 2, 3], 4), 2), (([1, 1, 1, 4], 5), 1), (([1, 1, 1, 3], 6), 1), (([1, 1, 1, 4], 6), 2), (([1, 1, 2, 2], 6), 2), (([1, 1, 1, 3], 7), 2), (([1, 1, 1, 3], 8), 1), (([1, 1, 2, 2], 8), 1), (([1, 1, 1, 1, 2], 11), 2), (([1, 1, 1, 1, 2], 13), 2), (([1, 1, 1, 1, 2], 16), 1), (([1, 1, 1, 1, 1, 1], 27), 1)],
  [(([28], 1), 1), (([1, 11], 2), 1), (([1, 12], 2), 1), (([1, 14], 2), 1), (([2, 7], 2), 2), (([1, 1, 7], 3), 1), (([1, 2, 3], 3), 1), (([1, 2, 4], 3), 1), (([2, 2, 2], 3), 1), (([1, 1, 5], 4), 1), (([1, 1, 6], 4), 1), (([1, 1, 7], 4), 2), (([1, 2, 3], 4), 1), (([1, 2, 4], 4), 1), (([1, 1, 2, 2], 5), 1), (([1, 1, 2, 2], 6), 2), (([1, 1, 1, 3], 7), 2), (([1, 1, 1, 4], 7), 2), (([1, 1, 2, 2], 7), 1), (([1, 1, 1, 3], 8), 1), (([1, 1, 2, 2], 8), 1), (([1, 1, 1, 1, 2], 11), 1), (([1, 1, 1, 1, 2], 12), 1), (([1, 1, 1, 1, 2], 14), 2), (([1, 1, 1, 1, 2], 16), 1), (([1, 1, 1, 1, 1, 1], 28), 1)],
  [(([29], 1), 1), (([1, 12], 2), 1), (([1, 15], 2), 1), (([2, 5], 2), 1), (([2, 7], 2), 1), (([3, 3], 2), 1), (([1, 1, 5], 3), 1), (([1, 1, 7], 3), 1), (([1, 2, 3], 3), 2), (([1, 1, 7], 4), 1), (([1, 2, 3], 4), 3), (([1, 2, 4], 4), 1), (([2, 2, 2], 4), 1), (([1, 1, 1, 3], 5), 1), (([1, 1, 1, 3], 7), 2), (([1, 1, 1, 4], 7), 1), (([1, 1, 2, 2], 7), 6), (([1, 1, 1, 1, 2], 12), 2), (([1, 1, 1, 1, 2], 15), 3), (([1, 1, 1, 1, 1, 1], 29), 1)],
  [(([30], 1), 1), (([1, 12], 2), 2), (([1, 16], 2), 1), (([2, 8], 2), 1), (([3, 4], 2), 1), (([1, 1, 8], 3), 1), (([1, 2, 4], 3), 2), (([1, 1, 5], 4), 1), (([1, 1, 7], 4), 2), (([1, 2, 3], 4), 2), (([1, 2, 4], 4), 2), (([1, 1, 1, 4], 5), 1), (([1, 1, 1, 4], 7), 2), (([1, 1, 2, 2], 7), 4), (([1, 1, 1, 3], 8), 2), (([1, 1, 2, 2], 8), 1), (([1, 1, 1, 1, 2], 12), 2), (([1, 1, 1, 1, 2], 16), 3), (([1, 1, 1, 1, 1, 1], 30), 1)],
  [(([31], 1), 1), (([1, 13], 2), 4), (([1, 17], 2), 1), (([1, 1, 8], 3), 4), (([1, 1, 6], 4), 6), (([1, 1, 1, 4], 6), 6), (([1, 1, 1, 3], 8), 4), (([1, 1, 1, 1, 2], 13), 4), (([1, 1, 1, 1, 2], 17), 1), (([1, 1, 1, 1, 1, 1], 31), 1)],
  [(([32], 1), 1), (([1, 13], 2), 1), (([1, 14], 2), 3), (([2, 8], 2), 1), (([1, 2, 4], 3), 3), (([1, 1, 6], 4), 3), (([1, 1, 7], 4), 3), (([1, 1, 8], 4), 1), (([1, 1, 2, 2], 6), 3), (([1, 1, 1, 4], 7), 3), (([1, 1, 1, 3], 8), 3), (([1, 1, 1, 4], 8), 1), (([1, 1, 1, 1, 2], 13), 1), (([1, 1, 1, 1, 2], 14), 3), (([1, 1, 1, 1, 2], 17), 1), (([1, 1, 1, 1, 1, 1], 32), 1)],
  [(([33], 1), 1), (([1, 14], 2), 1), (([1, 15], 2), 2), (([2, 6], 2), 1), (([3, 4], 2), 1), (([1, 1, 6], 3), 1), (([1, 2, 3], 3), 2), (([1, 1, 7], 4), 3), (([1, 2, 3], 4), 2), (([1, 2, 4], 4), 2), (([1, 1, 1, 3], 6), 1), (([1, 1, 1, 3], 7), 2), (([1, 1, 1, 4], 7), 1), (([1, 1, 2, 2], 7), 4), (([1, 1, 1, 4], 8), 1), (([1, 1, 2, 2], 8), 1), (([1, 1, 1, 1, 2], 14), 2), (([1, 1, 1, 1, 2], 15), 2), (([1, 1, 1, 1, 2], 16), 1), (([1, 1, 1, 1, 1, 1], 33), 1)],
  [(([34], 1), 1), (([1, 14], 2), 2), (([1, 16], 2), 2), (([4, 4], 2), 1), (([1, 2, 4], 3), 2), (([1, 1, 6], 4), 1), (([1, 1, 7], 4), 4), (([1, 1, 8], 4), 1), (([1, 2, 4], 4), 2), (([1, 1, 1, 4], 6), 1), (([1, 1, 2, 2], 7), 4), (([1, 1, 1, 3], 8), 2), (([1, 1, 1, 4], 8), 3), (([1, 1, 1, 1, 2], 14), 2), (([1, 1, 1, 1, 2], 16), 2), (([1, 1, 1, 1, 2], 17), 1), (([1, 1, 1, 1, 1, 1], 34), 1)],
  [(([35], 1), 1), (([1, 15], 2), 1), (([1, 16], 2), 2), (([2, 7], 2), 2), (([1, 1, 7], 3), 2), (([1, 1, 7], 4), 2), (([1, 1, 8], 4), 1), (([1, 2, 3], 4), 2), (([1, 2, 4], 4), 2), (([2, 2, 2], 4), 1), (([1, 1, 1, 3], 7), 2), (([1, 1, 1, 4], 7), 2), (([1, 1, 2, 2], 7), 2), (([1, 1, 1, 4], 8), 1), (([1, 1, 2, 2], 8), 3), (([1, 1, 1, 1, 2], 15), 1), (([1, 1, 1, 1, 2], 16), 4), (([1, 1, 1, 1, 1, 1], 35), 1)],
  [(([36], 1), 1), (([1, 16], 2), 3), (([1, 17], 2), 1), (([2, 8], 2), 1), (([1, 1, 8], 3), 1), (([1, 1, 7], 4), 3), (([1, 1, 8], 4), 3), (([1, 2, 4], 4), 3), (([1, 1, 1, 4], 7), 3), (([1, 1, 1, 3], 8), 1), (([1, 1, 1, 4], 8), 3), (([1, 1, 2, 2], 8), 3), (([1, 1, 1, 1, 2], 16), 3), (([1, 1, 1, 1, 2], 17), 2), (([1, 1, 1, 1, 1, 1], 36), 1)],
  [(([37], 1), 1), (([1, 17], 2), 5), (([1, 1, 8], 4), 10), (([1, 1, 1, 4], 8), 10), (([1, 1, 1, 1, 2], 17), 5), (([1, 1, 1, 1, 1, 1], 37), 1)]]
end Go.Proofs.YtdjhfeaimmpmhaaGreat

set_option maxRecDepth 100000
set_option linter.unusedVariables false
set_option linter.unusedSimpArgs false
namespace Go.Proofs.YtdjhfeaimmpmhaaGreat

def SPt (p : Nat) : List MCt := match p with
  | 0 => [(([], 0), 1)]
  | n + 1 => STab.getD n []
/-- substitution over integers: of b into a -/
def sv (b a : Nat → Int) (p : Nat) : Int := gv SPt b a p
/-! ### the unit -/
end Go.Proofs.YtdjhfeaimmpmhaaGreat

set_option maxRecDepth 100000
set_option linter.unusedVariables false
set_option linter.unusedSimpArgs false
namespace Go.Proofs.YtdjhfeaimmpmhaaGreat
open Go.RowKit

section
variable {w w' : World} {B : Nat} {us : List Value} {xss : List (List MC)}
end

end Go.Proofs.YtdjhfeaimmpmhaaGreat

set_option linter.unusedVariables false
set_option linter.unusedSimpArgs false
namespace Go.Proofs.YtdjhfeaimmpmhaaGreat
open Go.RowKit

end Go.Proofs.YtdjhfeaimmpmhaaGreat

set_option maxRecDepth 100000
set_option linter.unusedVariables false
set_option linter.unusedSimpArgs false
namespace Go.Proofs.YtdjhfeaimmpmhaaGreat
open Go.RowKit

/-! ### the partitions of the trees of maps -/
structure PrA (t : List Nat) (i : Nat) (sk : List Nat) (pcs : List (List Nat)) : Prop where
  hsk : canO 9 (sklN t (2 * i)) = some sk
  hpc : mapO (fun j => canO 9 (pieN t (2 * i) j)) (0 :: cutsN (2 * i) (t.length - 1) 1) = some pcs
  prt : prtN t (2 * i) = (srtB pcs, sk)
  osk : okPl sk = true
  opc : ∀ q ∈ srtB pcs, okPl q = true
  pl : (srtB pcs).length ≤ 8
  pie : ∀ j, j < t.length → (pieN t (2 * i) j).length ≤ 8
  full : i + 1 = 2 ^ (t.length - 1) ↔ idxN T6n sk = idxN T6n t
  one : i = 0 ↔ idxN T6n sk = 1
theorem sz_tr {n : Nat} (h : n < 37) : szN (n + 1) = (tr n).length := szN_succ (tr_get h)

/-! ### sums over masks -/
/-! ### substitution -/
theorem getD_nums {a : List Int} (h : Nums a) (k : Nat) : 0 ≤ a.getD k 0 ∧ a.getD k 0 ≤ 10006 := by
  rw [List.getD_eq_getElem?_getD]
  cases hk : a[k]? with
  | none => simp
  | some z => exact h z (List.mem_of_getElem? hk)
/-! ### lists that are filled one place after the other -/
/-! ### the inverse by substitution -/
/-! ### the map whose substitution into a is another one -/
end Go.Proofs.YtdjhfeaimmpmhaaGreat

set_option maxRecDepth 100000
set_option linter.unusedVariables false
set_option linter.unusedSimpArgs false
namespace Go.Proofs.YtdjhfeaimmpmhaaGreat
open Go.RowKit

/-! ### the table -/
theorem nums_ext {x y : List Int} (hx : Nums x) (hy : Nums y) (lx : x.length = 38) (ly : y.length = 38) (h : ∀ p, p < 38 → gz x p % 10007 = gz y p % 10007) : x = y := by
  refine List.ext_getElem (by rw [lx, ly]) fun i h1 h2 => ?_
  have h3 := h i (by omega)
  have b1 := getD_nums hx i
  have b2 := getD_nums hy i
  have h4 : x.getD i 0 = y.getD i 0 := by
    have h5 : x.getD i 0 % 10007 = y.getD i 0 % 10007 := h3
    omega
  rw [List.getD_eq_getElem?_getD, List.getD_eq_getElem?_getD, List.getElem?_eq_getElem h1, List.getElem?_eq_getElem h2] at h4
  simpa using h4
/-! ### products -/
/-! ### the inverse -/
end Go.Proofs.YtdjhfeaimmpmhaaGreat

