/- Walk: l16Pieces of the reference. | Walks: slices.Clone at numbers; the columns of both. | Walks: compareTrees, forestOf of the program: lists of trees in their order. | Plain: the trees of at most eight nodes, cut up: the kernel looks at all of them. First part. | Plain: the trees of at most eight nodes, cut up: the kernel looks at all of them. Second part. | Plain: the trees of at most eight nodes, cut up: put together. -/
import Derived.Test.YtmmibegodeeadaaGsk8
import Derived.Test.YtmmibegodeeadaaGsk2
import Derived.Test.YtmmibegodeeadaaGsk1
import Derived.WalkSpells
import Derived.Deep.RegionLaw
import Derived.Test.YtmmibegodeeadaaGsk4
import Derived.Test.YtmmibegodeeadaaGsk6
import Derived.Test.YtmmibegodeeadaaGsk7
set_option maxRecDepth 100000
set_option linter.unusedVariables false
set_option linter.unusedSimpArgs false
namespace Go.Proofs.Ytmmibegodeeadaa
open Go.RowKit

set_option maxHeartbeats 4000000 in
theorem s_l16Pieces (w : World) (v : Value) (t : List Nat) (m : Nat) (pcs : List (List Nat)) (ha : Ints w v (up t)) (h8 : t.length ≤ 8) (h0 : 0 < t.length) (hm : m < 256) (hl : ∀ l ∈ t, l ≤ 1000000)
    (hp : mapO (fun i => canO 9 (pieN t m i)) (0 :: cutsN m (t.length - 1) 1) = some pcs) (hpl : ∀ i < t.length, (pieN t m i).length ≤ 8) :
    Calls Try.prog 79 #[v, .int .i64 m] w fun e w' => ∃ x, e = .returned x ∧ LL w' w.heap.size x ((srtB pcs).map up) ∧ Below w.heap.size w w' := by
  have HA := Lib.hid ha
  have HL := Lib.hid hl
  have HM := Lib.hid hm
  have HP := Lib.hid hp
  have HPL := Lib.hid hpl
  obtain ⟨A, c, rfl, l1, l2, -⟩ := ha.open_
  rw [up_len] at l1 HA ⊢
  obtain ⟨p0, rest, hpe, hp0, hrest⟩ := mapO_cons hp
  have HP0 := Lib.hid (s_l16Piece w _ t m 0 p0 HA.out h8 h0 hm hl hp0)
  have HREST := Lib.hid hrest
  have HPE := Lib.hid hpe
  have h00 : (((0 : Nat) : Int)) = 0 := rfl
  have HRL := Lib.hid (mapO_len hrest)
  have HCL := Lib.hid (show ∀ n i, (cutsN m n i).length ≤ n from by
    intro n
    induction n with
    | zero => intro i; exact Nat.le_refl _
    | succ n ih => intro i; rw [cutsN]; cases m.testBit i <;> simp <;> have := ih (i + 1) <;> omega)
  rw [h00] at HP0
  clear ha hl hm hp hpl hp0 hrest hpe h00
  go_enter Try.func79, Try.ntmps79
  go_wp2_with (go_at_call 128; refine HP0.out.mono ?_; rintro e w1 ⟨x1, rfl, ho1, hb1⟩; obtain ⟨A1, c1, he1, -, -, -⟩ := ho1.ints.open_; rw [up_len] at he1; subst he1; have OL := Lib.hid (show Own (w1.alloc (.cells #[.slice A1 p0.length c1] tL)) w.heap.size tL (.slice (some ⟨w1.heap.size, 0, none⟩) 1 1) [.slice A1 p0.length c1] from (own_lit w1 tL [.slice A1 p0.length c1] (by simp [maxLen])).mono hb1.size); have OR1 := Lib.hid (show RR (w1.alloc (.cells #[.slice A1 p0.length c1] tL)) w.heap.size [.slice A1 p0.length c1] [up p0] from RR.one (ho1.below (below1 w1 _))); have HB1 := Lib.hid (hb1.trans ((below1 w1 (.cells #[.slice A1 p0.length c1] tL)).mono hb1.size)); clear ho1 hb1)
  go_loopw [5, 6] (fun o x wr => ∃ (i : Nat) (vs : List Value), i + 1 ≤ t.length ∧ x = .int .i64 ((i : Int) + 1) ∧ Own wr w.heap.size tL o vs ∧ RR wr w.heap.size vs ((p0 :: rest.take (cutsN m i 1).length).map up) ∧ Below w.heap.size w wr) (fun _ x _ => t.length - (intOf x).toNat)
  case atStart => exact ⟨0, _, by omega, rfl, OL.out, by simpa [cutsN] using OR1.out, HB1.out⟩
  case round =>
    obtain ⟨i, vs, hi, rfl, hown, hrr, hbw⟩ := hrel
    clear OL OR1 HB1
    have HO := Lib.hid hown
    have HRR := Lib.hid hrr
    have HBW := Lib.hid hbw
    by_cases hlt : i + 1 < t.length
    · have hii : (i : Int) + 1 < (t.length : Int) := by omega
      have hi0 : (0 : Int) ≤ (i : Int) + 1 := by omega
      have hi64 : (i : Int) + 1 ≤ 64 := by omega
      have hwu : IntKind.u64.wrap ((i : Int) + 1) = (i : Int) + 1 := IntWalk.u64_in _ (by omega)
      have hcs := cutsN_succ m i 1
      rw [Nat.add_comm 1 i] at hcs
      obtain ⟨-, hb1⟩ := bit64 m (i + 1) HM.out
      have htn : ((i : Int) + 1).toNat = i + 1 := by omega
      have hw1 : IntKind.i64.wrap ((i : Int) + 1 + 1) = (i : Int) + 1 + 1 := IntWalk.i64_in _ (by omega)
      cases hbt : m.testBit (i + 1) with
      | false =>
        rw [hbt] at hb1 hcs
        have HCS := Lib.hid hcs
        clear hbt hown hrr hbw hcs
        go_wp2_with fail
        go_roundw
        case rel =>
          refine ⟨i + 1, vs, by omega, by go_num, HO.out, ?_, HBW.out⟩
          rw [HCS.out]
          simpa using HRR.out
        case measure => simp [intOf]; omega
      | true =>
        rw [hbt, if_pos rfl] at hcs
        rw [hbt] at hb1
        have hall : ∀ n, cutsN m (t.length - 1) 1 = cutsN m n 1 ++ (cutsN m (t.length - 1) 1).drop (cutsN m n 1).length ∨ ¬ n ≤ t.length - 1 := by
          intro n
          by_cases hn : n ≤ t.length - 1
          · left
            have : ∀ k, cutsN m (n + k) 1 = cutsN m n 1 ++ (cutsN m (n + k) 1).drop (cutsN m n 1).length := by
              intro k
              induction k with
              | zero => simp
              | succ k ih =>
                rw [show n + (k + 1) = (n + k) + 1 from rfl, cutsN_succ, ih]
                simp [List.drop_append]
            have h := this (t.length - 1 - n)
            rwa [show n + (t.length - 1 - n) = t.length - 1 by omega] at h
          · exact .inr hn
        have hat : (cutsN m (t.length - 1) 1)[(cutsN m i 1).length]? = some (i + 1) := by
          rcases hall (i + 1) with h | h
          · rw [h, hcs, List.append_assoc, List.getElem?_append_right (Nat.le_refl _), Nat.sub_self]; rfl
          · exact absurd (show i + 1 ≤ t.length - 1 by omega) h
        obtain ⟨q, hq, hqc⟩ := mapO_get HREST.out _ _ hat
        have hpc := s_l16Piece wr _ t m (i + 1) q (HA.out.below hbw) h8 hlt HM.out HL.out hqc
        have hcast : (((i + 1 : Nat)) : Int) = (i : Int) + 1 := by omega
        rw [hcast] at hpc
        have HPC := Lib.hid hpc
        have HTK := Lib.hid (show rest.take (cutsN m (i + 1) 1).length = rest.take (cutsN m i 1).length ++ [q] by rw [hcs, List.length_append, List.length_singleton, List.take_add_one, hq]; rfl)
        have hvl : vs.length ≤ 1000 := by have h1 := hrr.1; have h2 := HCL.out i 1; simp at h1; omega
        clear hbt hown hrr hbw hcs hall hat hq hqc hpc hcast
        go_wp2_with (first
          | (go_at_call 128; refine HPC.out.mono ?_; rintro e w2 ⟨r2, rfl, ho2, hb2⟩; obtain ⟨A5, c5, he5, -, -, -⟩ := ho2.ints.open_; rw [up_len] at he5; subst he5; have HO2 := Lib.hid (ho2.mono HBW.out.size); have HBI := Lib.hid hb2; have HB2 := Lib.hid (HBW.out.trans (hb2.mono HBW.out.size)); have HOW := Lib.hid (HO.out.below hb2); clear ho2 hb2)
          | (at_builtin; refine wpList_app1 T_row HOW.out (by omega) HB2.out.size (by rfl) rfl (by rfl) (by rfl) (by rfl) ?_; intro v1 w5 hown1 hgr1; have HN1 := Lib.hid hown1; have HGR := Lib.hid hgr1.1; have HB5 := Lib.hid (hgr1.below HB2.out HB2.out.size HOW.out.ge); clear hown1 hgr1))
        go_roundw
        case rel =>
          refine ⟨i + 1, _, by omega, by go_num, HN1.out, ?_, HB5.out⟩
          rw [HTK.out, ← List.cons_append, List.map_append]
          exact LL.snoc HOW.out (HRR.out.below HBI.out) HO2.out HN1.out HGR.out
        case measure => simp [intOf]; omega
    · have hin : i = t.length - 1 := by omega
      have HE := Lib.hid (show p0 :: rest.take (cutsN m i 1).length = pcs from by rw [hin, ← HRL.out, List.take_length]; exact HPE.out.symm)
      rw [HE.out] at HRR
      have HSB := Lib.hid (show ∀ b ∈ pcs, b.length ≤ 1000 from fun b hb => by
        obtain ⟨x, hx, hxb⟩ := mapO_all HP.out b hb
        have hxt : x < t.length := by
          rcases List.mem_cons.1 hx with rfl | hx
          · omega
          · have : ∀ n i, ∀ x ∈ cutsN m n i, x < i + n := by
              intro n
              induction n with
              | zero => intro i x hx; simp [cutsN] at hx
              | succ n ih =>
                intro i x hx
                rw [cutsN] at hx
                cases hb : m.testBit i with
                | true =>
                  rw [hb] at hx
                  simp only [cond_true] at hx
                  rcases List.mem_cons.1 hx with rfl | hx
                  · omega
                  · have := ih (i + 1) x hx; omega
                | false => rw [hb] at hx; have := ih (i + 1) x hx; omega
            have := this _ _ x hx
            omega
        rw [canO_len hxb]
        have := HPL.out x hxt
        omega)
      have HPN := Lib.hid (show pcs.length ≤ 1000 from by rw [mapO_len HP.out]; have := HCL.out (t.length - 1) 1; simp; omega)
      have hlt' : ¬ ((i : Int) + 1 < (t.length : Int)) := by omega
      have HROW := Lib.hid (HRR.out.rows HO.out)
      obtain ⟨A2, c2, rfl, -, -⟩ := hown.cells.open_
      clear hown hrr hbw hin
      go_wp2_with (go_at_call 129; refine (s_l03Sort _ _ pcs HROW.out HPN.out HSB.out).mono ?_; rintro e w6 ⟨x6, rfl, hx6, hb6⟩; have HX6 := Lib.hid hx6; have HB6 := Lib.hid hb6; clear hx6 hb6)
      go_ret
      exact ⟨_, rfl, HX6.out.mono HBW.out.size, HBW.out.trans (HB6.out.mono HBW.out.size)⟩
end Go.Proofs.Ytmmibegodeeadaa
set_option maxRecDepth 100000
set_option linter.unusedVariables false
set_option linter.unusedSimpArgs false
namespace Go.Proofs.Ytmmibegodeeadaa
open Go.RowKit

theorem ints_oneV (zs : List Int) : ∀ u ∈ ints zs, u.oneCell' = true := by
  intro u hu
  obtain ⟨z, _, rfl⟩ := List.mem_map.1 hu
  rfl

set_option maxHeartbeats 1000000 in
theorem lib_Clone (w : World) (v : Value) (zs : List Int) (ha : Ints w v zs) (hn : zs.length ≤ 4294967296) :
    Calls Try.prog 115 #[v] w fun e w' => ∃ r, e = .returned r ∧ OwnInts w' w.heap.size tI r zs ∧ Below w.heap.size w w' := by
  obtain ⟨A, c, rfl, l1, l2, h3⟩ := ha.open_
  have HA := Lib.hid ha
  clear h3 ha
  have OL := Lib.hid (own_lit w tI [] (by simp [maxLen]))
  have B1 := Lib.hid (below1 w (.cells #[] tI))
  have en := fun (W : World) (a : Option Addr) (n c : Nat) => Lib.run_eql_slice_nil (P := Try.prog) W 42 2 a n c 0 0 Try.underlying42
  go_enter Try.func115, Try.ntmps115
  cases A with
  | none =>
    have HZ := Lib.hid (show zs = [] by
      obtain ⟨A, c', hv, -, -, h3⟩ := HA.out.open_
      simp only [Value.slice.injEq] at hv
      obtain ⟨rfl, -, -⟩ := hv
      cases zs with
      | nil => rfl
      | cons z r => obtain ⟨ad, _, hA, _⟩ := h3 0 (by simp); cases hA)
    go_wp2_with fail
    go_ret
    refine ⟨_, rfl, ?_, Below.refl _ _⟩
    rw [HZ.out]
    exact OwnInts.nil _ _ _
  | some ad =>
    go_wp2_with (at_builtin; refine wpList_appN T_int OL.out (HA.out.below B1.out).1 (by rw [ints_len]; simp; omega) B1.out.size (ints_oneV _) rfl (by rfl) (by rfl) (by rfl) ?_; intro v1 w2 hown1 hgr1)
    go_ret
    exact ⟨_, rfl, ⟨by simpa using hown1, HA.out.2⟩, hgr1.below B1.out (by simp) OL.out.ge⟩

end Go.Proofs.Ytmmibegodeeadaa
set_option maxRecDepth 100000
set_option linter.unusedVariables false
set_option linter.unusedSimpArgs false
namespace Go.Proofs.Ytmmibegodeeadaa
open Go.RowKit Go.Sort Go.Shelf

/-- the program's comparison of trees -/
def cmpT (a b : List Int) : Int := if a.length = b.length then cmpL b a else (a.length : Int) - b.length
theorem cmpT_up (a b : List Nat) : decide (cmpT (up a) (up b) < 0) = befN a b := by
  unfold cmpT befN
  rw [up_len, up_len]
  by_cases h : a.length = b.length
  · rw [if_pos h, h, Nat.beq_refl]
    exact cmpL_up b a
  · rw [if_neg h]
    have : Nat.beq a.length b.length = false := by
      cases hb : Nat.beq a.length b.length with
      | true => exact absurd (Nat.eq_of_beq_eq_true hb) h
      | false => rfl
    rw [this]
    simp only [cond_false]
    cases hlt : Nat.blt a.length b.length with
    | true => have := (blt_iff _ _).1 hlt; simp; omega
    | false => have : ¬ a.length < b.length := fun h2 => by rw [(blt_iff _ _).2 h2] at hlt; cases hlt
               simp; omega

theorem i_compareTrees (w : World) (v v' : Value) (a b : List Int) (ha : Ints w v a) (hb : Ints w v' b) :
    Calls Try.prog 114 #[v, v'] w fun e w' => e = .returned (.int .i64 (cmpT a b)) ∧ w = w' := by
  have HA := Lib.hid ha
  have HB := Lib.hid hb
  obtain ⟨A, c, rfl, l1, l2, -⟩ := ha.open_
  obtain ⟨A', c', rfl, m1, m2, -⟩ := hb.open_
  clear ha hb
  by_cases h : a.length = b.length
  · have HE := Lib.hid (show cmpT a b = cmpL b a by rw [cmpT, if_pos h])
    rw [HE.out]
    have hd : ((a.length : Int) != (b.length : Int)) = false := by simp [h]
    have HL := Lib.hid h
    clear h
    go_enter Try.func114, Try.ntmps114
    go_wp2_with (go_at_call 125; refine (lib_Compare _ _ _ b a HB.out HA.out).mono ?_; rintro e w1 ⟨rfl, rfl⟩)
    go_ret
    exact ⟨rfl, rfl⟩
  · have HE := Lib.hid (show cmpT a b = (a.length : Int) - b.length by rw [cmpT, if_neg h])
    rw [HE.out]
    have hd : ((a.length : Int) != (b.length : Int)) = true := by simp; omega
    have hw : IntKind.i64.wrap ((a.length : Int) - (b.length : Int)) = (a.length : Int) - (b.length : Int) := IntWalk.i64_in _ (by omega)
    clear h
    go_enter Try.func114, Try.ntmps114
    go_wp2_with fail
    go_ret
    exact ⟨rfl, rfl⟩

theorem treeCmp {w : World} {B : Nat} (x y : Row1s w B) : ltOf (fun (x y : Row1s w B) => cmpT (up x.1.2) (up y.1.2)) x y = befN x.1.2 y.1.2 := cmpT_up _ _
theorem treeSwo (w : World) (B : Nat) : SWO (ltOf fun (x y : Row1s w B) => cmpT (up x.1.2) (up y.1.2)) where
  irrefl x := by rw [treeCmp]; exact befN_irrefl _
  trans x y z h1 h2 := by rw [treeCmp] at *; exact befN_trans h1 h2
  ntrans x y z h1 h2 := by rw [treeCmp] at *; exact befN_ntrans h1 h2

/-- the insertion sort of the library, at a list of trees of one's own -/
theorem lib_insTrees (w : World) (B cap : Nat) (A : Option Addr) (vs : List Value) (bs : List (List Nat)) (h : Own w B tL (.slice A vs.length cap) vs) (hr : RR w B vs (bs.map up)) (hn : vs.length ≤ 1000) :
    Calls Try.prog 164 #[.slice A vs.length cap, .int .i64 0, .int .i64 vs.length, .func (.func 114) #[] #[]] w fun e w' => e = .returned (.tuple #[]) ∧
      ∃ vs', vs'.length = vs.length ∧ Own w' B tL (.slice A vs.length cap) vs' ∧ RR w' B vs' ((srtB bs).map up) ∧ w.grownBy w' (Value.ownBlock (.slice A vs.length cap)) := by
  rcases h.cases with ⟨he, rfl⟩ | ⟨g, cap', cur, he, hBg, hgs, -⟩
  · simp only [Value.slice.injEq] at he
    obtain ⟨rfl, -, rfl⟩ := he
    have hb : bs = [] := by have h0 := hr.1; rw [List.length_map] at h0; exact List.eq_nil_of_length_eq_zero h0.symm
    subst hb
    refine (AnyF.insertionSortCmpFunc_none { Try.lsort with } none 0 _ w).mono ?_
    rintro e w' ⟨rfl, rfl⟩
    exact ⟨rfl, [], rfl, h, hr, World.grownBy.refl _ _⟩
  · simp only [Value.slice.injEq] at he
    obtain ⟨rfl, -, rfl⟩ := he
    obtain ⟨d, hd1, hd2⟩ := mkRows hr
    have hdl : d.length = vs.length := by rw [← hd1, List.length_map]
    have ho : Own w B tL (.slice (some ⟨g, 0, none⟩) d.length cap) (d.map fun x => x.1.1) := by rw [hd1, hdl]; exact h
    have hone : OneCell (fun x : Row1s w B => x.1.1) := fun x => (RR.one x.2).oneCell _ (by simp)
    have eg : ∀ args w, (callFunc 114 args).run Try.prog w = .ok (.enter 114 args) w := enters_of Try.func114 (by kernel_rfl) rfl
    have hkeep : ∀ (x : Row1s w B) (m : Nat) (dk : Array (Row1s w B)) (os : Array Obj), OwnInts (sortWorld (fun x : Row1s w B => x.1.1) w g 0 m dk os) B tI x.1.1 (up x.1.2) := fun x m dk os =>
      x.2.kept (v' := .slice (some ⟨g, 0, none⟩) vs.length cap) (grownBy_srt dk) (x.2.1.ne_of_type h (by decide))
    have hcmp : CmpReads Try.prog 114 #[] (fun x : Row1s w B => x.1.1) (fun x y => cmpT (up x.1.2) (up y.1.2)) g 0 d.toArray.size w := fun m os dk _ x y =>
      (i_compareTrees _ _ _ _ _ (hkeep x m dk os).ints (hkeep y m dk os).ints).mono fun e w' ⟨he, hw⟩ => ⟨he, 0, hw.symm⟩
    have hcon := Any.insertionSortCmpFunc_one { Try.lsort with } (fun x : Row1s w B => x.1.1) hone _ 114 #[] g 0 cap 0 d.toArray.size d.toArray w eg hcmp (holds_own ho) (Nat.zero_le _) (Nat.le_refl _) (by simp; omega)
    rw [List.size_toArray, hdl] at hcon
    refine hcon.mono ?_
    rintro e w' ⟨rfl, n, rfl⟩
    have hins := insertionSort_holds (treeSwo w B) d.toArray 0 vs.length (Nat.zero_le _) (by simp; omega)
    generalize Sort.insertionSort (ltOf fun (x y : Row1s w B) => cmpT (up x.1.2) (up y.1.2)) d.toArray 0 vs.length = d' at hins ⊢
    obtain ⟨hp, hs⟩ := hins
    have hsz : d'.size = vs.length := by have := hp.1; simp at this; omega
    have hperm : d'.toList.Perm d := by
      have h3 := hp.2.2
      rw [← hsz] at h3
      simp only [Array.extract_size] at h3
      have e : (d.toArray.extract 0 d'.size).toList = d := by
        rw [show d'.size = d.toArray.size by simp; omega, Array.extract_size]
      rw [e] at h3
      exact h3
    have hasc : Asc (d'.toList.map fun x => x.1.2) := by
      rw [Asc, List.pairwise_iff_getElem]
      intro i j hi hj hij
      simp at hi hj
      have h4 := hs i j (Nat.zero_le _) hij (by omega)
      rw [treeCmp, getElem!_pos d' i (by omega), getElem!_pos d' j (by omega)] at h4
      simpa using h4
    have hL : (d'.toList.map fun x => x.1.2) = srtB bs := srtB_unique (by rw [← hd2]; exact hperm.map _) hasc
    have hl : d'.toList.length = d.length := by simp; omega
    have hfin := own_srt (n := n) (os := #[]) ho hl
    simp only [Array.toArray_toList] at hfin
    rw [hdl] at hfin
    rw [← sortWorld_none]
    refine ⟨rfl, d'.toList.map (fun x => x.1.1), by simp; omega, hfin, ⟨by rw [← hL]; simp, fun k u zs hu hz => ?_⟩, grownBy_srt d'⟩
    rw [← hL, List.map_map, List.getElem?_map] at hz
    rw [List.getElem?_map] at hu
    cases hx : d'.toList[k]? with
    | none => rw [hx] at hu; cases hu
    | some x =>
      rw [hx] at hu hz
      simp only [Option.map_some, Option.some.injEq, Function.comp] at hu hz
      subst hu; subst hz
      exact hkeep x _ _ _

set_option maxHeartbeats 2000000 in
theorem lib_stable (w : World) (B cap : Nat) (A : Option Addr) (vs : List Value) (bs : List (List Nat)) (h : Own w B tL (.slice A vs.length cap) vs) (hr : RR w B vs (bs.map up)) (hn : vs.length ≤ 19) :
    Calls Try.prog 163 #[.slice A vs.length cap, .int .i64 vs.length, .func (.func 114) #[] #[]] w fun e w' => e = .returned (.tuple #[]) ∧
      ∃ vs', vs'.length = vs.length ∧ Own w' B tL (.slice A vs.length cap) vs' ∧ RR w' B vs' ((srtB bs).map up) ∧ w.grownBy w' (Value.ownBlock (.slice A vs.length cap)) := by
  have hI := Lib.hid (lib_insTrees w B cap A vs bs h hr (by omega))
  have hn1 : ¬ ((20 : Int) ≤ (vs.length : Int)) := by omega
  have hn2 : ¬ ((20 : Int) < (vs.length : Int)) := by omega
  have hd1 : decide ((20 : Int) ≤ (vs.length : Int)) = false := by simp; omega
  have hd2 : decide ((20 : Int) < (vs.length : Int)) = false := by simp; omega
  clear hn
  clear h hr
  go_enter Try.func163, Try.ntmps163
  go_wp2_with fail
  refine wp_loop_rounds 1 ?_
  rw [rounds_succ]
  go_wp2_with (go_at_call 164; refine hI.out.mono ?_; rintro e w1 ⟨rfl, h1⟩; have H1 := Lib.hid h1; clear h1)
  refine wp_loop_rounds 1 ?_
  rw [rounds_succ]
  go_wp2_with fail
  go_end0
  exact ⟨rfl, H1.out⟩

theorem lib_SortStable (w : World) (B cap : Nat) (A : Option Addr) (vs : List Value) (bs : List (List Nat)) (h : Own w B tL (.slice A vs.length cap) vs) (hr : RR w B vs (bs.map up)) (hn : vs.length ≤ 19) :
    Calls Try.prog 155 #[.slice A vs.length cap, .func (.func 114) #[] #[]] w fun e w' => e = .returned (.tuple #[]) ∧
      ∃ vs', vs'.length = vs.length ∧ Own w' B tL (.slice A vs.length cap) vs' ∧ RR w' B vs' ((srtB bs).map up) ∧ w.grownBy w' (Value.ownBlock (.slice A vs.length cap)) := by
  have hI := Lib.hid (lib_stable w B cap A vs bs h hr hn)
  clear h hr hn
  go_enter Try.func155, Try.ntmps155
  go_wp2_with (go_at_call 163; refine hI.out.mono ?_; rintro e w1 ⟨rfl, h1⟩; have H1 := Lib.hid h1; clear h1)
  go_end0
  exact ⟨rfl, H1.out⟩

set_option maxHeartbeats 2000000 in
theorem i_cloneRows (w : World) (v : Value) (xss : List (List Int)) (ha : Rows w v xss) (hn : xss.length ≤ 1000) (hl : ∀ zs ∈ xss, zs.length ≤ 1000) :
    Calls Try.prog 154 #[v] w fun e w' => ∃ x, e = .returned x ∧ LL w' w.heap.size x xss ∧ Below w.heap.size w w' := by
  obtain ⟨A, c, rfl, l1, l2, h3⟩ := ha.open_
  have H3 := Lib.hid h3
  have HL := Lib.hid hl
  have OL := Lib.hid (show LL (w.alloc (.cells #[] tL)) w.heap.size (.slice (some ⟨w.heap.size, 0, none⟩) 0 0) [] from ⟨[], own_lit w tL [] (by simp [maxLen]), RR.nil _ _⟩)
  clear h3 hl ha
  go_enter Try.func154, Try.ntmps154
  go_wp2_with fail
  go_loopw [3, 9] (fun o i wr => ∃ (j : Nat) (vs : List Value), j ≤ xss.length ∧ i = .int .i64 j ∧ Own wr w.heap.size tL o vs ∧ RR wr w.heap.size vs (xss.take j) ∧ Below w.heap.size w wr) (fun _ i _ => xss.length - (intOf i).toNat)
  case atStart =>
    obtain ⟨vs, h1, h2⟩ := OL.out
    exact ⟨0, vs, Nat.zero_le _, rfl, h1, by simpa using h2, below1 _ _⟩
  case round =>
    obtain ⟨j, vs, hj, rfl, hown, hrr, hbw⟩ := hrel
    clear OL
    have HO := Lib.hid hown
    have HRR := Lib.hid hrr
    have HBW := Lib.hid hbw
    by_cases hlt : j < xss.length
    · obtain ⟨ad, u, zs, rfl, hz, hu, hc0⟩ := H3.out j hlt
      have hc : wr.cell? (ad.add j) = some u := by
        rw [hbw.cell (by rw [block_add]; have := World.block_lt_of_cell? w _ hc0; rwa [block_add] at this)]; exact hc0
      have HU := Lib.hid (hu.below hbw)
      have HZL := Lib.hid (HL.out zs (List.mem_of_getElem? hz))
      have HTK := Lib.hid (show xss.take (j + 1) = xss.take j ++ [zs] by rw [List.take_add_one, hz]; rfl)
      have hvl : vs.length ≤ 1000 := by have h1 := hrr.1; rw [List.length_take] at h1; omega
      have hji : (j : Int) < (xss.length : Int) := by omega
      clear hown hrr hbw hz hu hc0
      go_wp2_with (first
        | (go_at_call 115; refine (lib_Clone _ _ zs HU.out (by have := HZL.out; omega)).mono ?_; rintro e w2 ⟨r2, rfl, ho2, hb2⟩; obtain ⟨A5, c5, he5, -, -, -⟩ := ho2.ints.open_; subst he5; have HO2 := Lib.hid (ho2.mono HBW.out.size); have HBI := Lib.hid hb2; have HB2 := Lib.hid (HBW.out.trans (hb2.mono HBW.out.size)); have HOW := Lib.hid (HO.out.below hb2); clear ho2 hb2)
        | (at_builtin; refine wpList_app1 T_row HOW.out (by omega) HB2.out.size (by rfl) rfl (by rfl) (by rfl) (by rfl) ?_; intro v1 w5 hown1 hgr1; have HN1 := Lib.hid hown1; have HGR := Lib.hid hgr1.1; have HB5 := Lib.hid (hgr1.below HB2.out HB2.out.size HOW.out.ge); clear hown1 hgr1))
      go_roundw
      case rel =>
        refine ⟨j + 1, _, by omega, by go_num, HN1.out, ?_, HB5.out⟩
        rw [HTK.out]
        exact LL.snoc HOW.out (HRR.out.below HBI.out) HO2.out HN1.out HGR.out
      case measure => simp [intOf]; omega
    · have : j = xss.length := by omega
      subst this
      rw [List.take_length] at HRR
      go_wp2_with fail
      go_ret
      exact ⟨_, rfl, ⟨vs, HO.out, HRR.out⟩, HBW.out⟩

theorem i_forestOf (w : World) (v : Value) (bs : List (List Nat)) (ha : Rows w v (bs.map up)) (hn : bs.length ≤ 19) (hl : ∀ b ∈ bs, b.length ≤ 1000) :
    Calls Try.prog 121 #[v] w fun e w' => ∃ x, e = .returned x ∧ LL w' w.heap.size x ((srtB bs).map up) ∧ Below w.heap.size w w' := by
  have HA := Lib.hid ha
  have HL := Lib.hid (show ∀ zs ∈ bs.map up, zs.length ≤ 1000 from fun zs hz => by obtain ⟨b, hb, rfl⟩ := List.mem_map.1 hz; rw [up_len]; exact hl b hb)
  obtain ⟨A, c, rfl, l1, l2, -⟩ := ha.open_
  clear ha hl
  rw [List.length_map] at l1 HA ⊢
  go_enter Try.func121, Try.ntmps121
  go_wp2_with (first
    | (go_at_call 154; refine (i_cloneRows _ _ (bs.map up) HA.out (by rw [List.length_map]; omega) HL.out).mono ?_; rintro e w1 ⟨x, rfl, ⟨vs, ho, hr⟩, hb⟩; have hvl := hr.1; rw [List.length_map] at hvl; obtain ⟨A1, c1, rfl, -, -⟩ := ho.cells.open_; have HVL := Lib.hid hvl; have HO := Lib.hid ho; have HR := Lib.hid hr; have HB := Lib.hid hb; clear ho hr hb hvl)
    | (go_at_call 155; refine (lib_SortStable _ _ _ _ vs bs HO.out HR.out (by rw [HVL.out]; exact hn)).mono ?_; rintro e w2 ⟨rfl, vs', hl', ho', hr', hg'⟩; have HO' := Lib.hid ho'; have HR' := Lib.hid hr'; have HG' := Lib.hid hg'; clear ho' hr' hg' hl'))
  go_ret
  exact ⟨_, rfl, ⟨vs', HO'.out, HR'.out⟩, HB.out.grown HG'.out HB.out.size HO.out.ge⟩
end Go.Proofs.Ytmmibegodeeadaa
set_option maxRecDepth 100000
namespace Go.Proofs.Ytmmibegodeeadaa
theorem okc_s : (List.range 6).all (fun m => (levs m).all okTree) = true := by decide +kernel
theorem okc_0 : (((levs 6).drop 0).take 20).all okTree = true := by decide +kernel
theorem okc_1 : (((levs 6).drop 20).take 40).all okTree = true := by decide +kernel
theorem okc_2 : (((levs 6).drop 60).take 72).all okTree = true := by decide +kernel
theorem okc_3 : (((levs 7).drop 0).take 16).all okTree = true := by decide +kernel
theorem okc_4 : (((levs 7).drop 16).take 22).all okTree = true := by decide +kernel
theorem okc_5 : (((levs 7).drop 38).take 18).all okTree = true := by decide +kernel
end Go.Proofs.Ytmmibegodeeadaa
set_option maxRecDepth 100000
namespace Go.Proofs.Ytmmibegodeeadaa
theorem okc_6 : (((levs 7).drop 56).take 16).all okTree = true := by decide +kernel
theorem okc_7 : (((levs 7).drop 72).take 44).all okTree = true := by decide +kernel
theorem okc_8 : (((levs 7).drop 116).take 30).all okTree = true := by decide +kernel
theorem okc_9 : (((levs 7).drop 146).take 92).all okTree = true := by decide +kernel
theorem okc_10 : (((levs 7).drop 238).take 191).all okTree = true := by decide +kernel
end Go.Proofs.Ytmmibegodeeadaa
set_option linter.unusedVariables false
set_option linter.unusedSimpArgs false
set_option maxRecDepth 100000
namespace Go.Proofs.Ytmmibegodeeadaa

theorem all_part {α : Type} {p : α → Bool} {l : List α} {a m : Nat} (h : ((l.drop a).take m).all p = true) (h' : (l.drop (a + m)).all p = true) : (l.drop a).all p = true := by
  rw [← List.take_append_drop m (l.drop a), List.all_append, h, List.drop_drop, h']; rfl
theorem all_end {α : Type} {p : α → Bool} {l : List α} {a : Nat} (h : Nat.ble l.length a = true) : (l.drop a).all p = true := by
  rw [List.drop_eq_nil_of_le (Nat.le_of_ble_eq_true h)]; rfl
theorem okc_six : (levs 6).all okTree = true := by
  have e := @all_end _ okTree (levs 6) 132 (by decide +kernel)
  have e2 := all_part (a := 60) (m := 72) okc_2 e
  have e1 := all_part (a := 20) (m := 40) okc_1 e2
  have e0 := all_part (a := 0) (m := 20) okc_0 e1
  simpa using e0
theorem okc_seven : (levs 7).all okTree = true := by
  have e := @all_end _ okTree (levs 7) 429 (by decide +kernel)
  have e10 := all_part (a := 238) (m := 191) okc_10 e
  have e9 := all_part (a := 146) (m := 92) okc_9 e10
  have e8 := all_part (a := 116) (m := 30) okc_8 e9
  have e7 := all_part (a := 72) (m := 44) okc_7 e8
  have e6 := all_part (a := 56) (m := 16) okc_6 e7
  have e5 := all_part (a := 38) (m := 18) okc_5 e6
  have e4 := all_part (a := 16) (m := 22) okc_4 e5
  have e3 := all_part (a := 0) (m := 16) okc_3 e4
  simpa using e3
theorem okTree_8 : (List.range 8).all (fun m => (levs m).all okTree) = true := by
  have h := okc_s
  rw [List.all_eq_true] at h ⊢
  intro m hm
  have hm8 := List.mem_range.1 hm
  by_cases h6 : m < 6
  · exact h m (List.mem_range.2 h6)
  · have : m = 6 ∨ m = 7 := by omega
    rcases this with rfl | rfl
    · exact okc_six
    · exact okc_seven
theorem cut_ok {t : List Nat} {m : Nat} (ht : lvl t = true) (hl : t.length ≤ 8) (hc : canO 9 t = some t) (hm : m < 2 ^ t.length) (h2 : m % 2 = 0) : okCut t m = true := by
  have h := lev8 okTree_8 ht hl
  rw [okTree, isCan, hc] at h
  simp only [eqN_iff.2 rfl, cond_true, List.all_eq_true, List.mem_range] at h
  have hpos : 0 < t.length := by obtain ⟨c, rfl, -⟩ := lvl_cons ht; simp
  have e : t.length = (t.length - 1) + 1 := by omega
  have h3 := h (m / 2) (by rw [e, Nat.pow_succ] at hm; omega)
  rwa [show 2 * (m / 2) = m by omega] at h3
/-- what the kernel has found -/
theorem cut_parts {t : List Nat} {m : Nat} (h : okCut t m = true) : (cutN t m).tops = 0 :: cutsN m (t.length - 1) 1 ∧ (∀ i ∈ (cutN t m).tops, lvl (pieN t m i) = true ∧ (pieN t m i).length ≤ 8 ∧ tfO 9 (cutN t m).near i 0 = canO 9 (pieN t m i)) ∧
    lvl (sklN t m) = true ∧ (sklN t m).length ≤ 8 ∧ tfO 9 (joinN (cutN t m)) 0 0 = canO 9 (sklN t m) := by
  unfold okCut at h
  simp only [Bool.and_eq_true, List.all_eq_true] at h
  obtain ⟨h1, h2, h3⟩ := h
  refine ⟨eqN_iff.1 h1, fun i hi => ?_, ?_⟩
  · have h4 := h2 i hi
    cases hr : rawO 9 (cutN t m).near i 0 with
    | none => rw [hr] at h4; cases h4
    | some q =>
      rw [hr] at h4
      simp only [Bool.and_eq_true] at h4
      have h5 := eqN_iff.1 h4.1
      subst h5
      have h8 := Nat.le_of_ble_eq_true h4.2
      obtain ⟨h6, h7⟩ := tfO_raw hr h8
      exact ⟨h6, h8, h7⟩
  · cases hr : rawO 9 (joinN (cutN t m)) 0 0 with
    | none => rw [hr] at h3; cases h3
    | some q =>
      rw [hr] at h3
      simp only [Bool.and_eq_true] at h3
      have h5 := eqN_iff.1 h3.1
      subst h5
      have h8 := Nat.le_of_ble_eq_true h3.2
      obtain ⟨h6, h7⟩ := tfO_raw hr h8
      exact ⟨h6, h8, h7⟩
end Go.Proofs.Ytmmibegodeeadaa
