/- The law FnFreeTrees, walked. | Arguments that came in, opened to the words of the Mem text. | Byte slices that came in, opened. -/
import Derived.Test.YtcbgopmonbgmgaaFa12
import Derived.Test.YtcbgopmonbgmgaaFa5
import Derived.Test.YtcbgopmonbgmgaaRows
import Derived.Test.YtcbgopmonbgmgaaFa1
import Derived.WalkKit
import Derived.ProofKit
import Derived.OpenShut
set_option maxRecDepth 100000
set_option linter.unusedVariables false
set_option linter.unusedSimpArgs false
namespace Go.Proofs.Ytcbgopmonbgmgaa
open Go.RowKit

theorem addr_addF (g n : Nat) : (⟨g, 0, none⟩ : Addr).add n = ⟨g, n, none⟩ := by by_cases h0 : n = 0 <;> simp [Addr.add, h0]
def frI : List Int := [0, 1, 1, 1, 2, 3, 6, 11, 23]
def cdI : List Int := [0, 1, 0, 1, 1, 3, 4, 11, 19]
theorem frI_at {k : Nat} (h : k ≤ 8) : frI[k]? = some ((frLen.getD k 0 : Nat) : Int) := by
  obtain rfl | rfl | rfl | rfl | rfl | rfl | rfl | rfl | rfl : k = 0 ∨ k = 1 ∨ k = 2 ∨ k = 3 ∨ k = 4 ∨ k = 5 ∨ k = 6 ∨ k = 7 ∨ k = 8 := by omega
  all_goals rfl
theorem cdI_at {k : Nat} (h : k ≤ 8) : cdI[k]? = some ((cdLen.getD k 0 : Nat) : Int) := by
  obtain rfl | rfl | rfl | rfl | rfl | rfl | rfl | rfl | rfl : k = 0 ∨ k = 1 ∨ k = 2 ∨ k = 3 ∨ k = 4 ∨ k = 5 ∨ k = 6 ∨ k = 7 ∨ k = 8 := by omega
  all_goals rfl
/-- is a tree among the first k of a list? -/
def anyQ (F : List (List Nat)) (r : List Nat) (k : Nat) : Bool := (F.take k).any fun q => decide (up q = up r)
theorem anyQ_succ {F : List (List Nat)} {r q : List Nat} {k : Nat} (h : F[k]? = some q) : anyQ F r (k + 1) = (anyQ F r k || decide (up q = up r)) := by
  unfold anyQ
  rw [List.take_add_one, h]
  simp
theorem anyQ_mem {F : List (List Nat)} {r : List Nat} (h : r ∈ F) : anyQ F r F.length = true := by
  unfold anyQ
  rw [List.take_length, List.any_eq_true]
  exact ⟨r, h, decide_eq_true rfl⟩
/-- a row of a list of trees -/
theorem Rows.treeA {w : World} {A : Option Addr} {n c : Nat} {F : List (List Nat)} (h : Rows w (.slice A n c) (F.map up)) {i : Nat} (hi : i < n) :
    ∃ ad At ct t, A = some ad ∧ F[i]? = some t ∧ Ints w (.slice At t.length ct) (up t) ∧ w.cell? (ad.add i) = some (.slice At t.length ct) := by
  obtain ⟨A', c', he, -, -, h3⟩ := h.open_
  simp only [Value.slice.injEq] at he
  obtain ⟨rfl, hn, rfl⟩ := he
  obtain ⟨ad, u, zs, hA, hz, hu, hc⟩ := h3 i (by omega)
  rw [List.getElem?_map] at hz
  cases ht : F[i]? with
  | none => rw [ht] at hz; cases hz
  | some t =>
    rw [ht] at hz
    injection hz with hz
    subst hz
    obtain ⟨Au, cu, rfl, -, -, -⟩ := hu.open_
    rw [up_len] at hu hc
    exact ⟨ad, Au, cu, t, hA, rfl, hu, hc⟩
set_option maxHeartbeats 16000000 in
theorem law_FreeTrees (w : World) (v : Value) (n : Nat) (h : Bts w v n) :
    Calls Try.prog 6 #[v] w fun e w' => e = .returned (.bool true) ∧ Below w.heap.size w w' := by
  obtain ⟨A, c, rfl, hb⟩ := h
  have HBG := Lib.hid (l_big w A n c)
  by_cases h4 : 4096 < n
  · have hd : decide (4096 < n) = true := by simp [h4]
    rw [hd] at HBG
    clear hd h4 hb
    go_enter Try.func6, Try.ntmps6
    go_wp2_with (go_at_call 9; refine HBG.out.mono ?_; rintro e w0 ⟨rfl, rfl⟩)
    go_ret
    exact ⟨rfl, Below.refl _ _⟩
  · have hd : decide (4096 < n) = false := by simp [h4]
    rw [hd] at HBG
    have HDR := Lib.hid (s_DrawFreeTreesOf w A n c hb (by omega))
    clear hd h4 hb
    go_enter Try.func6, Try.ntmps6
    go_upto_region 4 with (first
      | (go_at_call 9; refine HBG.out.mono ?_; rintro e w0 ⟨rfl, rfl⟩)
      | (go_at_call 27; go_loud (refine HDR.out.mono ?_; rintro e w1 ⟨k, rfl, hk, hb1⟩; have HB1 := Lib.hid hb1; clear hb1)))
    clear HBG HDR
    have hk64 : In64 (k : Int) := by unfold In64; omega
    have HF1 := Lib.hid (i_FreeTreesOf w1 k hk64)
    have HF2 := Lib.hid (fun X => s_FreeTreesOf X k hk64)
    have HF3 := Lib.hid (fun X => i_FreeConditionsA X k hk64)
    have HF4 := Lib.hid (fun X => i_TreesOf X k hk64)
    cases hr : inR (k : Int) 1 8 with
    | false =>
      have hc : ftC k = 2 := by simp [ftC, hr]
      have hl : ftR k = [] := by simp [ftR, hr]
      rw [hc, hl] at HF1
      simp only [hc] at HF2 HF3
      clear hr hc hl hk64 hk
      go_wp2_with (first
        | (go_at_call 28; go_loud (refine HF1.out.mono ?_; rintro e w2 ⟨x2, rfl, hl2, hb2⟩; obtain ⟨A2, c2, rfl, -, -, -⟩ := hl2.rows.open_; have HB2 := Lib.hid (HB1.out.trans (hb2.mono HB1.out.size)); clear hl2 hb2))
        | (go_at_call 29; go_loud (refine (HF2.out _).mono ?_; rintro e w3 ⟨x3, rfl, hb3⟩; have HB3 := Lib.hid (HB2.out.trans (hb3.mono HB2.out.size)); clear hb3))
        | (go_at_call 30; go_loud (refine (HF3.out _).mono ?_; rintro e w4 ⟨x4, rfl, hl4, hb4⟩; have HB4 := Lib.hid (HB3.out.trans (hb4.mono HB3.out.size)); clear hb4 hl4)))
      go_ret
      exact ⟨rfl, HB4.out⟩
    | true =>
      have hc : ftC k = 0 := by simp [ftC, hr]
      have hl : ftR k = frN k := by simp [ftR, hr]
      have hl2 : ftD k = cndN k := by simp [ftD, hr]
      have hl3 : ftT k = treesN k := by simp [ftT, hr]
      have h2 := inR_iff.1 hr
      have h1 : 1 ≤ k := by omega
      have h8 : k ≤ 8 := by omega
      rw [hc, hl] at HF1
      simp only [hc] at HF2
      simp only [hc, hl2] at HF3
      simp only [hc, hl3] at HF4
      have HLN := Lib.hid (free_len h1 h8)
      have HMM := Lib.hid (fun t r => free_mem (t := t) (r := r) h1 h8)
      have HTN := Lib.hid (treesN_at h1 h8)
      have HCN := Lib.hid (fun q (hq : q ∈ cndN k) => (cnd_at hq : _ ∧ _))
      have HCL := Lib.hid (fun q (hq : q ∈ cndN k) => show lvl q = true ∧ q.length ≤ 8 from by
        have h5 := (List.mem_filter.1 hq).1
        have h6 := (List.mem_filter.1 h5).1
        obtain ⟨a, b, -⟩ := (treesN_at h1 h8).2 q h6
        exact ⟨b, by omega⟩)
      have HFL := Lib.hid (show (frN k).length ≤ 115 from Nat.le_trans (List.length_filter_le _ _) (treesN_at h1 h8).1)
      have HDL := Lib.hid (show (cndN k).length ≤ 115 from Nat.le_trans (List.length_filter_le _ _) HFL.out)
      have HI1 := Lib.hid (frI_at h8)
      have HI2 := Lib.hid (cdI_at h8)
      rw [← HLN.out.1] at HI1
      rw [← HLN.out.2] at HI2
      clear hr hc hl hl2 hl3 h2 hk64 HLN
      generalize frN k = F at *
      generalize cndN k = D at *
      generalize hT : treesN k = T at *
      clear hT
      go_upto_region 11 with (first
        | (go_at_call 28; go_loud (refine HF1.out.mono ?_; rintro e w2 ⟨x2, rfl, hl2, hb2⟩; obtain ⟨A2, c2, he2, -, -, -⟩ := hl2.rows.open_; rw [List.length_map] at he2; subst he2; have HL2 := Lib.hid hl2.rows; have HB2 := Lib.hid (HB1.out.trans (hb2.mono HB1.out.size)); clear hl2 hb2))
        | (go_at_call 29; go_loud (refine (HF2.out _).mono ?_; rintro e w3 ⟨x3, rfl, hb3⟩; have HB3 := Lib.hid (HB2.out.trans (hb3.mono HB2.out.size)); have HL3 := Lib.hid (HL2.out.below hb3); clear hb3))
        | (go_at_call 30; go_loud (refine (HF3.out _).mono ?_; rintro e w4 ⟨x4, rfl, hl4, hb4⟩; obtain ⟨A4, c4, he4, -, -, -⟩ := hl4.rows.open_; rw [List.length_map] at he4; subst he4; have HM4 := Lib.hid hl4.rows; have HL4 := Lib.hid (HL3.out.below hb4); have HB4 := Lib.hid (HB3.out.trans (hb4.mono HB3.out.size)); clear hb4 hl4)))
      clear HF1 HF2 HF3 HL2 HL3 HB1 HB2 HB3
      obtain ⟨g, hg⟩ : ∃ g, g = w4.heap.size := ⟨_, rfl⟩
      have HOF := Lib.hid (show Own (w4.alloc (.cells (ints frI).toArray tN)) w4.heap.size tN (.slice (some ⟨w4.heap.size, 0, none⟩) 9 9) (ints frI) from own_lit w4 tN (ints frI) (by decide))
      have HB5 := Lib.hid (below1 w4 (.cells (ints frI).toArray tN))
      obtain ⟨W5, hW5⟩ : ∃ W5, W5 = w4.alloc (.cells (ints frI).toArray tN) := ⟨_, rfl⟩
      go_upto_region 12 with fail
      rw [show (Obj.cells #[Value.int IntKind.i64 0, Value.int IntKind.i64 1, Value.int IntKind.i64 1, Value.int IntKind.i64 1, Value.int IntKind.i64 2, Value.int IntKind.i64 3, Value.int IntKind.i64 6, Value.int IntKind.i64 11, Value.int IntKind.i64 23] tN) = .cells (ints frI).toArray tN from rfl]
      rw [← hW5] at HOF HB5 ⊢
      clear hW5
      have HOC := Lib.hid (show Own (W5.alloc (.cells (ints cdI).toArray tN)) W5.heap.size tN (.slice (some ⟨W5.heap.size, 0, none⟩) 9 9) (ints cdI) from own_lit W5 tN (ints cdI) (by decide))
      have HB6 := Lib.hid (below1 W5 (.cells (ints cdI).toArray tN))
      obtain ⟨W6, hW6⟩ : ∃ W6, W6 = W5.alloc (.cells (ints cdI).toArray tN) := ⟨_, rfl⟩
      go_upto_region 13 with fail
      rw [show (Obj.cells #[Value.int IntKind.i64 0, Value.int IntKind.i64 1, Value.int IntKind.i64 0, Value.int IntKind.i64 1, Value.int IntKind.i64 1, Value.int IntKind.i64 3, Value.int IntKind.i64 4, Value.int IntKind.i64 11, Value.int IntKind.i64 19] tN) = .cells (ints cdI).toArray tN from rfl]
      rw [← hW6] at HOC HB6 ⊢
      clear hW6
      obtain ⟨a1, n1, c1, he1, hc1⟩ := (HOF.out.below HB6.out).cells.at_ (ints_get HI1.out)
      obtain ⟨a2, n2, c2', he2, hc2⟩ := HOC.out.cells.at_ (ints_get HI2.out)
      simp only [Value.slice.injEq, Option.some.injEq] at he1 he2
      obtain ⟨rfl, -, -⟩ := he1
      obtain ⟨rfl, -, -⟩ := he2
      rw [addr_addF] at hc1 hc2
      have hk9 : (k : Int) < 9 := by omega
      have HL6 := Lib.hid ((HL4.out.below HB5.out).below HB6.out)
      have HM6 := Lib.hid ((HM4.out.below HB5.out).below HB6.out)
      have HW6 := Lib.hid (HB4.out.trans ((HB5.out.trans (HB6.out.mono HB5.out.size)).mono HB4.out.size))
      clear HOF HOC HB5 HB6 HL4 HM4 HB4
      have hFL := HFL.out
      have hDL := HDL.out
      go_upto_region 15 with fail
      clear hc1 hc2 hk9
      go_wp2_with fail
      -- the conditions
      go_loopw [12] (fun x wr => ∃ i : Nat, i ≤ D.length ∧ x = .int .i64 i ∧ Below W6.heap.size W6 wr) (fun x _ => D.length - (intOf x).toNat)
      case atStart => exact ⟨0, Nat.zero_le _, rfl, Below.refl _ _⟩
      case round =>
        obtain ⟨i, hi, rfl, hb⟩ := hrel
        have HB := Lib.hid hb
        clear hb
        by_cases hlt : i < D.length
        · obtain ⟨ad, At, ct, q, rfl, hq, hti, hcr⟩ := (HM6.out.below HB.out).treeA hlt
          have hmem := List.mem_of_getElem? hq
          obtain ⟨hfr, hsp⟩ := HCN.out q hmem
          obtain ⟨hql, hq8⟩ := HCL.out q hmem
          have HTI := Lib.hid hti
          have HS := Lib.hid (fun X (hX : Ints X (.slice At q.length ct) (up q)) => i_IsSuperfluous0 X _ q hX hql hq8)
          have HR := Lib.hid (fun X (hX : Ints X (.slice At q.length ct) (up q)) => i_FreeForm0 X _ q q hX hql hq8 hfr)
          rw [hsp] at HS
          have hii : (i : Int) < (D.length : Int) := by omega
          rename World => wq
          have HC := Lib.hid hcr
          clear hmem hfr hsp hql hq8 hti hq
          go_upto_region 19 with (go_at_call 31; go_loud ((with_reducible refine (HS.out _ HTI.out).mono ?_); rintro e w7 ⟨rfl, hb7⟩; have HB7 := Lib.hid hb7; clear hb7))
          have hcr7 := keepCell HB7.out HC.out
          go_upto_region 20 with (go_at_call 32; go_loud ((with_reducible refine (HR.out _ (HTI.out.below HB7.out)).mono ?_); rintro e w8 ⟨x8, rfl, ho8, hb8⟩; obtain ⟨A8, c8, he8, -, -⟩ := ho8.1.cells.open_; rw [ints_len, up_len] at he8; subst he8; have HO8 := Lib.hid ho8.ints; have HB8 := Lib.hid (HB7.out.trans (hb8.mono HB7.out.size)); clear ho8 hb8))
          have hcr8 := keepCell HB8.out HC.out
          go_wp2_with (go_at_call 33; (refine (l_likeInts _ _ _ _ _ HO8.out (HTI.out.below HB8.out)).mono ?_); go_loud (rw [show decide (up q = up q) = true from decide_eq_true rfl]; rintro e w9 ⟨rfl, n9, hw9⟩; have HB9 := Lib.hid (show Below wq.heap.size wq w9 from by rw [hw9]; exact below_drewN HB8.out n9); clear hw9))
          go_roundw
          case rel => exact ⟨i + 1, by omega, by go_num, HB.out.trans (HB9.out.mono HB.out.size)⟩
          case measure => simp [intOf]; omega
        · have hii : ¬ ((i : Int) < (D.length : Int)) := by omega
          rename World => wq
          have HL7 := Lib.hid (HL6.out.below HB.out)
          have HW7 := Lib.hid (HW6.out.trans (HB.out.mono HW6.out.size))
          clear HM6 HL6 HW6 HB HCN HCL HI1 HI2 HDL hDL
          go_upto_region 25 with (go_at_call 34; go_loud (refine (HF4.out _).mono ?_; rintro e w8 ⟨x8, rfl, hl8, hb8⟩; obtain ⟨A8, c8, he8, -, -, -⟩ := hl8.rows.open_; rw [List.length_map] at he8; subst he8; have HT8 := Lib.hid hl8.rows; have HL8 := Lib.hid (HL7.out.below hb8); have HB8 := Lib.hid (HW7.out.trans (hb8.mono HW7.out.size)); clear hl8 hb8))
          clear HL7 HW7 HF4
          have hTL := HTN.out.1
          go_wp2_with fail
          go_loopw [19] (fun x wr => ∃ j : Nat, j ≤ T.length ∧ x = .int .i64 j ∧ Below w8.heap.size w8 wr) (fun x _ => T.length - (intOf x).toNat)
          case atStart => exact ⟨0, Nat.zero_le _, rfl, Below.refl _ _⟩
          case round =>
            obtain ⟨j, hj, rfl, hb⟩ := hrel
            have HB := Lib.hid hb
            clear hb
            by_cases hlt : j < T.length
            · obtain ⟨ad, At, ct, t, rfl, ht, hti, hcr⟩ := (HT8.out.below HB.out).treeA hlt
              have hmem := List.mem_of_getElem? ht
              obtain ⟨hql, hqv, -, -⟩ := HTN.out.2 t hmem
              have ht8 : t.length ≤ 8 := by omega
              obtain ⟨r0, rs, -, hfr, -, -⟩ := freeO_ex hqv ht8
              have HRM := Lib.hid (anyQ_mem (HMM.out t (minT r0 rs) hmem hfr))
              have HTI := Lib.hid hti
              have HR := Lib.hid (fun X (hX : Ints X (.slice At t.length ct) (up t)) => i_FreeForm0 X _ t _ hX hqv ht8 hfr)
              generalize minT r0 rs = r at HRM HR
              have hii : (j : Int) < (T.length : Int) := by omega
              rename World => wq
              clear hmem hql hqv ht8 hfr hti ht
              go_upto_region 30 with (go_at_call 32; go_loud ((with_reducible refine (HR.out _ HTI.out).mono ?_); rintro e w9 ⟨x9, rfl, ho9, hb9⟩; obtain ⟨A9, c9, he9, -, -⟩ := ho9.1.cells.open_; rw [ints_len, up_len] at he9; subst he9; have HO9 := Lib.hid ho9.ints; have HB9 := Lib.hid (HB.out.trans (hb9.mono HB.out.size)); clear ho9 hb9))
              have HL9 := Lib.hid (HL8.out.below HB9.out)
              clear HR HTI
              go_wp2_with fail
              go_loopw [22, 23] (fun x y wr => ∃ i n : Nat, i ≤ F.length ∧ x = .bool (anyQ F r i) ∧ y = .int .i64 i ∧ wr = w9.drewN n) (fun _ y _ => F.length - (intOf y).toNat)
              case atStart => exact ⟨0, 0, Nat.zero_le _, rfl, rfl, rfl⟩
              case round =>
                obtain ⟨i, n, hi, rfl, rfl, rfl⟩ := hrel
                by_cases hli : i < F.length
                · obtain ⟨af, Ag, cg, q, rfl, hq, hqi, hcq⟩ := HL9.out.treeA hli
                  have HQ := Lib.hid (anyQ_succ (r := r) hq)
                  have HQI := Lib.hid hqi
                  have hij : (i : Int) < (F.length : Int) := by omega
                  have hcq' : (w9.drewN n).cell? (af.add i) = some (.slice Ag q.length cg) := hcq
                  clear hqi hq hcq
                  cases hd : anyQ F r i with
                  | true =>
                    rw [hd] at HQ
                    clear hd
                    go_wp2_with fail
                    go_roundw
                    case rel => exact ⟨i + 1, n, by omega, by rw [HQ.out]; rfl, by go_num, rfl⟩
                    case measure => simp [intOf]; omega
                  | false =>
                    rw [hd] at HQ
                    clear hd
                    go_wp2_with (go_at_call 33; (refine (l_likeInts _ _ _ _ _ (HQI.out.drewN _) (HO9.out.drewN _)).mono ?_); go_loud (rintro e w10 ⟨rfl, n10, rfl⟩))
                    go_roundw
                    case rel => exact ⟨i + 1, n + n10, by omega, by rw [HQ.out]; rfl, by go_num, by first | rfl | rw [World.drewN_drewN]⟩
                    case measure => simp [intOf]; omega
                · have hil : i = F.length := by omega
                  subst hil
                  rw [HRM.out]
                  have hij : ¬ ((F.length : Int) < (F.length : Int)) := by omega
                  go_wp2_with fail
                  go_roundw
                  case rel => exact ⟨j + 1, by omega, by go_num, below_drewN HB9.out _⟩
                  case measure => simp [intOf]; omega
            · have hii : ¬ ((j : Int) < (T.length : Int)) := by omega
              go_wp2_with fail
              go_ret
              exact ⟨rfl, HB8.out.trans (HB.out.mono HB8.out.size)⟩
end Go.Proofs.Ytcbgopmonbgmgaa

set_option maxRecDepth 100000
set_option linter.unusedVariables false
set_option linter.unusedSimpArgs false
namespace Go.Proofs.Ytcbgopmonbgmgaa
open Go.ChangeShapes Go.WideShapes Go.ChangeAt Go.RowKit

end Go.Proofs.Ytcbgopmonbgmgaa

set_option maxRecDepth 100000
set_option linter.unusedVariables false
set_option linter.unusedSimpArgs false
namespace Go.Proofs.Ytcbgopmonbgmgaa
open Go.ChangeShapes Go.WideShapes Go.ChangeAt Go.RowKit

theorem u8_of_wf {z : Int} (h : (Lit.int .u8 z).wf = true) : 0 ≤ z ∧ z ≤ 255 := by
  simp [Lit.wf, IntKind.min, IntKind.max, IntKind.signed, IntKind.bits] at h
  omega
theorem open_bytes {H : Type} {enc : TypeId × Value → H} {W : World} {base : Nat} {v : Value} {d : DataW H} {p : List MemPlace}
    (hv : Value.okWide Try.prog W .any base 22 v) (h : DataW.Trod enc Try.prog W 0 (fun _ => true) true 22 v d p) : ∃ n, Bts W v n := by
  obtain ⟨a, len, cap, rfl⟩ := okWide_slice Try.underlying22 hv
  obtain ⟨fuel, hf⟩ := h
  rcases open_ints Try.underlying22 Try.underlying5 (by kernel_rfl) hf with ⟨hcs, _⟩ | ⟨x, l, c, zs, hcs, _, hl, hm, hz, _, hcell, hwz⟩
  · simp [Value.cells] at hcs
    obtain ⟨rfl, rfl, rfl⟩ := hcs
    exact ⟨0, none, 0, rfl, fun k hk => by omega⟩
  · simp [Value.cells] at hcs
    obtain ⟨rfl, rfl, rfl⟩ := hcs
    have hz' : zs.length = cap := by simpa using hz
    refine ⟨len, some x, cap, rfl, fun k hk => ?_⟩
    have hk2 : k < zs.length := by omega
    have hc := hcell k (by omega)
    have hw := u8_of_wf (hwz _ (List.getElem_mem hk2))
    have e : zs.getD k 0 = zs[k] := by simp [List.getD, hk2]
    rw [e] at hc
    have hb := World.block_lt_of_cell? W _ hc
    rw [block_add] at hb
    exact ⟨x, zs[k], rfl, hb, hb, hw.1, hw.2, hc⟩
end Go.Proofs.Ytcbgopmonbgmgaa

