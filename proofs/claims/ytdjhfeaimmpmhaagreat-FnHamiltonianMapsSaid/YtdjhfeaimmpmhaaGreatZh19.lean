/- Walk: treesOf of the program. | Walks: freeTreesOf, freeConditions, FreeConditions of the program. | Walks: treesTo of the program; l03All of the reference. (printed by allgen.py) -/
import Derived.Test.YtdjhfeaimmpmhaaGreatZh13
import Derived.Test.YtdjhfeaimmpmhaaGreatZh7
import Derived.Test.YtdjhfeaimmpmhaaGreatZh8
import Derived.BigQuiet
import Derived.Deep.QuietTactic
import Derived.Test.YtdjhfeaimmpmhaaGreatZh10
import Derived.Test.YtdjhfeaimmpmhaaGreatZh18
set_option maxRecDepth 100000
set_option linter.unusedVariables false
set_option linter.unusedSimpArgs false
namespace Go.Proofs.YtdjhfeaimmpmhaaGreat
open Go.RowKit

def lenV (v : Value) : Nat := match v with
  | .slice _ n _ => n
  | _ => 0

theorem RR.keptAp {w w' : World} {B : Nat} {vs : List Value} {xss : List (List Int)} {v : Value} (h : RR w B vs xss) (hg : w.grownBy w' v.ownBlock) (ha : ∀ u ∈ vs, Apart u v) : RR w' B vs xss :=
  ⟨h.1, fun k u zs hu hz => (h.2 k u zs hu hz).kept hg (ha u (List.mem_of_getElem? hu))⟩

set_option maxHeartbeats 8000000 in
theorem i_treesOf (w : World) (n : Nat) (h1 : 1 ≤ n) (h8 : n ≤ 8) :
    Calls Tryz.prog 116 #[.int .i64 n] w fun e w' => ∃ x, e = .returned x ∧ LA w' w.heap.size x ((treesN n).map up) ∧ Below w.heap.size w w' := by
  obtain ⟨hlen, hall⟩ := treesN_at h1 h8
  have HLEN := Lib.hid hlen
  have HALL := Lib.hid hall
  clear hlen hall
  have OT := Lib.hid (show OwnInts ((w.alloc (.cells #[] tI)).alloc (.cells #[] tL)) w.heap.size tI (.slice (some ⟨w.heap.size, 0, none⟩) 0 0) [] from ⟨(own_lit w tI [] (by simp [maxLen])).alloc _, fun z hz => by simp at hz⟩)
  have OO := Lib.hid (show Own ((w.alloc (.cells #[] tI)).alloc (.cells #[] tL)) w.heap.size tL (.slice (some ⟨w.heap.size + 1, 0, none⟩) 0 0) [] from by
    have h := own_lit (w.alloc (.cells #[] tI)) tL [] (by simp [maxLen])
    rw [size_alloc'] at h
    exact h.mono (Nat.le_succ _))
  have BB := Lib.hid ((below1 w (.cells #[] tI)).trans ((below1 (w.alloc (.cells #[] tI)) (.cells #[] tL)).mono (by simp)))
  go_enter Tryz.func116, Tryz.ntmps116
  go_wp2_with fail
  generalize ((w.alloc (.cells #[] tI)).alloc (.cells #[] tL)) = w1 at OT OO BB ⊢
  go_loopw [3, 12] (fun tv x wr => ∃ i : Nat, i ≤ n ∧ x = .int .i64 i ∧ OwnInts wr w.heap.size tI tv (up (List.range i)) ∧ Own wr w.heap.size tL (.slice (some ⟨w.heap.size + 1, 0, none⟩) 0 0) [] ∧ Below w.heap.size w wr) (fun _ x _ => n - (intOf x).toNat)
  case atStart => exact ⟨0, Nat.zero_le _, rfl, OT.out, OO.out, BB.out⟩
  case round =>
    obtain ⟨i, hi, rfl, ht, ho, hb⟩ := hrel
    clear OT OO BB
    have HT := Lib.hid ht
    have HO := Lib.hid ho
    have HB := Lib.hid hb
    clear ht ho hb
    by_cases hlt : i < n
    · have hii : (i : Int) < (n : Int) := by omega
      have hz64 : In64 (i : Int) := by unfold In64; omega
      go_wp2_with (at_builtin; refine wpList_app1 T_int HT.out.1 (by rw [ints_len, up_len, List.length_range]; omega) HB.out.size (by rfl) rfl (by rfl) (by rfl) (by rfl) ?_; intro v1 w5 hown1 hgr1; have HN := Lib.hid hown1; have HB5 := Lib.hid (hgr1.below HB.out HB.out.size HT.out.1.ge); have HO5 := Lib.hid (HO.out.kept hgr1.1 (HO.out.bt.ne HT.out.1.bt (by decide))); clear hown1 hgr1)
      go_roundw
      case rel =>
        refine ⟨i + 1, by omega, by go_num, ?_, HO5.out, HB5.out⟩
        rw [List.range_succ, up_append]
        exact ⟨by simpa [ints, up] using HN.out, fun y hy => by rcases List.mem_append.1 hy with hy | hy; exact HT.out.2 y hy; simp [up] at hy; subst hy; exact hz64⟩
      case measure => simp [intOf]; omega
    · have hin : i = n := by omega
      subst hin
      obtain ⟨gt, ct, rfl⟩ : ∃ gt ct, u3 = .slice (some ⟨gt, 0, none⟩) i ct := by
        rcases HT.out.1.cases with ⟨_, hv⟩ | ⟨g, cap, cur, he, _⟩
        · have h2 := congrArg List.length hv
          rw [ints_len, up_len, List.length_range] at h2
          simp at h2; omega
        · rw [ints_len, up_len, List.length_range] at he; exact ⟨g, cap, he⟩
      go_wp2_with fail
      obtain ⟨wA, rfl⟩ : ∃ wA : World, wA = wr := ⟨_, rfl⟩
      go_loopw [4] (fun ov wr => ∃ (dn : List (List Nat)) (f : Nat) (t : List Nat) (vs : List Value), f + dn.length = 200 ∧ Hid (dn ++ treesF f t = treesN i) ∧ t.length = i ∧ OwnInts wr w.heap.size tI (.slice (some ⟨gt, 0, none⟩) i ct) (up t) ∧ Own wr w.heap.size tL ov vs ∧ RR wr w.heap.size vs (dn.map up) ∧ vs.Pairwise Apart ∧ (∀ u ∈ vs, Apart u (.slice (some ⟨gt, 0, none⟩) i ct)) ∧ Below w.heap.size w wr) (fun ov _ => 200 - lenV ov)
      case atStart => exact ⟨[], 200, List.range i, [], rfl, rfl, by simp, HT.out, HO.out, RR.nil _ _, List.Pairwise.nil, fun u hu => by simp at hu, HB.out⟩
      case round =>
        obtain ⟨dn, f, t, vs, hf, HTF, htl, ht, ho, hr, hap, hat, hb⟩ := hrel
        clear HT HO HB
        have hdl : dn.length ≤ 115 := by have h := congrArg List.length HTF.out; have h2 := HLEN.out; simp at h; omega
        obtain ⟨f', rfl⟩ : ∃ f', f = f' + 1 := ⟨f - 1, by omega⟩
        have htf := HTF.out
        rw [treesF] at htf
        have hmem : t ∈ treesN i := by rw [← htf]; simp
        obtain ⟨-, hlv, hcan, hpar⟩ := HALL.out t hmem
        have hvl : vs.length = dn.length := by rw [hr.1, List.length_map]
        have hvl2 : vs.length ≤ 115 := by omega
        have HVL := Lib.hid hvl
        have HT := Lib.hid ht
        have HO := Lib.hid ho
        have HR := Lib.hid hr
        have HAP := Lib.hid hap
        have HAT := Lib.hid hat
        have HB := Lib.hid hb
        have HTL := Lib.hid htl
        have HFF := Lib.hid hf
        have HTF2 := Lib.hid htf
        have HPAR := Lib.hid hpar
        have HLT := Lib.hid (show ∀ k, t.getD k 0 ≤ 8 from fun k => by
          cases hk : t[k]? with
          | none => simp [List.getD, hk]
          | some l => have := canO_lt hcan l (List.mem_of_getElem? hk); simp [List.getD, hk]; omega)
        obtain ⟨Ao, co, rfl, -, -⟩ := ho.cells.open_
        have HSC := Lib.hid (rfl : succT t = succT t)
        clear hf htl ht ho hr hap hat hb htf hmem hlv hcan hpar HTF hvl
        go_upto_region 8 with (first
          | (go_at_call 167; refine (lib_Clone _ _ (up t) HT.out.ints (by rw [up_len, HTL.out]; omega)).mono ?_; rintro e w2 ⟨r2, rfl, ho2, hb2⟩; obtain ⟨A5, c5, he5, -, -, -⟩ := ho2.ints.open_; rw [up_len] at he5; subst he5; have HAF := Lib.hid (HR.out.fresh (Nat.le_refl _) ho2.1.ge); have HTA := Lib.hid (show Apart (.slice A5 t.length c5) (.slice (some ⟨gt, 0, none⟩) i ct) from (apart_of_lt HT.out.1.lt ho2.1.ge).symm); have HO2 := Lib.hid (ho2.mono HB.out.size); have HBI := Lib.hid hb2; have HB2 := Lib.hid (HB.out.trans (hb2.mono HB.out.size)); have HOW := Lib.hid (HO.out.below hb2); have HT2 := Lib.hid (HT.out.below hb2); clear ho2 hb2)
          | (at_builtin; refine wpList_app1 T_row HOW.out (by omega) HB2.out.size (by rfl) rfl (by rfl) (by rfl) (by rfl) ?_; intro v1 w5 hown1 hgr1; have HN1 := Lib.hid hown1; have HR1 := Lib.hid (LL.snoc HOW.out (HR.out.below HBI.out) HO2.out hown1 hgr1.1); have HB5 := Lib.hid (hgr1.below HB2.out HB2.out.size HOW.out.ge); have HT5 := Lib.hid (HT2.out.kept hgr1.1 (HT2.out.1.bt.ne HOW.out.bt (by decide))); clear hown1 hgr1))
        have HAP5 := Lib.hid (pairApart_snoc HAP.out HAF.out)
        have HAT5 := Lib.hid (show ∀ u ∈ vs ++ [.slice A5 t.length c5], Apart u (.slice (some ⟨gt, 0, none⟩) i ct) from fun u hu => by
          rcases List.mem_append.1 hu with hu | hu
          · exact HAT.out u hu
          · simp at hu; subst hu; exact HTA.out)
        have HDN := Lib.hid (show RR w5 w.heap.size (vs ++ [.slice A5 t.length c5]) ((dn ++ [t]).map up) from by rw [List.map_append]; exact HR1.out)
        clear HAP HAF HAT HTA HO2 HBI HOW HT2 HR1 HT HO HR HB HB2
        generalize hvs : vs ++ [.slice A5 t.length c5] = vs5 at HN1 HAP5 HAT5 HDN
        obtain ⟨ad, zz, hae, h3t⟩ : ∃ ad : Addr, ∃ zz : Unit, (some (⟨gt, 0, none⟩ : Addr)) = some ad ∧ ∀ k, k < i → w5.cell? ⟨gt, k, none⟩ = some (.int .i64 (t.getD k 0 : Nat)) := by
          refine ⟨_, (), rfl, fun k hk => ?_⟩
          obtain ⟨A, c, e, -, -, h3⟩ := HT5.out.ints.open_
          obtain ⟨ad, z, hA, hz', -, hc⟩ := h3 k (by rw [up_len, HTL.out]; exact hk)
          simp only [Value.slice.injEq] at e
          obtain ⟨rfl, -, -⟩ := e
          injection hA with hA
          subst hA
          obtain ⟨l, hl, hzl⟩ := up_getD hz'
          rw [addr_add] at hc
          rw [hc, hzl]
          simp [List.getD, hl]
        have H3 := Lib.hid h3t
        clear h3t hae
        have hwi : IntKind.i64.wrap ((i : Int) - 1) = (i : Int) - 1 := IntWalk.i64_in _ (by omega)
        go_wp2_with fail
        go_loopw [6] (fun x wi => ∃ m : Nat, m ≤ i ∧ x = .int .i64 ((m : Int) - 1) ∧ Hid (pN t m = pN t i) ∧ w5 = wi) (fun x _ => (intOf x + 1).toNat)
        case atStart => exact ⟨i, Nat.le_refl _, rfl, rfl, rfl⟩
        case round =>
          obtain ⟨m, hm, rfl, HPN, rfl⟩ := hrel
          cases m with
          | zero =>
            have h0 : ((0 : Nat) : Int) - 1 = -1 := rfl
            rw [h0]
            clear h0 hm
            have HFIN := Lib.hid (show dn ++ [t] = treesN i from by
              have h := HTF2.out
              have hs : succT t = none := by unfold succT; rw [HTL.out, ← HPN.out]; rfl
              rw [hs] at h
              exact h)
            go_wp2_with fail
            go_ret
            refine ⟨_, rfl, ⟨vs5, HN1.out, ?_, HAP5.out⟩, HB5.out⟩
            rw [← HFIN.out]; exact HDN.out
          | succ k =>
            have h0 : ((k + 1 : Nat) : Int) - 1 = (k : Int) := by omega
            rw [h0]
            clear h0
            have hck := H3.out k (by omega)
            have hki : (k : Int) < (i : Int) := by omega
            have hk0 : (0 : Int) ≤ (k : Int) := by omega
            have hkd : decide ((0 : Int) ≤ (k : Int)) = true := by simp
            have hwk : IntKind.i64.wrap ((k : Int) - 1) = (k : Int) - 1 := IntWalk.i64_in _ (by omega)
            have hpk : pN t (k + 1) = bif Nat.ble (t.getD k 0) 1 then pN t k else k + 1 := rfl
            have HGK := Lib.hid (rfl : t.getD k 0 = t.getD k 0)
            generalize hL : t.getD k 0 = L at hck hpk
            have HL := Lib.hid hL
            clear hL
            by_cases hq : L ≤ 1
            · have hd : decide ((L : Int) ≤ 1) = true := by simp; omega
              have hq1 : (L : Int) ≤ 1 := by omega
              rw [Nat.ble_eq_true_of_le hq] at hpk
              have HPK := Lib.hid hpk
              clear hpk hq
              go_wp2_with fail
              go_roundw
              case rel => exact ⟨k, by omega, rfl, by rw [← HPN.out]; exact HPK.out.symm, by first | rfl | trivial⟩
              case measure => first | (simp [intOf]; done) | (simp [intOf]; omega)
            · have hd : decide ((L : Int) ≤ 1) = false := by simp; omega
              have hq1 : ¬ ((L : Int) ≤ 1) := by omega
              have hble : Nat.ble L 1 = false := by
                cases h : Nat.ble L 1 with
                | true => exact absurd (Nat.le_of_ble_eq_true h) hq
                | false => rfl
              rw [hble] at hpk
              have HPI := Lib.hid (show pN t i = k + 1 from by rw [← HPN.out]; exact hpk)
              have HPP := Lib.hid (show 0 < parN t L k from by rw [← HL.out]; exact HPAR.out k (by rw [HTL.out]; exact HPI.out))
              clear hpk hq hble
              go_wp2_with fail
              go_loopw [7] (fun x wi => ∃ m nd : Nat, m ≤ k ∧ x = .int .i64 ((m : Int) - 1) ∧ Hid (parN t L m = parN t L k) ∧ wi = w5.drewN nd) (fun x _ => (intOf x + 1).toNat)
              case atStart => exact ⟨k, 0, Nat.le_refl _, rfl, rfl, rfl⟩
              case round =>
                obtain ⟨m, nd, hm2, rfl, HQN, rfl⟩ := hrel
                cases m with
                | zero => exact absurd HPP.out (by rw [← HQN.out]; exact Nat.lt_irrefl 0)
                | succ s =>
                  have h0 : ((s + 1 : Nat) : Int) - 1 = (s : Int) := by omega
                  rw [h0]
                  clear h0
                  have hcs := H3.out s (by omega)
                  have hsi : (s : Int) < (i : Int) := by omega
                  have hs0 : (0 : Int) ≤ (s : Int) := by omega
                  have hws : IntKind.i64.wrap ((s : Int) - 1) = (s : Int) - 1 := IntWalk.i64_in _ (by omega)
                  have hLb : L ≤ 8 := by have := HLT.out k; rw [HL.out] at this; exact this
                  have hwL : IntKind.i64.wrap ((L : Int) - 1) = (L : Int) - 1 := IntWalk.i64_in _ (by omega)
                  have hps : parN t L (s + 1) = bif Nat.beq (t.getD s 0 + 1) L then s + 1 else parN t L s := rfl
                  generalize hS : t.getD s 0 = S at hcs hps
                  have HS := Lib.hid hS
                  clear hS
                  by_cases hq2 : S + 1 = L
                  · have hd2 : ((S : Int) != (L : Int) - 1) = false := by simp; omega
                    have HPQ := Lib.hid (show parN t L k = s + 1 from by rw [← HQN.out, hps, hq2, Nat.beq_refl]; rfl)
                    have HSU := Lib.hid (show succT t = some (fillF t (k - s) (i - k) k) from by
                      unfold succT
                      rw [HTL.out, HPI.out]
                      simp only
                      rw [HL.out, HPQ.out, Nat.add_sub_cancel])
                    clear hps hq2
                    go_wp2_with fail
                    go_quiet (fail)
                    go_wp2_with fail
                    rw [World.drewN_drewN]
                    have HT6 := Lib.hid (show OwnInts (w5.drewN (nd + nq)) w.heap.size tI (.slice (some ⟨gt, 0, none⟩) i ct) (up t) from HT5.out)
                    have HN6 := Lib.hid (HN1.out.drewN (nd + nq))
                    have HD6 := Lib.hid (HDN.out.below (below_drewN (Below.refl _ _) (nd + nq)))
                    have HB6 := Lib.hid (below_drewN HB5.out (nd + nq))
                    generalize (w5.drewN (nd + nq)) = w6 at HT6 HN6 HD6 HB6 ⊢
                    have hsk : s < k := by omega
                    have hwd : IntKind.i64.wrap ((k : Int) - (s : Int)) = (k : Int) - (s : Int) := IntWalk.i64_in _ (by omega)
                    clear hcs hck hd hd2 HT5 HN1 HDN HB5
                    go_loopw [8] (fun x wi => ∃ (c : Nat) (tt : List Nat), k ≤ c ∧ c ≤ i ∧ x = .int .i64 c ∧ tt.length = i ∧ Hid (∀ l ∈ tt, l ≤ 8) ∧ Hid (fillF tt (k - s) (i - c) c = fillF t (k - s) (i - k) k) ∧ OwnInts wi w.heap.size tI (.slice (some ⟨gt, 0, none⟩) i ct) (up tt) ∧ Own wi w.heap.size tL v1 vs5 ∧ RR wi w.heap.size vs5 ((dn ++ [t]).map up) ∧ Below w.heap.size w wi) (fun x _ => i - (intOf x).toNat)
                    case atStart => exact ⟨k, t, Nat.le_refl _, by omega, rfl, HTL.out, fun l hl => by obtain ⟨j, hj, rfl⟩ := List.getElem_of_mem hl; have := HLT.out j; simpa [List.getD, hj] using this, rfl, HT6.out, HN6.out, HD6.out, HB6.out⟩
                    case round =>
                      obtain ⟨c, tt, hkc, hci, rfl, htl, HTB, HFL, ht, ho, hr, hb⟩ := hrel
                      clear HT6 HN6 HD6 HB6
                      have HT := Lib.hid ht
                      have HO := Lib.hid ho
                      have HR := Lib.hid hr
                      have HB := Lib.hid hb
                      have HTL2 := Lib.hid htl
                      clear ht ho hr hb htl
                      by_cases hlt3 : c < i
                      · have hcc : (c : Int) < (i : Int) := by omega
                        have hc0 : (0 : Int) ≤ (c : Int) := by omega
                        obtain ⟨e, he⟩ : ∃ e, e = c - (k - s) := ⟨_, rfl⟩
                        have hwe : IntKind.i64.wrap ((c : Int) - ((k : Int) - (s : Int))) = (e : Int) := by rw [IntWalk.i64_in _ (by omega)]; omega
                        have hei : (e : Int) < (i : Int) := by omega
                        have he0 : (0 : Int) ≤ (e : Int) := by omega
                        have hce : wr.cell? ⟨gt, e, none⟩ = some (.int .i64 (tt.getD e 0 : Nat)) := by
                          obtain ⟨A, c', e', -, -, h3⟩ := HT.out.ints.open_
                          obtain ⟨ad, z, hA, hz', -, hc⟩ := h3 e (by rw [up_len, HTL2.out]; omega)
                          simp only [Value.slice.injEq] at e'
                          obtain ⟨rfl, -, -⟩ := e'
                          injection hA with hA
                          subst hA
                          obtain ⟨l, hl, hzl⟩ := up_getD hz'
                          rw [addr_add] at hc
                          rw [hc, hzl]
                          simp [List.getD, hl]
                        have hE8 : tt.getD e 0 ≤ 8 := by
                          cases hk : tt[e]? with
                          | none => simp [List.getD, hk]
                          | some l => have := HTB.out l (List.mem_of_getElem? hk); simpa [List.getD, hk] using this
                        have hfl := HFL.out
                        rw [show i - c = (i - (c + 1)) + 1 by omega, fillF, ← he] at hfl
                        generalize tt.getD e 0 = E at hce hE8 hfl
                        have HFL2 := Lib.hid hfl
                        obtain ⟨u0, -, q0, q1, -, -, hst, hgb⟩ := HT.out.1.storeAt (k := c) (by rw [ints_len, up_len, HTL2.out]; exact hlt3) (.int .i64 (E : Int))
                        have HST := Lib.hid (show OwnInts (wr.setCell ⟨gt, c, none⟩ (.int .i64 (E : Int))) w.heap.size tI (.slice (some ⟨gt, 0, none⟩) i ct) (up (tt.set c E)) from ⟨by simpa [ints, up, List.map_set] using hst, fun z hz => by
                          simp only [up, List.map_set] at hz
                          rcases List.mem_or_eq_of_mem_set hz with hz | hz
                          · exact HT.out.2 z hz
                          · rw [hz]; unfold In64; omega⟩)
                        have HO2 := Lib.hid (HO.out.kept hgb (HO.out.bt.ne (v' := .slice (some ⟨gt, 0, none⟩) i ct) HT.out.1.bt (by decide)))
                        have HR2 := Lib.hid (HR.out.keptAp (v := .slice (some ⟨gt, 0, none⟩) i ct) hgb HAT5.out)
                        have HB2 := Lib.hid (HB.out.setCell (p := ⟨gt, c, none⟩) (HT.out.1.ge gt rfl) (.int .i64 (E : Int)))
                        have HTB2 := Lib.hid (show ∀ l ∈ tt.set c E, l ≤ 8 from fun l hl => by
                          rcases List.mem_or_eq_of_mem_set hl with hl | hl
                          · exact HTB.out l hl
                          · omega)
                        clear hst hgb hfl he
                        go_wp2_with fail
                        go_roundw
                        case rel => exact ⟨c + 1, tt.set c E, by omega, by omega, by go_num, by rw [List.length_set]; exact HTL2.out, HTB2.out, HFL2.out, HST.out, HO2.out, HR2.out, HB2.out⟩
                        case measure => simp [intOf]; omega
                      · have hce : c = i := by omega
                        have hfl := HFL.out
                        rw [hce, Nat.sub_self, fillF] at hfl
                        have HNX := Lib.hid (show dn ++ [t] ++ treesF f' tt = treesN i from by
                          have h := HTF2.out
                          rw [HSU.out, ← hfl] at h
                          simpa using h)
                        have hcc : ¬ ((c : Int) < (i : Int)) := by omega
                        have HLN := Lib.hid (show (dn ++ [t]).length = dn.length + 1 from by simp)
                        clear hfl hce
                        go_wp2_with fail
                        go_roundw
                        case rel => exact ⟨dn ++ [t], f', tt, vs5, by rw [HLN.out]; have := HFF.out; omega, HNX.out, HTL2.out, HT.out, HO.out, HR.out, HAP5.out, HAT5.out, HB.out⟩
                        case measure =>
                          obtain ⟨A9, c9, h9, -, -⟩ := HO.out.cells.open_
                          have h10 : vs5.length = vs.length + 1 := by rw [← hvs]; simp
                          rw [h9]
                          show 200 - vs5.length < 200 - vs.length
                          omega
                  · have hd2 : ((S : Int) != (L : Int) - 1) = true := by simp; omega
                    have HPS := Lib.hid (show parN t L (s + 1) = parN t L s from by
                      rw [hps]
                      cases h : Nat.beq (S + 1) L with
                      | true => exact absurd (Nat.eq_of_beq_eq_true h) hq2
                      | false => rfl)
                    clear hps hq2
                    go_wp2_with fail
                    go_quiet (fail)
                    go_wp2_with fail
                    go_roundw
                    case rel => exact ⟨s, _, by omega, rfl, by rw [← HQN.out]; exact HPS.out.symm, by first | rfl | exact World.drewN_drewN ..⟩
                    case measure => first | (simp [intOf]; done) | (simp [intOf]; omega)
end Go.Proofs.YtdjhfeaimmpmhaaGreat

set_option maxRecDepth 100000
set_option linter.unusedVariables false
set_option linter.unusedSimpArgs false
namespace Go.Proofs.YtdjhfeaimmpmhaaGreat
open Go.RowKit

/-- is a tree its free form? -/
def frB (q : List Nat) : Bool := match freeO q with
  | some r => eqN r q
  | none => false
def supP (q : List Nat) : Bool := match canO 9 q with
  | some c => supB c
  | none => false
/-- the free forms of the free trees with n nodes; the free conditions -/
def frN (n : Nat) : List (List Nat) := (treesN n).filter fun q => !(!frB q)
def cndN (n : Nat) : List (List Nat) := (frN n).filter fun q => !supP q

def Small (bs : List (List Nat)) : Prop := ∀ q ∈ bs, lvl q = true ∧ q.length ≤ 8
theorem small_trees {n : Nat} (h1 : 1 ≤ n) (h8 : n ≤ 8) : Small (treesN n) := fun q hq => by
  obtain ⟨a, b, -⟩ := (treesN_at h1 h8).2 q hq
  exact ⟨b, by omega⟩
theorem Small.filter {bs : List (List Nat)} (h : Small bs) (p : List Nat → Bool) : Small (bs.filter p) := fun q hq => h q (List.mem_filter.1 hq).1
theorem lvl_le1 {q : List Nat} (h : lvl q = true) (h8 : q.length ≤ 8) : ∀ l ∈ q, l ≤ 1000000 := by
  have hh := lev8 (p := fun t => t.all fun l => Nat.ble l 8) (by decide +kernel) h h8
  rw [List.all_eq_true] at hh
  intro l hl
  have := Nat.le_of_ble_eq_true (hh l hl)
  omega

theorem i_freePred {bs : List (List Nat)} (hb : Small bs) : PredT 200 (fun q => !frB q) bs := by
  intro w u q hq hu
  obtain ⟨hl, h8⟩ := hb q hq
  obtain ⟨r, rs, -, hf, -, -⟩ := freeO_ex hl h8
  have HF := Lib.hid (show frB q = decide (up (minT r rs) = up q) from by
    unfold frB
    rw [hf]
    simp only
    by_cases e : minT r rs = q
    · rw [eqN_iff.2 e, e]; exact (decide_eq_true rfl).symm
    · have h1 : eqN (minT r rs) q = false := by
        cases hh : eqN (minT r rs) q with
        | true => exact absurd (eqN_iff.1 hh) e
        | false => rfl
      rw [h1]; exact (decide_eq_false fun h => e (up_inj h)).symm)
  have HI := Lib.hid (i_freeForm w u q _ hu hl h8 (lvl_le1 hl h8) hf)
  have HU := Lib.hid hu
  obtain ⟨A, c, rfl, -, -, -⟩ := hu.open_
  clear hu hf
  generalize minT r rs = m at HF HI
  simp only [HF.out]
  go_enter Tryz.func200, Tryz.ntmps200
  go_wp2_with (first
    | (go_at_call 58; refine HI.out.mono ?_; rintro e w1 ⟨x1, rfl, ho1, hb1⟩; have HO1 := Lib.hid ho1; have HB1 := Lib.hid hb1; clear ho1 hb1)
    | (go_at_call 83; refine (lib_Equal _ _ _ (up m) (up q) HO1.out.ints (HU.out.below HB1.out)).mono ?_; rintro e w6 ⟨rfl, n6, rfl⟩))
  go_ret
  exact ⟨rfl, below_drewN HB1.out n6⟩

theorem i_supPred {bs : List (List Nat)} (hb : Small bs) : PredT 166 supP bs := by
  intro w u q hq hu
  obtain ⟨hl, h8⟩ := hb q hq
  obtain ⟨c, hc, hcl, hcc⟩ := canO_8 hl h8
  have h := i_isSuperfluous w u q c hu h8 (lvl_le1 hl h8) hc hcl hcc
  have e : supP q = supB c := by unfold supP; rw [hc]
  rw [e]
  exact h

theorem i_freeTreesOf (w : World) (n : Nat) (h1 : 1 ≤ n) (h8 : n ≤ 8) :
    Calls Tryz.prog 165 #[.int .i64 n] w fun e w' => ∃ x, e = .returned x ∧ LA w' w.heap.size x ((frN n).map up) ∧ Below w.heap.size w w' := by
  have HT := Lib.hid (treesN_at h1 h8).1
  have HP := Lib.hid (i_freePred (small_trees h1 h8))
  have hcf : ∀ (args : Array Value) (w : World), Sem.run Tryz.prog (callFunc 200 args) w = .ok (.enter 200 args) w := enters_of Tryz.func200 (by kernel_rfl) rfl
  have HCF := Lib.hid hcf
  clear hcf
  go_enter Tryz.func165, Tryz.ntmps165
  go_wp2_with (first
    | (go_at_call 116; refine (i_treesOf _ n h1 h8).mono ?_; rintro e w1 ⟨x1, rfl, hl1, hb1⟩; have HL1 := Lib.hid hl1; have HB1 := Lib.hid hb1; clear hl1 hb1)
    | (go_at_call 164; refine (lib_DeleteTrees _ w.heap.size _ (treesN n) _ _ HL1.out (by have := HT.out; omega) HB1.out.size HCF.out HP.out).mono ?_; rintro e w2 ⟨x2, rfl, hl2, hb2⟩; have HL2 := Lib.hid hl2; have HB2 := Lib.hid hb2; clear hl2 hb2))
  go_ret
  exact ⟨_, rfl, HL2.out, HB1.out.trans HB2.out⟩

theorem i_freeConditions (w : World) (n : Nat) (h1 : 1 ≤ n) (h8 : n ≤ 8) :
    Calls Tryz.prog 115 #[.int .i64 n] w fun e w' => ∃ x, e = .returned x ∧ LA w' w.heap.size x ((cndN n).map up) ∧ Below w.heap.size w w' := by
  have HT := Lib.hid (show (frN n).length ≤ 115 from Nat.le_trans (List.length_filter_le _ _) (treesN_at h1 h8).1)
  have HP := Lib.hid (i_supPred ((small_trees h1 h8).filter fun q => !(!frB q)))
  have hcf : ∀ (args : Array Value) (w : World), Sem.run Tryz.prog (callFunc 166 args) w = .ok (.enter 166 args) w := enters_of Tryz.func166 (by kernel_rfl) rfl
  have HCF := Lib.hid hcf
  clear hcf
  go_enter Tryz.func115, Tryz.ntmps115
  go_wp2_with (first
    | (go_at_call 165; refine (i_freeTreesOf _ n h1 h8).mono ?_; rintro e w1 ⟨x1, rfl, hl1, hb1⟩; have HL1 := Lib.hid hl1; have HB1 := Lib.hid hb1; clear hl1 hb1)
    | (go_at_call 164; refine (lib_DeleteTrees _ w.heap.size _ (frN n) _ _ HL1.out (by have := HT.out; omega) HB1.out.size HCF.out HP.out).mono ?_; rintro e w2 ⟨x2, rfl, hl2, hb2⟩; have HL2 := Lib.hid hl2; have HB2 := Lib.hid hb2; clear hl2 hb2))
  go_ret
  exact ⟨_, rfl, HL2.out, HB1.out.trans HB2.out⟩

end Go.Proofs.YtdjhfeaimmpmhaaGreat

set_option maxRecDepth 100000
set_option linter.unusedVariables false
set_option linter.unusedSimpArgs false
namespace Go.Proofs.YtdjhfeaimmpmhaaGreat
open Go.RowKit

/-- the lists for 1 to n, one after the other -/
def allG (G : Nat → List (List Nat)) (n : Nat) : List (List Nat) := (List.range n).flatMap fun k => G (k + 1)
theorem allG_succ (G : Nat → List (List Nat)) (k : Nat) : allG G (k + 1) = allG G k ++ G (k + 1) := by simp [allG, List.range_succ]
theorem allG_len {G : Nat → List (List Nat)} (hG : ∀ k, 1 ≤ k → k ≤ 8 → (G k).length ≤ 115) : ∀ n, n ≤ 8 → (allG G n).length ≤ 115 * n
  | 0, _ => by simp [allG]
  | n + 1, h => by
    rw [allG_succ, List.length_append]
    have h1 := allG_len hG n (by omega)
    have h2 := hG (n + 1) (by omega) h
    omega
theorem treesN_len {k : Nat} (h1 : 1 ≤ k) (h8 : k ≤ 8) : (treesN k).length ≤ 115 := (treesN_at h1 h8).1

theorem RR.keptAl {w w' : World} {B : Nat} {vs : List Value} {xss : List (List Int)} {v : Value} {e : TypeId} (h : RR w B vs xss) (hg : w.grownBy w' v.ownBlock) (hb : BT w e v) (hne : tI ≠ e) : RR w' B vs xss :=
  ⟨h.1, fun k u zs hu hz => (h.2 k u zs hu hz).kept hg ((h.2 k u zs hu hz).1.bt.ne hb hne)⟩
/-- a list of rows behind another one -/
theorem LA.app {w2 w' : World} {B C : Nat} {v v' : Value} {xs ys : List (List Int)} {us vs : List Value} (h1 : Own w2 B tL v us) (h2 : RR w2 B us xs) (h3 : us.Pairwise Apart) (hlt : ∀ u ∈ us, ∀ b, u.ownBlock = some b → b < C)
    (g1 : RR w2 C vs ys) (g2 : vs.Pairwise Apart) (hBC : B ≤ C) (ho : Own w' B tL v' (us ++ vs)) (hg : Grow w2 w' v v') : LA w' B v' (xs ++ ys) := by
  refine ⟨us ++ vs, ho, (h2.append (g1.mono hBC)).keptAl hg.1 h1.bt (by decide), List.pairwise_append.2 ⟨h3, g2, fun u hu x hx => ?_⟩⟩
  obtain ⟨k, hk, rfl⟩ := List.getElem_of_mem hx
  have hz : ys[k]? = some (ys[k]'(by rw [← g1.1]; exact hk)) := List.getElem?_eq_getElem _
  exact apart_of_lt (hlt u hu) (g1.2 k _ _ (List.getElem?_eq_getElem hk) hz).1.ge
theorem RR.lt {w : World} {B : Nat} {vs : List Value} {xss : List (List Int)} (h : RR w B vs xss) : ∀ u ∈ vs, ∀ b, u.ownBlock = some b → b < w.heap.size := by
  intro u hu
  obtain ⟨k, hk, rfl⟩ := List.getElem_of_mem hu
  have hz : xss[k]? = some (xss[k]'(by rw [← h.1]; exact hk)) := List.getElem?_eq_getElem _
  exact (h.2 k _ _ (List.getElem?_eq_getElem hk) hz).1.lt

set_option maxHeartbeats 4000000 in
theorem i_treesTo (w : World) (n : Nat) (h8 : n ≤ 8) :
    Calls Tryz.prog 56 #[.int .i64 n] w fun e w' => ∃ x, e = .returned x ∧ LA w' w.heap.size x ((allG treesN n).map up) ∧ Below w.heap.size w w' := by
  have HG := Lib.hid (fun k (h : k ≤ 8) => allG_len (G := treesN) (fun k h1 h2 => treesN_len h1 h2) k h)
  have HL := Lib.hid (fun k (h1 : 1 ≤ k) (h2 : k ≤ 8) => treesN_len h1 h2)
  have OL := Lib.hid (show LA (w.alloc (.cells #[] tL)) w.heap.size (.slice (some ⟨w.heap.size, 0, none⟩) 0 0) ((allG treesN 0).map up) from ⟨[], own_lit w tL [] (by simp [maxLen]), RR.nil _ _, List.Pairwise.nil⟩)
  go_enter Tryz.func56, Tryz.ntmps56
  go_wp2_with fail
  go_loopw [3, 4] (fun o x wr => ∃ k : Nat, 1 ≤ k ∧ k ≤ n + 1 ∧ x = .int .i64 k ∧ LA wr w.heap.size o ((allG treesN (k - 1)).map up) ∧ Below w.heap.size w wr) (fun _ x _ => n + 1 - (intOf x).toNat)
  case atStart => exact ⟨1, Nat.le_refl _, by omega, by go_num, OL.out, below1 _ _⟩
  case round =>
    obtain ⟨k, hk1, hk, rfl, ho, hb⟩ := hrel
    clear OL
    have HB := Lib.hid hb
    obtain ⟨us, hown, hrr, hap⟩ := ho
    have hul := hrr.1
    rw [List.length_map] at hul
    have HUL := Lib.hid (show us.length ≤ 1000 from by have := HG.out (k - 1) (by omega); omega)
    have HO := Lib.hid hown
    have HR := Lib.hid hrr
    have HAP := Lib.hid hap
    have HLT := Lib.hid hrr.lt
    obtain ⟨Ao, co, rfl, -, -⟩ := hown.cells.open_
    clear hb hown hrr hap hul
    by_cases hlt : k < n + 1
    · have hle : (k : Int) ≤ (n : Int) := by omega
      have HS := Lib.hid (show allG treesN (k + 1 - 1) = allG treesN (k - 1) ++ treesN k from by
        have h := allG_succ treesN (k - 1)
        rw [show k - 1 + 1 = k by omega] at h
        rw [Nat.add_sub_cancel]; exact h)
      have HLK := Lib.hid (HL.out k hk1 (by omega))
      have hk8 : k ≤ 8 := by omega
      go_wp2_with (first
        | (go_at_call 116; go_loud (refine (i_treesOf _ k hk1 hk8).mono ?_; rintro e w2 ⟨x2, rfl, hl2, hb2⟩; obtain ⟨vs, hown2, hrr2, hap2⟩ := hl2; have HV := Lib.hid hown2; have HR2 := Lib.hid hrr2; have HAP2 := Lib.hid hap2; have hvl := hrr2.1.trans (List.length_map ..); have HVL := Lib.hid hvl; have HB2 := Lib.hid hb2; have HO2 := Lib.hid (HO.out.below hb2); clear hown2 hrr2 hap2 hb2 hvl))
        | (at_builtin; go_loud (refine wpList_appN T_row HO2.out HV.out.cells (by have h1 := HUL.out; have h2 := HVL.out; have h3 := HLK.out; omega) (Nat.le_trans HB.out.size HB2.out.size) HR2.out.oneCell (by rfl) rfl (by rfl) (by rfl) ?_; intro v5 w5 hown5 hgr5; have HN := Lib.hid hown5; have HGR := Lib.hid hgr5; clear hown5 hgr5)))
      go_roundw
      case rel =>
        refine ⟨k + 1, by omega, by omega, by go_num, ?_, HGR.out.below (HB.out.trans (HB2.out.mono HB.out.size)) (Nat.le_trans HB.out.size HB2.out.size) HO2.out.ge⟩
        rw [HS.out, List.map_append]
        exact LA.app HO2.out (HR.out.below HB2.out) HAP.out HLT.out HR2.out HAP2.out HB.out.size HN.out HGR.out
      case measure => simp [intOf]; omega
    · have hkn : k = n + 1 := by omega
      subst hkn
      go_wp2_with fail
      go_ret
      exact ⟨_, rfl, ⟨us, HO.out, by simpa using HR.out, HAP.out⟩, HB.out⟩

set_option maxHeartbeats 4000000 in
theorem s_l03All (w : World) (n : Nat) (h8 : n ≤ 8) :
    Calls Tryz.prog 70 #[.int .i64 n] w fun e w' => ∃ x, e = .returned x ∧ LA w' w.heap.size x ((allG treesN n).map up) ∧ Below w.heap.size w w' := by
  have HG := Lib.hid (fun k (h : k ≤ 8) => allG_len (G := treesN) (fun k h1 h2 => treesN_len h1 h2) k h)
  have HL := Lib.hid (fun k (h1 : 1 ≤ k) (h2 : k ≤ 8) => treesN_len h1 h2)
  have OL := Lib.hid (show LA (w.alloc (.cells #[] tL)) w.heap.size (.slice (some ⟨w.heap.size, 0, none⟩) 0 0) ((allG treesN 0).map up) from ⟨[], own_lit w tL [] (by simp [maxLen]), RR.nil _ _, List.Pairwise.nil⟩)
  go_enter Tryz.func70, Tryz.ntmps70
  go_wp2_with fail
  go_loopw [3, 4] (fun o x wr => ∃ k : Nat, 1 ≤ k ∧ k ≤ n + 1 ∧ x = .int .i64 k ∧ LA wr w.heap.size o ((allG treesN (k - 1)).map up) ∧ Below w.heap.size w wr) (fun _ x _ => n + 1 - (intOf x).toNat)
  case atStart => exact ⟨1, Nat.le_refl _, by omega, by go_num, OL.out, below1 _ _⟩
  case round =>
    obtain ⟨k, hk1, hk, rfl, ho, hb⟩ := hrel
    clear OL
    have HB := Lib.hid hb
    obtain ⟨us, hown, hrr, hap⟩ := ho
    have hul := hrr.1
    rw [List.length_map] at hul
    have HUL := Lib.hid (show us.length ≤ 1000 from by have := HG.out (k - 1) (by omega); omega)
    have HO := Lib.hid hown
    have HR := Lib.hid hrr
    have HAP := Lib.hid hap
    have HLT := Lib.hid hrr.lt
    obtain ⟨Ao, co, rfl, -, -⟩ := hown.cells.open_
    clear hb hown hrr hap hul
    by_cases hlt : k < n + 1
    · have hle : (k : Int) ≤ (n : Int) := by omega
      have HS := Lib.hid (show allG treesN (k + 1 - 1) = allG treesN (k - 1) ++ treesN k from by
        have h := allG_succ treesN (k - 1)
        rw [show k - 1 + 1 = k by omega] at h
        rw [Nat.add_sub_cancel]; exact h)
      have HLK := Lib.hid (HL.out k hk1 (by omega))
      have hk8 : k ≤ 8 := by omega
      go_wp2_with (first
        | (go_at_call 133; go_loud (refine (s_l03Trees _ k hk1 hk8).mono ?_; rintro e w2 ⟨x2, rfl, hl2, hb2⟩; obtain ⟨vs, hown2, hrr2, hap2⟩ := hl2; have HV := Lib.hid hown2; have HR2 := Lib.hid hrr2; have HAP2 := Lib.hid hap2; have hvl := hrr2.1.trans (List.length_map ..); have HVL := Lib.hid hvl; have HB2 := Lib.hid hb2; have HO2 := Lib.hid (HO.out.below hb2); clear hown2 hrr2 hap2 hb2 hvl))
        | (at_builtin; go_loud (refine wpList_appN T_row HO2.out HV.out.cells (by have h1 := HUL.out; have h2 := HVL.out; have h3 := HLK.out; omega) (Nat.le_trans HB.out.size HB2.out.size) HR2.out.oneCell (by rfl) rfl (by rfl) (by rfl) ?_; intro v5 w5 hown5 hgr5; have HN := Lib.hid hown5; have HGR := Lib.hid hgr5; clear hown5 hgr5)))
      go_roundw
      case rel =>
        refine ⟨k + 1, by omega, by omega, by go_num, ?_, HGR.out.below (HB.out.trans (HB2.out.mono HB.out.size)) (Nat.le_trans HB.out.size HB2.out.size) HO2.out.ge⟩
        rw [HS.out, List.map_append]
        exact LA.app HO2.out (HR.out.below HB2.out) HAP.out HLT.out HR2.out HAP2.out HB.out.size HN.out HGR.out
      case measure => simp [intOf]; omega
    · have hkn : k = n + 1 := by omega
      subst hkn
      go_wp2_with fail
      go_ret
      exact ⟨_, rfl, ⟨us, HO.out, by simpa using HR.out, HAP.out⟩, HB.out⟩
end Go.Proofs.YtdjhfeaimmpmhaaGreat

