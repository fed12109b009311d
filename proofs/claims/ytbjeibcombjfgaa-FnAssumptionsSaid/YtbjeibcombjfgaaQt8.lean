/- Walk: treesOf of the program. | Walks: freeTreesOf, freeConditions, FreeConditions of the program. | Walks: treesTo of the program; l03All of the reference. (printed by allgen.py) | What newForms of the program lays: the trees, and the cuts of each by places. No walk. | Plain: what maps reckon with: sizes and densities of the trees at the places, the exact map, agreement. No walk. | Plain: the exponential at a tree is the value there and what smaller trees give; it is told by that, goes with scaling, and convolution goes with scaling; kernel checks. No walk. -/
import Derived.Test.YtbjeibcombjfgaaQt7
import Derived.Test.YtbjeibcombjfgaaQt6
import Derived.BigQuiet
import Derived.Deep.QuietTactic
import Derived.Test.YtbjeibcombjfgaaQt5
import Derived.Test.YtbjeibcombjfgaaQt2
set_option maxRecDepth 100000
set_option linter.unusedVariables false
set_option linter.unusedSimpArgs false
namespace Go.Proofs.Ytbjeibcombjfgaa
open Go.RowKit

def lenV (v : Value) : Nat := match v with
  | .slice _ n _ => n
  | _ => 0

theorem RR.keptAp {w w' : World} {B : Nat} {vs : List Value} {xss : List (List Int)} {v : Value} (h : RR w B vs xss) (hg : w.grownBy w' v.ownBlock) (ha : ∀ u ∈ vs, Apart u v) : RR w' B vs xss :=
  ⟨h.1, fun k u zs hu hz => (h.2 k u zs hu hz).kept hg (ha u (List.mem_of_getElem? hu))⟩

set_option maxHeartbeats 8000000 in
theorem i_treesOf (w : World) (n : Nat) (h1 : 1 ≤ n) (h8 : n ≤ 8) :
    Calls Try.prog 92 #[.int .i64 n] w fun e w' => ∃ x, e = .returned x ∧ LA w' w.heap.size x ((treesN n).map up) ∧ Below w.heap.size w w' := by
  obtain ⟨hlen, hall⟩ := treesN_at h1 h8
  have HLEN := Lib.hid hlen
  have HALL := Lib.hid hall
  clear hlen hall
  have OT := Lib.hid (show OwnInts ((w.alloc (.cells #[] tI)).alloc (.cells #[] tL)) w.heap.size tI (.slice (some ⟨w.heap.size, 0, none⟩) 0 0) [] from ⟨(own_lit w tI [] (by simp [maxLen])).alloc _, fun z hz => by simp at hz⟩)
  have OO := Lib.hid (show Own ((w.alloc (.cells #[] tI)).alloc (.cells #[] tL)) w.heap.size tL (.slice (some ⟨w.heap.size + 1, 0, none⟩) 0 0) [] from by
    have h := own_lit (w.alloc (.cells #[] tI)) tL [] (by simp [maxLen])
    rw [size_alloc'] at h
    exact h.mono (Nat.le_succ _))
  have BB := Lib.hid ((below1 w (.cells #[] tI)).trans ((below1 (w.alloc (.cells #[] tI)) (.cells #[] tL)).mono (by simp)))
  go_enter Try.func92, Try.ntmps92
  go_wp2_with fail
  generalize ((w.alloc (.cells #[] tI)).alloc (.cells #[] tL)) = w1 at OT OO BB ⊢
  go_loopw [3, 12] (fun tv x wr => ∃ i : Nat, i ≤ n ∧ x = .int .i64 i ∧ OwnInts wr w.heap.size tI tv (up (List.range i)) ∧ Own wr w.heap.size tL (.slice (some ⟨w.heap.size + 1, 0, none⟩) 0 0) [] ∧ Below w.heap.size w wr) (fun _ x _ => n - (intOf x).toNat)
  case atStart => exact ⟨0, Nat.zero_le _, rfl, OT.out, OO.out, BB.out⟩
  case round =>
    obtain ⟨i, hi, rfl, ht, ho, hb⟩ := hrel
    clear OT OO BB
    have HT := Lib.hid ht
    have HO := Lib.hid ho
    have HB := Lib.hid hb
    clear ht ho hb
    by_cases hlt : i < n
    · have hii : (i : Int) < (n : Int) := by omega
      have hz64 : In64 (i : Int) := by unfold In64; omega
      go_wp2_with (at_builtin; refine wpList_app1 T_int HT.out.1 (by rw [ints_len, up_len, List.length_range]; omega) HB.out.size (by rfl) rfl (by rfl) (by rfl) (by rfl) ?_; intro v1 w5 hown1 hgr1; have HN := Lib.hid hown1; have HB5 := Lib.hid (hgr1.below HB.out HB.out.size HT.out.1.ge); have HO5 := Lib.hid (HO.out.kept hgr1.1 (HO.out.bt.ne HT.out.1.bt (by decide))); clear hown1 hgr1)
      go_roundw
      case rel =>
        refine ⟨i + 1, by omega, by go_num, ?_, HO5.out, HB5.out⟩
        rw [List.range_succ, up_append]
        exact ⟨by simpa [ints, up] using HN.out, fun y hy => by rcases List.mem_append.1 hy with hy | hy; exact HT.out.2 y hy; simp [up] at hy; subst hy; exact hz64⟩
      case measure => simp [intOf]; omega
    · have hin : i = n := by omega
      subst hin
      obtain ⟨gt, ct, rfl⟩ : ∃ gt ct, u3 = .slice (some ⟨gt, 0, none⟩) i ct := by
        rcases HT.out.1.cases with ⟨_, hv⟩ | ⟨g, cap, cur, he, _⟩
        · have h2 := congrArg List.length hv
          rw [ints_len, up_len, List.length_range] at h2
          simp at h2; omega
        · rw [ints_len, up_len, List.length_range] at he; exact ⟨g, cap, he⟩
      go_wp2_with fail
      obtain ⟨wA, rfl⟩ : ∃ wA : World, wA = wr := ⟨_, rfl⟩
      go_loopw [4] (fun ov wr => ∃ (dn : List (List Nat)) (f : Nat) (t : List Nat) (vs : List Value), f + dn.length = 200 ∧ Hid (dn ++ treesF f t = treesN i) ∧ t.length = i ∧ OwnInts wr w.heap.size tI (.slice (some ⟨gt, 0, none⟩) i ct) (up t) ∧ Own wr w.heap.size tL ov vs ∧ RR wr w.heap.size vs (dn.map up) ∧ vs.Pairwise Apart ∧ (∀ u ∈ vs, Apart u (.slice (some ⟨gt, 0, none⟩) i ct)) ∧ Below w.heap.size w wr) (fun ov _ => 200 - lenV ov)
      case atStart => exact ⟨[], 200, List.range i, [], rfl, rfl, by simp, HT.out, HO.out, RR.nil _ _, List.Pairwise.nil, fun u hu => by simp at hu, HB.out⟩
      case round =>
        obtain ⟨dn, f, t, vs, hf, HTF, htl, ht, ho, hr, hap, hat, hb⟩ := hrel
        clear HT HO HB
        have hdl : dn.length ≤ 115 := by have h := congrArg List.length HTF.out; have h2 := HLEN.out; simp at h; omega
        obtain ⟨f', rfl⟩ : ∃ f', f = f' + 1 := ⟨f - 1, by omega⟩
        have htf := HTF.out
        rw [treesF] at htf
        have hmem : t ∈ treesN i := by rw [← htf]; simp
        obtain ⟨-, hlv, hcan, hpar⟩ := HALL.out t hmem
        have hvl : vs.length = dn.length := by rw [hr.1, List.length_map]
        have hvl2 : vs.length ≤ 115 := by omega
        have HVL := Lib.hid hvl
        have HT := Lib.hid ht
        have HO := Lib.hid ho
        have HR := Lib.hid hr
        have HAP := Lib.hid hap
        have HAT := Lib.hid hat
        have HB := Lib.hid hb
        have HTL := Lib.hid htl
        have HFF := Lib.hid hf
        have HTF2 := Lib.hid htf
        have HPAR := Lib.hid hpar
        have HLT := Lib.hid (show ∀ k, t.getD k 0 ≤ 8 from fun k => by
          cases hk : t[k]? with
          | none => simp [List.getD, hk]
          | some l => have := canO_lt hcan l (List.mem_of_getElem? hk); simp [List.getD, hk]; omega)
        obtain ⟨Ao, co, rfl, -, -⟩ := ho.cells.open_
        have HSC := Lib.hid (rfl : succT t = succT t)
        clear hf htl ht ho hr hap hat hb htf hmem hlv hcan hpar HTF hvl
        go_upto_region 8 with (first
          | (go_at_call 151; refine (lib_Clone _ _ (up t) HT.out.ints (by rw [up_len, HTL.out]; omega)).mono ?_; rintro e w2 ⟨r2, rfl, ho2, hb2⟩; obtain ⟨A5, c5, he5, -, -, -⟩ := ho2.ints.open_; rw [up_len] at he5; subst he5; have HAF := Lib.hid (HR.out.fresh (Nat.le_refl _) ho2.1.ge); have HTA := Lib.hid (show Apart (.slice A5 t.length c5) (.slice (some ⟨gt, 0, none⟩) i ct) from (apart_of_lt HT.out.1.lt ho2.1.ge).symm); have HO2 := Lib.hid (ho2.mono HB.out.size); have HBI := Lib.hid hb2; have HB2 := Lib.hid (HB.out.trans (hb2.mono HB.out.size)); have HOW := Lib.hid (HO.out.below hb2); have HT2 := Lib.hid (HT.out.below hb2); clear ho2 hb2)
          | (at_builtin; refine wpList_app1 T_row HOW.out (by omega) HB2.out.size (by rfl) rfl (by rfl) (by rfl) (by rfl) ?_; intro v1 w5 hown1 hgr1; have HN1 := Lib.hid hown1; have HR1 := Lib.hid (LL.snoc HOW.out (HR.out.below HBI.out) HO2.out hown1 hgr1.1); have HB5 := Lib.hid (hgr1.below HB2.out HB2.out.size HOW.out.ge); have HT5 := Lib.hid (HT2.out.kept hgr1.1 (HT2.out.1.bt.ne HOW.out.bt (by decide))); clear hown1 hgr1))
        have HAP5 := Lib.hid (pairApart_snoc HAP.out HAF.out)
        have HAT5 := Lib.hid (show ∀ u ∈ vs ++ [.slice A5 t.length c5], Apart u (.slice (some ⟨gt, 0, none⟩) i ct) from fun u hu => by
          rcases List.mem_append.1 hu with hu | hu
          · exact HAT.out u hu
          · simp at hu; subst hu; exact HTA.out)
        have HDN := Lib.hid (show RR w5 w.heap.size (vs ++ [.slice A5 t.length c5]) ((dn ++ [t]).map up) from by rw [List.map_append]; exact HR1.out)
        clear HAP HAF HAT HTA HO2 HBI HOW HT2 HR1 HT HO HR HB HB2
        generalize hvs : vs ++ [.slice A5 t.length c5] = vs5 at HN1 HAP5 HAT5 HDN
        obtain ⟨ad, zz, hae, h3t⟩ : ∃ ad : Addr, ∃ zz : Unit, (some (⟨gt, 0, none⟩ : Addr)) = some ad ∧ ∀ k, k < i → w5.cell? ⟨gt, k, none⟩ = some (.int .i64 (t.getD k 0 : Nat)) := by
          refine ⟨_, (), rfl, fun k hk => ?_⟩
          obtain ⟨A, c, e, -, -, h3⟩ := HT5.out.ints.open_
          obtain ⟨ad, z, hA, hz', -, hc⟩ := h3 k (by rw [up_len, HTL.out]; exact hk)
          simp only [Value.slice.injEq] at e
          obtain ⟨rfl, -, -⟩ := e
          injection hA with hA
          subst hA
          obtain ⟨l, hl, hzl⟩ := up_getD hz'
          rw [addr_add] at hc
          rw [hc, hzl]
          simp [List.getD, hl]
        have H3 := Lib.hid h3t
        clear h3t hae
        have hwi : IntKind.i64.wrap ((i : Int) - 1) = (i : Int) - 1 := IntWalk.i64_in _ (by omega)
        go_wp2_with fail
        go_loopw [6] (fun x wi => ∃ m : Nat, m ≤ i ∧ x = .int .i64 ((m : Int) - 1) ∧ Hid (pN t m = pN t i) ∧ w5 = wi) (fun x _ => (intOf x + 1).toNat)
        case atStart => exact ⟨i, Nat.le_refl _, rfl, rfl, rfl⟩
        case round =>
          obtain ⟨m, hm, rfl, HPN, rfl⟩ := hrel
          cases m with
          | zero =>
            have h0 : ((0 : Nat) : Int) - 1 = -1 := rfl
            rw [h0]
            clear h0 hm
            have HFIN := Lib.hid (show dn ++ [t] = treesN i from by
              have h := HTF2.out
              have hs : succT t = none := by unfold succT; rw [HTL.out, ← HPN.out]; rfl
              rw [hs] at h
              exact h)
            go_wp2_with fail
            go_ret
            refine ⟨_, rfl, ⟨vs5, HN1.out, ?_, HAP5.out⟩, HB5.out⟩
            rw [← HFIN.out]; exact HDN.out
          | succ k =>
            have h0 : ((k + 1 : Nat) : Int) - 1 = (k : Int) := by omega
            rw [h0]
            clear h0
            have hck := H3.out k (by omega)
            have hki : (k : Int) < (i : Int) := by omega
            have hk0 : (0 : Int) ≤ (k : Int) := by omega
            have hkd : decide ((0 : Int) ≤ (k : Int)) = true := by simp
            have hwk : IntKind.i64.wrap ((k : Int) - 1) = (k : Int) - 1 := IntWalk.i64_in _ (by omega)
            have hpk : pN t (k + 1) = bif Nat.ble (t.getD k 0) 1 then pN t k else k + 1 := rfl
            have HGK := Lib.hid (rfl : t.getD k 0 = t.getD k 0)
            generalize hL : t.getD k 0 = L at hck hpk
            have HL := Lib.hid hL
            clear hL
            by_cases hq : L ≤ 1
            · have hd : decide ((L : Int) ≤ 1) = true := by simp; omega
              have hq1 : (L : Int) ≤ 1 := by omega
              rw [Nat.ble_eq_true_of_le hq] at hpk
              have HPK := Lib.hid hpk
              clear hpk hq
              go_wp2_with fail
              go_roundw
              case rel => exact ⟨k, by omega, rfl, by rw [← HPN.out]; exact HPK.out.symm, by first | rfl | trivial⟩
              case measure => first | (simp [intOf]; done) | (simp [intOf]; omega)
            · have hd : decide ((L : Int) ≤ 1) = false := by simp; omega
              have hq1 : ¬ ((L : Int) ≤ 1) := by omega
              have hble : Nat.ble L 1 = false := by
                cases h : Nat.ble L 1 with
                | true => exact absurd (Nat.le_of_ble_eq_true h) hq
                | false => rfl
              rw [hble] at hpk
              have HPI := Lib.hid (show pN t i = k + 1 from by rw [← HPN.out]; exact hpk)
              have HPP := Lib.hid (show 0 < parN t L k from by rw [← HL.out]; exact HPAR.out k (by rw [HTL.out]; exact HPI.out))
              clear hpk hq hble
              go_wp2_with fail
              go_loopw [7] (fun x wi => ∃ m nd : Nat, m ≤ k ∧ x = .int .i64 ((m : Int) - 1) ∧ Hid (parN t L m = parN t L k) ∧ wi = w5.drewN nd) (fun x _ => (intOf x + 1).toNat)
              case atStart => exact ⟨k, 0, Nat.le_refl _, rfl, rfl, rfl⟩
              case round =>
                obtain ⟨m, nd, hm2, rfl, HQN, rfl⟩ := hrel
                cases m with
                | zero => exact absurd HPP.out (by rw [← HQN.out]; exact Nat.lt_irrefl 0)
                | succ s =>
                  have h0 : ((s + 1 : Nat) : Int) - 1 = (s : Int) := by omega
                  rw [h0]
                  clear h0
                  have hcs := H3.out s (by omega)
                  have hsi : (s : Int) < (i : Int) := by omega
                  have hs0 : (0 : Int) ≤ (s : Int) := by omega
                  have hws : IntKind.i64.wrap ((s : Int) - 1) = (s : Int) - 1 := IntWalk.i64_in _ (by omega)
                  have hLb : L ≤ 8 := by have := HLT.out k; rw [HL.out] at this; exact this
                  have hwL : IntKind.i64.wrap ((L : Int) - 1) = (L : Int) - 1 := IntWalk.i64_in _ (by omega)
                  have hps : parN t L (s + 1) = bif Nat.beq (t.getD s 0 + 1) L then s + 1 else parN t L s := rfl
                  generalize hS : t.getD s 0 = S at hcs hps
                  have HS := Lib.hid hS
                  clear hS
                  by_cases hq2 : S + 1 = L
                  · have hd2 : ((S : Int) != (L : Int) - 1) = false := by simp; omega
                    have HPQ := Lib.hid (show parN t L k = s + 1 from by rw [← HQN.out, hps, hq2, Nat.beq_refl]; rfl)
                    have HSU := Lib.hid (show succT t = some (fillF t (k - s) (i - k) k) from by
                      unfold succT
                      rw [HTL.out, HPI.out]
                      simp only
                      rw [HL.out, HPQ.out, Nat.add_sub_cancel])
                    clear hps hq2
                    go_wp2_with fail
                    go_quiet (fail)
                    go_wp2_with fail
                    rw [World.drewN_drewN]
                    have HT6 := Lib.hid (show OwnInts (w5.drewN (nd + nq)) w.heap.size tI (.slice (some ⟨gt, 0, none⟩) i ct) (up t) from HT5.out)
                    have HN6 := Lib.hid (HN1.out.drewN (nd + nq))
                    have HD6 := Lib.hid (HDN.out.below (below_drewN (Below.refl _ _) (nd + nq)))
                    have HB6 := Lib.hid (below_drewN HB5.out (nd + nq))
                    generalize (w5.drewN (nd + nq)) = w6 at HT6 HN6 HD6 HB6 ⊢
                    have hsk : s < k := by omega
                    have hwd : IntKind.i64.wrap ((k : Int) - (s : Int)) = (k : Int) - (s : Int) := IntWalk.i64_in _ (by omega)
                    clear hcs hck hd hd2 HT5 HN1 HDN HB5
                    go_loopw [8] (fun x wi => ∃ (c : Nat) (tt : List Nat), k ≤ c ∧ c ≤ i ∧ x = .int .i64 c ∧ tt.length = i ∧ Hid (∀ l ∈ tt, l ≤ 8) ∧ Hid (fillF tt (k - s) (i - c) c = fillF t (k - s) (i - k) k) ∧ OwnInts wi w.heap.size tI (.slice (some ⟨gt, 0, none⟩) i ct) (up tt) ∧ Own wi w.heap.size tL v1 vs5 ∧ RR wi w.heap.size vs5 ((dn ++ [t]).map up) ∧ Below w.heap.size w wi) (fun x _ => i - (intOf x).toNat)
                    case atStart => exact ⟨k, t, Nat.le_refl _, by omega, rfl, HTL.out, fun l hl => by obtain ⟨j, hj, rfl⟩ := List.getElem_of_mem hl; have := HLT.out j; simpa [List.getD, hj] using this, rfl, HT6.out, HN6.out, HD6.out, HB6.out⟩
                    case round =>
                      obtain ⟨c, tt, hkc, hci, rfl, htl, HTB, HFL, ht, ho, hr, hb⟩ := hrel
                      clear HT6 HN6 HD6 HB6
                      have HT := Lib.hid ht
                      have HO := Lib.hid ho
                      have HR := Lib.hid hr
                      have HB := Lib.hid hb
                      have HTL2 := Lib.hid htl
                      clear ht ho hr hb htl
                      by_cases hlt3 : c < i
                      · have hcc : (c : Int) < (i : Int) := by omega
                        have hc0 : (0 : Int) ≤ (c : Int) := by omega
                        obtain ⟨e, he⟩ : ∃ e, e = c - (k - s) := ⟨_, rfl⟩
                        have hwe : IntKind.i64.wrap ((c : Int) - ((k : Int) - (s : Int))) = (e : Int) := by rw [IntWalk.i64_in _ (by omega)]; omega
                        have hei : (e : Int) < (i : Int) := by omega
                        have he0 : (0 : Int) ≤ (e : Int) := by omega
                        have hce : wr.cell? ⟨gt, e, none⟩ = some (.int .i64 (tt.getD e 0 : Nat)) := by
                          obtain ⟨A, c', e', -, -, h3⟩ := HT.out.ints.open_
                          obtain ⟨ad, z, hA, hz', -, hc⟩ := h3 e (by rw [up_len, HTL2.out]; omega)
                          simp only [Value.slice.injEq] at e'
                          obtain ⟨rfl, -, -⟩ := e'
                          injection hA with hA
                          subst hA
                          obtain ⟨l, hl, hzl⟩ := up_getD hz'
                          rw [addr_add] at hc
                          rw [hc, hzl]
                          simp [List.getD, hl]
                        have hE8 : tt.getD e 0 ≤ 8 := by
                          cases hk : tt[e]? with
                          | none => simp [List.getD, hk]
                          | some l => have := HTB.out l (List.mem_of_getElem? hk); simpa [List.getD, hk] using this
                        have hfl := HFL.out
                        rw [show i - c = (i - (c + 1)) + 1 by omega, fillF, ← he] at hfl
                        generalize tt.getD e 0 = E at hce hE8 hfl
                        have HFL2 := Lib.hid hfl
                        obtain ⟨u0, -, q0, q1, -, -, hst, hgb⟩ := HT.out.1.storeAt (k := c) (by rw [ints_len, up_len, HTL2.out]; exact hlt3) (.int .i64 (E : Int))
                        have HST := Lib.hid (show OwnInts (wr.setCell ⟨gt, c, none⟩ (.int .i64 (E : Int))) w.heap.size tI (.slice (some ⟨gt, 0, none⟩) i ct) (up (tt.set c E)) from ⟨by simpa [ints, up, List.map_set] using hst, fun z hz => by
                          simp only [up, List.map_set] at hz
                          rcases List.mem_or_eq_of_mem_set hz with hz | hz
                          · exact HT.out.2 z hz
                          · rw [hz]; unfold In64; omega⟩)
                        have HO2 := Lib.hid (HO.out.kept hgb (HO.out.bt.ne (v' := .slice (some ⟨gt, 0, none⟩) i ct) HT.out.1.bt (by decide)))
                        have HR2 := Lib.hid (HR.out.keptAp (v := .slice (some ⟨gt, 0, none⟩) i ct) hgb HAT5.out)
                        have HB2 := Lib.hid (HB.out.setCell (p := ⟨gt, c, none⟩) (HT.out.1.ge gt rfl) (.int .i64 (E : Int)))
                        have HTB2 := Lib.hid (show ∀ l ∈ tt.set c E, l ≤ 8 from fun l hl => by
                          rcases List.mem_or_eq_of_mem_set hl with hl | hl
                          · exact HTB.out l hl
                          · omega)
                        clear hst hgb hfl he
                        go_wp2_with fail
                        go_roundw
                        case rel => exact ⟨c + 1, tt.set c E, by omega, by omega, by go_num, by rw [List.length_set]; exact HTL2.out, HTB2.out, HFL2.out, HST.out, HO2.out, HR2.out, HB2.out⟩
                        case measure => simp [intOf]; omega
                      · have hce : c = i := by omega
                        have hfl := HFL.out
                        rw [hce, Nat.sub_self, fillF] at hfl
                        have HNX := Lib.hid (show dn ++ [t] ++ treesF f' tt = treesN i from by
                          have h := HTF2.out
                          rw [HSU.out, ← hfl] at h
                          simpa using h)
                        have hcc : ¬ ((c : Int) < (i : Int)) := by omega
                        have HLN := Lib.hid (show (dn ++ [t]).length = dn.length + 1 from by simp)
                        clear hfl hce
                        go_wp2_with fail
                        go_roundw
                        case rel => exact ⟨dn ++ [t], f', tt, vs5, by rw [HLN.out]; have := HFF.out; omega, HNX.out, HTL2.out, HT.out, HO.out, HR.out, HAP5.out, HAT5.out, HB.out⟩
                        case measure =>
                          obtain ⟨A9, c9, h9, -, -⟩ := HO.out.cells.open_
                          have h10 : vs5.length = vs.length + 1 := by rw [← hvs]; simp
                          rw [h9]
                          show 200 - vs5.length < 200 - vs.length
                          omega
                  · have hd2 : ((S : Int) != (L : Int) - 1) = true := by simp; omega
                    have HPS := Lib.hid (show parN t L (s + 1) = parN t L s from by
                      rw [hps]
                      cases h : Nat.beq (S + 1) L with
                      | true => exact absurd (Nat.eq_of_beq_eq_true h) hq2
                      | false => rfl)
                    clear hps hq2
                    go_wp2_with fail
                    go_quiet (fail)
                    go_wp2_with fail
                    go_roundw
                    case rel => exact ⟨s, _, by omega, rfl, by rw [← HQN.out]; exact HPS.out.symm, by first | rfl | exact World.drewN_drewN ..⟩
                    case measure => first | (simp [intOf]; done) | (simp [intOf]; omega)
end Go.Proofs.Ytbjeibcombjfgaa

set_option maxRecDepth 100000
set_option linter.unusedVariables false
set_option linter.unusedSimpArgs false
namespace Go.Proofs.Ytbjeibcombjfgaa
open Go.RowKit

def Small (bs : List (List Nat)) : Prop := ∀ q ∈ bs, lvl q = true ∧ q.length ≤ 8
theorem Small.filter {bs : List (List Nat)} (h : Small bs) (p : List Nat → Bool) : Small (bs.filter p) := fun q hq => h q (List.mem_filter.1 hq).1
end Go.Proofs.Ytbjeibcombjfgaa

set_option maxRecDepth 100000
set_option linter.unusedVariables false
set_option linter.unusedSimpArgs false
namespace Go.Proofs.Ytbjeibcombjfgaa
open Go.RowKit

/-- the lists for 1 to n, one after the other -/
def allG (G : Nat → List (List Nat)) (n : Nat) : List (List Nat) := (List.range n).flatMap fun k => G (k + 1)
theorem allG_succ (G : Nat → List (List Nat)) (k : Nat) : allG G (k + 1) = allG G k ++ G (k + 1) := by simp [allG, List.range_succ]
theorem allG_len {G : Nat → List (List Nat)} (hG : ∀ k, 1 ≤ k → k ≤ 8 → (G k).length ≤ 115) : ∀ n, n ≤ 8 → (allG G n).length ≤ 115 * n
  | 0, _ => by simp [allG]
  | n + 1, h => by
    rw [allG_succ, List.length_append]
    have h1 := allG_len hG n (by omega)
    have h2 := hG (n + 1) (by omega) h
    omega
theorem treesN_len {k : Nat} (h1 : 1 ≤ k) (h8 : k ≤ 8) : (treesN k).length ≤ 115 := (treesN_at h1 h8).1

theorem RR.keptAl {w w' : World} {B : Nat} {vs : List Value} {xss : List (List Int)} {v : Value} {e : TypeId} (h : RR w B vs xss) (hg : w.grownBy w' v.ownBlock) (hb : BT w e v) (hne : tI ≠ e) : RR w' B vs xss :=
  ⟨h.1, fun k u zs hu hz => (h.2 k u zs hu hz).kept hg ((h.2 k u zs hu hz).1.bt.ne hb hne)⟩
/-- a list of rows behind another one -/
theorem LA.app {w2 w' : World} {B C : Nat} {v v' : Value} {xs ys : List (List Int)} {us vs : List Value} (h1 : Own w2 B tL v us) (h2 : RR w2 B us xs) (h3 : us.Pairwise Apart) (hlt : ∀ u ∈ us, ∀ b, u.ownBlock = some b → b < C)
    (g1 : RR w2 C vs ys) (g2 : vs.Pairwise Apart) (hBC : B ≤ C) (ho : Own w' B tL v' (us ++ vs)) (hg : Grow w2 w' v v') : LA w' B v' (xs ++ ys) := by
  refine ⟨us ++ vs, ho, (h2.append (g1.mono hBC)).keptAl hg.1 h1.bt (by decide), List.pairwise_append.2 ⟨h3, g2, fun u hu x hx => ?_⟩⟩
  obtain ⟨k, hk, rfl⟩ := List.getElem_of_mem hx
  have hz : ys[k]? = some (ys[k]'(by rw [← g1.1]; exact hk)) := List.getElem?_eq_getElem _
  exact apart_of_lt (hlt u hu) (g1.2 k _ _ (List.getElem?_eq_getElem hk) hz).1.ge
theorem RR.lt {w : World} {B : Nat} {vs : List Value} {xss : List (List Int)} (h : RR w B vs xss) : ∀ u ∈ vs, ∀ b, u.ownBlock = some b → b < w.heap.size := by
  intro u hu
  obtain ⟨k, hk, rfl⟩ := List.getElem_of_mem hu
  have hz : xss[k]? = some (xss[k]'(by rw [← h.1]; exact hk)) := List.getElem?_eq_getElem _
  exact (h.2 k _ _ (List.getElem?_eq_getElem hk) hz).1.lt

set_option maxHeartbeats 4000000 in
theorem i_treesTo (w : World) (n : Nat) (h8 : n ≤ 8) :
    Calls Try.prog 105 #[.int .i64 n] w fun e w' => ∃ x, e = .returned x ∧ LA w' w.heap.size x ((allG treesN n).map up) ∧ Below w.heap.size w w' := by
  have HG := Lib.hid (fun k (h : k ≤ 8) => allG_len (G := treesN) (fun k h1 h2 => treesN_len h1 h2) k h)
  have HL := Lib.hid (fun k (h1 : 1 ≤ k) (h2 : k ≤ 8) => treesN_len h1 h2)
  have OL := Lib.hid (show LA (w.alloc (.cells #[] tL)) w.heap.size (.slice (some ⟨w.heap.size, 0, none⟩) 0 0) ((allG treesN 0).map up) from ⟨[], own_lit w tL [] (by simp [maxLen]), RR.nil _ _, List.Pairwise.nil⟩)
  go_enter Try.func105, Try.ntmps105
  go_wp2_with fail
  go_loopw [3, 4] (fun o x wr => ∃ k : Nat, 1 ≤ k ∧ k ≤ n + 1 ∧ x = .int .i64 k ∧ LA wr w.heap.size o ((allG treesN (k - 1)).map up) ∧ Below w.heap.size w wr) (fun _ x _ => n + 1 - (intOf x).toNat)
  case atStart => exact ⟨1, Nat.le_refl _, by omega, by go_num, OL.out, below1 _ _⟩
  case round =>
    obtain ⟨k, hk1, hk, rfl, ho, hb⟩ := hrel
    clear OL
    have HB := Lib.hid hb
    obtain ⟨us, hown, hrr, hap⟩ := ho
    have hul := hrr.1
    rw [List.length_map] at hul
    have HUL := Lib.hid (show us.length ≤ 1000 from by have := HG.out (k - 1) (by omega); omega)
    have HO := Lib.hid hown
    have HR := Lib.hid hrr
    have HAP := Lib.hid hap
    have HLT := Lib.hid hrr.lt
    obtain ⟨Ao, co, rfl, -, -⟩ := hown.cells.open_
    clear hb hown hrr hap hul
    by_cases hlt : k < n + 1
    · have hle : (k : Int) ≤ (n : Int) := by omega
      have HS := Lib.hid (show allG treesN (k + 1 - 1) = allG treesN (k - 1) ++ treesN k from by
        have h := allG_succ treesN (k - 1)
        rw [show k - 1 + 1 = k by omega] at h
        rw [Nat.add_sub_cancel]; exact h)
      have HLK := Lib.hid (HL.out k hk1 (by omega))
      have hk8 : k ≤ 8 := by omega
      go_wp2_with (first
        | (go_at_call 92; go_loud (refine (i_treesOf _ k hk1 hk8).mono ?_; rintro e w2 ⟨x2, rfl, hl2, hb2⟩; obtain ⟨vs, hown2, hrr2, hap2⟩ := hl2; have HV := Lib.hid hown2; have HR2 := Lib.hid hrr2; have HAP2 := Lib.hid hap2; have hvl := hrr2.1.trans (List.length_map ..); have HVL := Lib.hid hvl; have HB2 := Lib.hid hb2; have HO2 := Lib.hid (HO.out.below hb2); clear hown2 hrr2 hap2 hb2 hvl))
        | (at_builtin; go_loud (refine wpList_appN T_row HO2.out HV.out.cells (by have h1 := HUL.out; have h2 := HVL.out; have h3 := HLK.out; omega) (Nat.le_trans HB.out.size HB2.out.size) HR2.out.oneCell (by rfl) rfl (by rfl) (by rfl) ?_; intro v5 w5 hown5 hgr5; have HN := Lib.hid hown5; have HGR := Lib.hid hgr5; clear hown5 hgr5)))
      go_roundw
      case rel =>
        refine ⟨k + 1, by omega, by omega, by go_num, ?_, HGR.out.below (HB.out.trans (HB2.out.mono HB.out.size)) (Nat.le_trans HB.out.size HB2.out.size) HO2.out.ge⟩
        rw [HS.out, List.map_append]
        exact LA.app HO2.out (HR.out.below HB2.out) HAP.out HLT.out HR2.out HAP2.out HB.out.size HN.out HGR.out
      case measure => simp [intOf]; omega
    · have hkn : k = n + 1 := by omega
      subst hkn
      go_wp2_with fail
      go_ret
      exact ⟨_, rfl, ⟨us, HO.out, by simpa using HR.out, HAP.out⟩, HB.out⟩

end Go.Proofs.Ytbjeibcombjfgaa

set_option maxRecDepth 100000
set_option linter.unusedVariables false
set_option linter.unusedSimpArgs false
namespace Go.Proofs.Ytbjeibcombjfgaa
open Go.RowKit

abbrev MC := (List Nat × Nat) × Nat
def McD (w : World) (B : Nat) (c : List Value) (x : MC) : Prop := ∃ s, c = [.int .i64 (x.2 : Nat), s, .int .i64 (x.1.2 : Nat)] ∧ OwnInts w B tN s (up x.1.1)
def Mcs (w : World) (B : Nat) (css : List (List Value)) (xs : List MC) : Prop := css.length = xs.length ∧ ∀ (i : Nat) (c : List Value) (x : MC), css[i]? = some c → xs[i]? = some x → McD w B c x
theorem McD.below {w w' : World} {B : Nat} {c : List Value} {x : MC} (h : McD w B c x) (hb : Below w.heap.size w w') : McD w' B c x := by
  obtain ⟨s, rfl, h⟩ := h
  exact ⟨s, rfl, h.below hb⟩
theorem McD.mono {w : World} {B B' : Nat} {c : List Value} {x : MC} (h : McD w B c x) (hB : B' ≤ B) : McD w B' c x := by
  obtain ⟨s, rfl, h⟩ := h
  exact ⟨s, rfl, h.mono hB⟩
theorem McD.kept {w w' : World} {B : Nat} {c : List Value} {x : MC} {e : TypeId} {v : Value} (h : McD w B c x) (hg : w.grownBy w' v.ownBlock) (hb : BT w e v) (hne : tN ≠ e) : McD w' B c x := by
  obtain ⟨s, rfl, h⟩ := h
  exact ⟨s, rfl, h.kept hg (h.1.bt.ne hb hne)⟩
section
variable {w w' : World} {B : Nat} {css : List (List Value)} {xs : List MC}
theorem Mcs.nil (w : World) (B : Nat) : Mcs w B [] [] := ⟨rfl, fun i c x h => by simp at h⟩
theorem Mcs.below (h : Mcs w B css xs) (hb : Below w.heap.size w w') : Mcs w' B css xs := ⟨h.1, fun i c x hc hx => (h.2 i c x hc hx).below hb⟩
theorem Mcs.mono {B' : Nat} (h : Mcs w B css xs) (hB : B' ≤ B) : Mcs w B' css xs := ⟨h.1, fun i c x hc hx => (h.2 i c x hc hx).mono hB⟩
theorem Mcs.kept {v : Value} {e : TypeId} (h : Mcs w B css xs) (hg : w.grownBy w' v.ownBlock) (hb : BT w e v) (hne : tN ≠ e) : Mcs w' B css xs := ⟨h.1, fun i c x hc hx => (h.2 i c x hc hx).kept hg hb hne⟩
theorem Mcs.snoc {c : List Value} {x : MC} (h : Mcs w B css xs) (hx : McD w B c x) : Mcs w B (css ++ [c]) (xs ++ [x]) := by
  refine ⟨by simp [h.1], fun i c' x' hc hx' => ?_⟩
  by_cases hlt : i < css.length
  · rw [List.getElem?_append_left hlt] at hc
    rw [List.getElem?_append_left (by rw [← h.1]; exact hlt)] at hx'
    exact h.2 i c' x' hc hx'
  · have hkl := (List.getElem?_eq_some_iff.1 hc).1
    simp at hkl
    have hi : i = css.length := by omega
    rw [hi] at hc
    rw [hi, h.1] at hx'
    simp at hc hx'
    subst hc hx'
    exact hx
end
section
variable {w w' : World} {B : Nat} {us : List Value} {xss : List (List MC)}
end
def T6n : List (List Nat) := allG treesN 6
theorem T6n_len : T6n.length = 37 := by decide +kernel
end Go.Proofs.Ytbjeibcombjfgaa

set_option maxRecDepth 100000
set_option linter.unusedVariables false
set_option linter.unusedSimpArgs false
namespace Go.Proofs.Ytbjeibcombjfgaa
open Go.RowKit

/-- the number of nodes of the tree at a place -/
def szN (k : Nat) : Nat := (0 :: T6n.map List.length).getD k 0
theorem szN_zero : szN 0 = 0 := rfl
theorem szN_succ {i : Nat} {t : List Nat} (h : T6n[i]? = some t) : szN (i + 1) = t.length := by
  unfold szN
  simp [List.getD, h]
theorem szN_le (k : Nat) : szN k ≤ 6 := by
  have h : (0 :: T6n.map List.length).all (fun n => Nat.ble n 6) = true := by decide +kernel
  rw [List.all_eq_true] at h
  unfold szN
  rw [List.getD_eq_getElem?_getD]
  cases hk : (0 :: T6n.map List.length)[k]? with
  | none => simp
  | some n => exact Nat.le_of_ble_eq_true (h n (List.mem_of_getElem? hk))
theorem szN_pos {i : Nat} (h : i < 37) : 1 ≤ szN (i + 1) := by
  have ha : T6n.all (fun t => Nat.ble 1 t.length) = true := by decide +kernel
  rw [List.all_eq_true] at ha
  have ht : T6n[i]? = some (T6n[i]'(by rw [T6n_len]; exact h)) := List.getElem?_eq_getElem _
  rw [szN_succ ht]
  exact Nat.le_of_ble_eq_true (ha _ (List.mem_of_getElem? ht))
/-! ### densities -/
def denL (D : List Nat → Option Nat) : List (List Nat) → Nat → Option Nat
  | [], a => some a
  | b :: bs, a => match D b with
    | none => none
    | some d => bif Nat.ble (a * d) 1000000 then denL D bs (a * d) else none
def denO : Nat → List Nat → Option Nat
  | 0, _ => none
  | f + 1, t => match brO t with
    | none => none
    | some bs => denL (denO f) bs t.length
theorem denL_cons {D : List Nat → Option Nat} {b : List Nat} {bs : List (List Nat)} {a r : Nat} (h : denL D (b :: bs) a = some r) : ∃ d, D b = some d ∧ a * d ≤ 1000000 ∧ denL D bs (a * d) = some r := by
  rw [denL] at h
  cases h1 : D b with
  | none => rw [h1] at h; cases h
  | some d =>
    rw [h1] at h
    simp only at h
    cases h2 : Nat.ble (a * d) 1000000 with
    | false => rw [h2] at h; cases h
    | true => rw [h2] at h; exact ⟨d, rfl, Nat.le_of_ble_eq_true h2, h⟩
theorem denO_succ {f : Nat} {t : List Nat} {r : Nat} (h : denO (f + 1) t = some r) : ∃ bs, brO t = some bs ∧ denL (denO f) bs t.length = some r := by
  rw [denO] at h
  cases h1 : brO t with
  | none => rw [h1] at h; cases h
  | some bs => rw [h1] at h; exact ⟨bs, rfl, h⟩
/-! ### the exact map -/
def exV (t : List Nat) : Nat := match denO 9 t with
  | some d => d ^ 10005 % 10007
  | none => 0
def exN : List Nat := 1 :: T6n.map exV
def EX : List Int := up exN
theorem EX_len : EX.length = 38 := by
  unfold EX exN
  rw [up_len, List.length_cons, List.length_map, T6n_len]
def denB (t : List Nat) : Bool := match denO 9 t with
  | some d => Nat.ble 1 d && Nat.ble d 720 && Nat.beq (d * exV t % 10007) 1
  | none => false
theorem denB_all : T6n.all denB = true := by decide +kernel
theorem T6n_den {t : List Nat} (h : t ∈ T6n) : ∃ d, denO 9 t = some d ∧ 1 ≤ d ∧ d ≤ 720 ∧ d * exV t % 10007 = 1 ∧ exV t = d ^ 10005 % 10007 := by
  have h1 := denB_all
  rw [List.all_eq_true] at h1
  have h2 := h1 t h
  unfold denB at h2
  cases hd : denO 9 t with
  | none => rw [hd] at h2; cases h2
  | some d =>
    rw [hd] at h2
    simp only [Bool.and_eq_true] at h2
    refine ⟨d, rfl, Nat.le_of_ble_eq_true h2.1.1, Nat.le_of_ble_eq_true h2.1.2, Nat.eq_of_beq_eq_true h2.2, ?_⟩
    unfold exV
    rw [hd]
theorem pw_nat (d k : Nat) : pw (d : Int) k = ((d ^ k % 10007 : Nat) : Int) := by
  unfold pw
  rw [Int.natCast_emod, Int.natCast_pow]
  rfl
theorem exV_pw {t : List Nat} {d : Nat} (h : denO 9 t = some d) : pw (d : Int) 10005 = (exV t : Nat) := by
  rw [pw_nat]
  unfold exV
  rw [h]
theorem exV_le (t : List Nat) : exV t ≤ 10006 := by
  unfold exV
  cases denO 9 t with
  | none => simp
  | some d => have := Nat.mod_lt (d ^ 10005) (show 10007 > 0 by omega); simp only; omega
theorem EX_nums : ∀ z ∈ EX, 0 ≤ z ∧ z ≤ 10006 := by
  intro z hz
  unfold EX up exN at hz
  obtain ⟨n, hn, rfl⟩ := List.mem_map.1 hz
  rcases List.mem_cons.1 hn with rfl | hn
  · omega
  · obtain ⟨t, -, rfl⟩ := List.mem_map.1 hn
    have := exV_le t
    omega
theorem EX_succ {i : Nat} {t : List Nat} (h : T6n[i]? = some t) : EX[i + 1]? = some ((exV t : Nat) : Int) := by
  unfold EX exN
  simp [up, h]

/-! ### agreement -/
def agZ (a b : List Int) : Int := match (List.range 38).find? (fun k => a.getD k 0 != b.getD k 0) with
  | some k => (szN k : Int) - 1
  | none => 6
theorem agZ_hit {a b : List Int} {k : Nat} (h : ∀ i, i < k → a.getD i 0 = b.getD i 0) (hk : k < 38) (hne : a.getD k 0 ≠ b.getD k 0) : agZ a b = (szN k : Int) - 1 := by
  have : (List.range 38).find? (fun k => a.getD k 0 != b.getD k 0) = some k := by
    rw [List.find?_range_eq_some]
    refine ⟨by simpa using hne, by simpa using hk, fun j hj => by simpa using h j hj⟩
  unfold agZ
  rw [this]
theorem agZ_miss {a b : List Int} (h : ∀ i, i < 38 → a.getD i 0 = b.getD i 0) : agZ a b = 6 := by
  have : (List.range 38).find? (fun k => a.getD k 0 != b.getD k 0) = none := by
    rw [List.find?_range_eq_none]
    intro j hj
    simpa using h j hj
  unfold agZ
  rw [this]
theorem agZ_bd (a b : List Int) : -1 ≤ agZ a b ∧ agZ a b ≤ 6 := by
  unfold agZ
  cases h : (List.range 38).find? (fun k => a.getD k 0 != b.getD k 0) with
  | none => simp
  | some k => have := szN_le k; simp only; omega
/-- a character agrees with the exact map at the empty tree at least -/
theorem agZ_nonneg {a b : List Int} (h : a.getD 0 0 = b.getD 0 0) : 0 ≤ agZ a b := by
  unfold agZ
  cases hf : (List.range 38).find? (fun k => a.getD k 0 != b.getD k 0) with
  | none => simp
  | some k =>
    rw [List.find?_range_eq_some] at hf
    obtain ⟨h1, h2, -⟩ := hf
    simp only
    cases k with
    | zero => simp only [bne_iff_ne, ne_eq] at h1; exact absurd h h1
    | succ k =>
      have h2' : k + 1 < 38 := by simpa using h2
      have := szN_pos (i := k) (by omega)
      omega
end Go.Proofs.Ytbjeibcombjfgaa

set_option maxRecDepth 100000
set_option linter.unusedVariables false
set_option linter.unusedSimpArgs false
namespace Go.Proofs.Ytbjeibcombjfgaa

/-! ### smaller trees -/
/-- the numbers of nodes, written out -/
def SzT : List Nat := [0, 1, 2, 3, 3, 4, 4, 4, 4, 5, 5, 5, 5, 5, 5, 5, 5, 5, 6, 6, 6, 6, 6, 6, 6, 6, 6, 6, 6, 6, 6, 6, 6, 6, 6, 6, 6, 6]
def szT (k : Nat) : Nat := SzT.getD k 0
theorem szT_all : (List.range 38).all (fun k => Nat.beq (szT k) (szN k)) = true := by decide +kernel
theorem szT_is {k : Nat} (hk : k < 38) : szT k = szN k := by
  have h1 := szT_all
  rw [List.all_eq_true] at h1
  exact Nat.eq_of_beq_eq_true (h1 k (List.mem_range.2 hk))
/-! ### scaling -/
/-- a map scaled by k -/
def scV (k : Int) (x : Nat → Int) (p : Nat) : Int := x p * k ^ szT p
def wgt : List Nat → Nat
  | [] => 0
  | k :: ks => szT k + wgt ks
theorem pz_scV (k : Int) (x : Nat → Int) : ∀ ks : List Nat, pz (scV k x) ks = pz x ks * k ^ wgt ks
  | [] => by rw [pz_nil, pz_nil]; show (1 : Int) = 1 * k ^ 0; rw [Int.pow_zero, Int.mul_one]
  | q :: ks => by
    rw [pz_cons, pz_cons, pz_scV k x ks]
    unfold scV
    show x q * k ^ szT q * (pz x ks * k ^ wgt ks) = x q * pz x ks * k ^ (szT q + wgt ks)
    rw [Int.pow_add]
    simp only [Int.mul_assoc, Int.mul_left_comm, Int.mul_comm]
theorem eb3 : (List.range 38).all (fun p => (CP p).all fun c => Nat.beq (wgt c.1.1 + szT c.1.2) (szT p)) = true := by decide +kernel
/-- the convolution of scaled maps -/
theorem cv_scV (k : Int) (x y : Nat → Int) {p : Nat} (hp : p < 38) : cv (scV k x) (scV k y) p = scV k (cv x y) p := by
  have h1 := eb3
  rw [List.all_eq_true] at h1
  have h2 := h1 p (by simpa using hp)
  rw [List.all_eq_true] at h2
  show sumF (cvT (scV k x) (scV k y)) (CP p) = sumF (cvT x y) (CP p) * k ^ szT p
  rw [sumF_mulR]
  refine sumF_congr fun c hc => ?_
  have h3 := Nat.eq_of_beq_eq_true (h2 c hc)
  unfold cvT
  rw [pz_scV]
  unfold scV
  rw [← h3, Int.pow_add]
  simp only [Int.mul_assoc, Int.mul_left_comm, Int.mul_comm]
end Go.Proofs.Ytbjeibcombjfgaa

