/- Walk: l04Cut of the reference. | Walk: l04Turn of the reference: the recursion. | Walk: l04Double of the reference. -/
import Derived.Test.YtdjhfeaimmpmhaaGreatZh22
import Derived.Deep.CutRange
import Derived.Deep.CutBlock
import Derived.Deep.DeepCutAuto
set_option maxRecDepth 100000
set_option linter.unusedVariables false
set_option linter.unusedSimpArgs false
namespace Go.Proofs.YtdjhfeaimmpmhaaGreat
open Go.RowKit

set_option maxHeartbeats 16000000 in
theorem s_l04Cut (w : World) (v : Value) (t a' b' : List Nat) (N : Nat) (ha : Ints w v (up t)) (hk : okL t = true) (hn : N < t.length) (hge : allGe (t.getD N 0) (braL t N) = true) (hu : canO 9 (trkL t N) = some a') (hv : canO 9 (braM t N) = some b') :
    Calls Tryz.prog 215 #[v, .int .i64 N] w fun e w' => ∃ x y, e = .returned (.tuple #[x, y]) ∧ OwnInts w' w.heap.size tI x (up a') ∧ OwnInts w' w.heap.size tI y (up b') ∧ Below w.heap.size w w' := by
  obtain ⟨A, c, rfl, l1, l2, h3⟩ := ha.open_
  rw [up_len] at l1 h3 ha ⊢
  have HA := Lib.hid ha
  have hk2 := okL_of hk
  obtain ⟨he1, he2⟩ := endN_le hn
  obtain ⟨ad, z, rfl, hz, -, hcz⟩ := h3 N hn
  obtain ⟨a, hla, rfl⟩ := up_getD hz
  have hga : t.getD N 0 = a := by simp [List.getD, hla]
  have hbm : braM t N = (braL t N).map fun x => x - a := by unfold braM; rw [hga]
  rw [hga] at hge
  rw [hbm] at hv
  have ha1 := hk2.2 a (List.mem_of_getElem? hla)
  have H3 := Lib.hid h3
  have HK := Lib.hid hk2
  have HGE := Lib.hid (allGe_of hge)
  have HU := Lib.hid (show canO 9 (t.take N ++ t.drop (endN t N)) = some a' from hu)
  have HV := Lib.hid hv
  have HEN := Lib.hid (s_l04End w _ t N HA.out hn (by have := hk2.1; omega))
  have OL := Lib.hid (fun d => show OwnInts ((w.drewN d).alloc (.cells #[] tI)) w.heap.size tI (.slice (some ⟨w.heap.size, 0, none⟩) 0 0) (up (((braL t N).take 0).map fun x => x - a)) from ⟨by simpa [up, ints] using own_lit (w.drewN d) tI [] (by simp [maxLen]), by simp [up]⟩)
  have HNN := Lib.hid hn
  clear hk hge hu hv hbm hk2 h3 hz hla hga ha
  go_enter Tryz.func215, Tryz.ntmps215
  go_wp2_with (go_at_call 178; refine HEN.out.mono ?_; rintro e w1 ⟨rfl, n1, rfl⟩)
  go_loopw [7, 8] (fun o x wr => ∃ j : Nat, N + j ≤ endN t N ∧ x = .int .i64 (N + j : Nat) ∧ OwnInts wr w.heap.size tI o (up (((braL t N).take j).map fun x => x - a)) ∧ Below w.heap.size w wr) (fun _ x _ => endN t N - (intOf x).toNat)
  case atStart => exact ⟨0, by omega, by go_num, OL.out _, (below_drewN (Below.refl w.heap.size w) _).alloc (Nat.le_refl _) _⟩
  case round =>
    obtain ⟨j, hj, rfl, ho, hb⟩ := hrel
    have HO := Lib.hid ho
    have HB := Lib.hid hb
    clear ho hb OL
    by_cases hlt : N + j < endN t N
    · obtain ⟨av, zb, hae, hzb, -, hcb0⟩ := H3.out (N + j) (by omega)
      injection hae with hae
      subst hae
      obtain ⟨b, hlb, rfl⟩ := up_getD hzb
      have hcb : wr.cell? (ad.add (N + j)) = some (.int .i64 (b : Int)) := by
        rw [HB.out.cell (by rw [block_add]; have := World.block_lt_of_cell? w _ hcb0; rwa [block_add] at this)]; exact hcb0
      have hcn : wr.cell? (ad.add N) = some (.int .i64 (a : Int)) := by
        rw [HB.out.cell (by rw [block_add]; have := World.block_lt_of_cell? w _ hcz; rwa [block_add] at this)]; exact hcz
      have hbr : (braL t N)[j]? = some b := by
        unfold braL
        rw [List.getElem?_drop, List.getElem?_take_of_lt hlt]; exact hlb
      have hba := HGE.out b (List.mem_of_getElem? hbr)
      have hb1 := HK.out.2 b (List.mem_of_getElem? hlb)
      have hNi : (N : Int) < (t.length : Int) := by omega
      have hN0 : (0 : Int) ≤ (N : Int) := by omega
      have hji : ((N + j : Nat) : Int) < (t.length : Int) := by omega
      have hj0 : (0 : Int) ≤ ((N + j : Nat) : Int) := by omega
      have hjE : ((N + j : Nat) : Int) < (endN t N : Nat) := by omega
      have hbd1 : -9223372036854775808 ≤ (b : Int) - (a : Int) ∧ (b : Int) - (a : Int) ≤ 9223372036854775807 := by omega
      have hbd2 : -9223372036854775808 ≤ ((N + j : Nat) : Int) + 1 ∧ ((N + j : Nat) : Int) + 1 ≤ 9223372036854775807 := by have := HK.out.1; omega
      have hz64 : In64 ((b : Int) - (a : Int)) := by unfold In64; omega
      have HTS := Lib.hid (show ((braL t N).take (j + 1)).map (fun x => x - a) = ((braL t N).take j).map (fun x => x - a) ++ [b - a] from by rw [List.take_add_one, hbr]; simp)
      have HUZ := Lib.hid (show up [b - a] = [(b : Int) - (a : Int)] from by simp [up]; omega)
      have HLE := Lib.hid (show (ints (up (((braL t N).take j).map fun x => x - a))).length ≤ 1000 from by
        rw [ints_len, up_len, List.length_map, List.length_take]; have := HK.out.1; omega)
      have hB := HB.out.size
      have hw1 := w64_in' _ hbd1
      have hw1' := IntWalk.i64_in _ hbd1
      have hw2 := w64_in' _ hbd2
      have hw2' := IntWalk.i64_in _ hbd2
      clear hbd1 hbd2 hcb0 hzb hlb
      generalize hi : N + j = i at *
      have HI := Lib.hid hi
      clear hi
      go_wp2_with fail
      go_region_law (refine stp_app1 T_int (B := w.heap.size) (W := wr.drew.alloc (.cells #[.int .i64 ((b : Int) - (a : Int))] tI)) (u := .int .i64 ((b : Int) - (a : Int))) (ad := ⟨wr.heap.size, 0, none⟩) (HO.out.1.below (((Below.refl _ _).drew).alloc (Nat.le_refl _) _)) (by have := HLE.out; clear hw1 hw1' hw2 hw2'; omega) (by clear hw1 hw1' hw2 hw2'; simp; omega) (by rfl) rfl (by rfl) (by rfl) (by rfl) ((Blk.new wr.drew _ _).cell 0) ?_; intro v7 w7 hown7 hgr7)
      all_goals
        have HN7 := Lib.hid (own_pushed HO.out.2 hz64 hown7 HUZ.out)
        have hbd : Below wr.heap.size wr (wr.drew.alloc (.cells #[.int .i64 ((b : Int) - (a : Int))] tI)) := ((Below.refl _ _).drew).alloc (Nat.le_refl _) _
        have HB7 := Lib.hid (hgr7.below (HB.out.trans (hbd.mono hB)) (by clear hw1 hw1' hw2 hw2'; simp; omega) HO.out.1.ge)
        clear hown7 hgr7 hbd hcb hcn hw1 hw1'
        go_wp2_with fail
        go_roundw
        case rel =>
          clear hw2 hw2'
          have h := HN7.out
          rw [← HTS.out] at h
          have hi := HI.out
          exact ⟨j + 1, by omega, by rw [← hi]; go_num, h, HB7.out⟩
        case measure => clear hw2 hw2'; have hi := HI.out; simp [intOf]; omega
    · have hje : N + j = endN t N := by omega
      obtain ⟨X1, hx1, hi1⟩ := ints_to HA.out N ((N : Nat) : Int) rfl (by rw [up_len]; omega)
      obtain ⟨X2, hx2, hi2⟩ := ints_from HA.out (endN t N) ((endN t N : Nat) : Int) rfl (by rw [up_len]; exact he2)
      rw [up_take] at hi1
      rw [up_len, up_drop] at hi2
      rw [up_len] at hx2
      have hb0 : Below wr.heap.size wr wr.drew := (Below.refl wr.heap.size wr).drew
      have HX1 := Lib.hid (hi1.below HB.out)
      have HX2 := Lib.hid (hi2.below HB.out)
      have HBL := Lib.hid (show (braL t N).length = j from by unfold braL; rw [List.length_drop, List.length_take]; omega)
      have HTB := Lib.hid (show (braL t N).take j = braL t N from List.take_of_length_le (by rw [HBL.out]; exact Nat.le_refl _))
      have HTK := Lib.hid (show (t.take N).length ≤ 100 from by rw [List.length_take]; have := HK.out.1; omega)
      have HDL := Lib.hid (show (t.drop (endN t N)).length ≤ 100 from by rw [List.length_drop]; have := HK.out.1; omega)
      have HSB := Lib.hid (show ((braL t N).map fun x => x - a).length ≤ 1000 ∧ ∀ l ∈ (braL t N).map (fun x => x - a), l ≤ 1000000 from by
        refine ⟨by rw [List.length_map, HBL.out]; have := HK.out.1; omega, fun l hl => ?_⟩
        obtain ⟨x, hx, rfl⟩ := List.mem_map.1 hl
        have := HK.out.2 x (List.mem_of_mem_take (List.mem_of_mem_drop hx)); omega)
      have HST := Lib.hid (show (t.take N ++ t.drop (endN t N)).length ≤ 1000 ∧ ∀ l ∈ t.take N ++ t.drop (endN t N), l ≤ 1000000 from by
        refine ⟨by rw [List.length_append]; have := HTK.out; have := HDL.out; omega, fun l hl => ?_⟩
        rcases List.mem_append.1 hl with hl | hl
        · have := HK.out.2 l (List.mem_of_mem_take hl); omega
        · have := HK.out.2 l (List.mem_of_mem_drop hl); omega)
      have hji : ¬ (((N + j : Nat) : Int) < (endN t N : Nat)) := by omega
      have ho := HO.out
      rw [HTB.out] at ho
      have HQ := Lib.hid ho
      have HBC := Lib.hid hb0
      clear ho HO
      generalize hi : N + j = i at *
      clear hi hje hi1 hi2 hcz hb0
      go_wp2_with fail
      go_region_law (first
        | (go_simp; go_at_call 158; refine (s_l01OwnT _ _ (up (t.take N)) (HX1.out.below HBC.out) (by rw [up_len]; have := HTK.out; omega)).mono ?_; rintro e w5 ⟨x5, rfl, ho5, hb5⟩; (try (have HAP := Lib.hid (apart_of_lt HC2.out.1.lt ho5.1.ge))); have HO5 := Lib.hid (ho5.mono HBC.out.size); (try (have HC2 := Lib.hid (HC2.out.below hb5))); have HBC := Lib.hid (HBC.out.trans (hb5.mono HBC.out.size)); clear ho5 hb5)
        | (go_simp; have hgo := HN7; clear hgo; go_at_call 179; with_reducible refine (s_l03Canon 9 _ v7 _ a' HN7.out.ints HU.out HST.out.1 HST.out.2).mono ?_; rintro e w8 ⟨x8, rfl, ho8, hb8⟩; have HC1 := Lib.hid (ho8.mono HBC.out.size); (try (have HC2 := Lib.hid (HC2.out.below hb8))); have HBC := Lib.hid (HBC.out.trans (hb8.mono HBC.out.size)); clear ho8 hb8)
        | (go_simp; go_at_call 179; with_reducible refine (s_l03Canon 9 _ _ _ b' (HQ.out.below HBC.out).ints HV.out HSB.out.1 HSB.out.2).mono ?_; rintro e w9 ⟨x9, rfl, ho9, hb9⟩; (try (have HAP := Lib.hid (apart_of_lt HO5.out.1.lt ho9.1.ge).symm)); have HC2 := Lib.hid (ho9.mono HBC.out.size); (try (have HO5 := Lib.hid (HO5.out.below hb9))); (try (have HN7 := Lib.hid (HN7.out.below hb9))); (try (have HC1 := Lib.hid (HC1.out.below hb9))); have HBC := Lib.hid (HBC.out.trans (hb9.mono HBC.out.size)); clear ho9 hb9)
        | (have hgo := HO5; clear hgo; go_loud (refine stp_appN T_int HO5.out.1 (HX2.out.below HBC.out).1 (by have h1 := HTK.out; have h2 := HDL.out; rw [ints_len, ints_len, up_len, up_len]; omega) HBC.out.size (ints_oneT _) (by rfl) rfl (by rfl) (by rfl) ?_; intro v7 w7 hown7 hgr7; have HN7 := Lib.hid (show OwnInts w7 wr.heap.size tI v7 (up (t.take N ++ t.drop (endN t N))) from by rw [up_append]; exact ⟨by simpa [ints] using hown7, fun y hy => by rcases List.mem_append.1 hy with hy | hy; exact HO5.out.2 y hy; exact HX2.out.2 y hy⟩); (try (have HC2 := Lib.hid (HC2.out.kept hgr7.1 HAP.out))); have HBC := Lib.hid (hgr7.below HBC.out HBC.out.size HO5.out.1.ge); clear HO5 hown7 hgr7)))
      all_goals
        go_wp2_with fail
        go_ret2
        exact ⟨_, _, rfl, HC1.out.mono HB.out.size, HC2.out.mono HB.out.size, HB.out.trans (HBC.out.mono HB.out.size)⟩
end Go.Proofs.YtdjhfeaimmpmhaaGreat

set_option maxRecDepth 100000
set_option linter.unusedVariables false
set_option linter.unusedSimpArgs false
namespace Go.Proofs.YtdjhfeaimmpmhaaGreat
open Go.RowKit

set_option maxHeartbeats 16000000 in
theorem s_l04Turn : ∀ (f : Nat) (w : World) (v : Value) (t r : List Nat) (node : Nat), Ints w v (up t) → turV f t node = some r →
    Calls Tryz.prog 174 #[v, .int .i64 node] w fun e w' => ∃ x, e = .returned x ∧ OwnInts w' w.heap.size tI x (up r) ∧ Below w.heap.size w w' := by
  intro f
  induction f with
  | zero => intro w v t r node _ h; cases h
  | succ f ih =>
    intro w v t r node ha hr
    obtain ⟨A, c, rfl, l1, l2, h3⟩ := ha.open_
    rw [up_len] at l1 h3 ha ⊢
    have HA := Lib.hid ha
    have IH := Lib.hid ih
    clear ha ih
    cases node with
    | zero =>
      rw [turV] at hr
      cases hk : okL t with
      | false => rw [hk] at hr; cases hr
      | true =>
        rw [hk] at hr
        have HR := Lib.hid (show canO 9 t = some r from hr)
        have HK := Lib.hid (okL_of hk)
        clear hr hk h3
        go_enter Tryz.func174, Tryz.ntmps174
        go_wp2_with (first
          | (go_at_call 179; refine (s_l03Canon 9 _ _ t r HA.out HR.out (by have := HK.out.1; omega) (fun l hl => by have := HK.out.2 l hl; omega)).mono ?_; rintro e w1 ⟨x1, rfl, hx1, hb1⟩; have HX1 := Lib.hid hx1; have HB1 := Lib.hid hb1; clear hx1 hb1))
        go_ret
        exact ⟨_, rfl, HX1.out, HB1.out⟩
    | succ nd =>
      obtain ⟨hk, hn, hge, P, q, hP, hq, hkq, hrr⟩ := turV_succ hr
      obtain ⟨N, hN⟩ : ∃ N, N = nd + 1 := ⟨_, rfl⟩
      rw [← hN] at hn hge hP hq hrr ⊢
      clear hr
      have hk2 := okL_of hk
      obtain ⟨he1, he2⟩ := endN_le hn
      obtain ⟨ad, z, rfl, hz, -, hcz⟩ := h3 N hn
      obtain ⟨a, hla, rfl⟩ := up_getD hz
      have hga : t.getD N 0 = a := by simp [List.getD, hla]
      rw [hga] at hP hge hrr
      have ha1 := hk2.2 a (List.mem_of_getElem? hla)
      have H3 := Lib.hid h3
      have HK := Lib.hid hk2
      have HGE := Lib.hid (allGe_of hge)
      have HQ := Lib.hid hq
      have HKQ := Lib.hid (okL_of hkq)
      have HRR := Lib.hid hrr
      have HP := Lib.hid hP
      have HPL := Lib.hid (parV_lt hP)
      have HEN := Lib.hid (s_l04End w _ t N HA.out hn (by have := hk2.1; omega))
      have hw1 : IntKind.i64.wrap ((N : Int) - 1) = (nd : Int) := by rw [IntWalk.i64_in _ (by omega)]; omega
      have HW2 := Lib.hid (show -9223372036854775808 ≤ (a : Int) - 1 ∧ (a : Int) - 1 ≤ 9223372036854775807 from by omega)
      have hni : (N : Int) < (t.length : Int) := by omega
      have hn0 : (0 : Int) ≤ (N : Int) := by omega
      have hne0 : decide ((N : Int) = 0) = false := by simp; omega
      have hne : ¬ ((N : Int) = 0) := by omega
      have HNE := Lib.hid hN
      clear hN hk hge hq hkq hrr hP hk2 h3 hz hla
      go_enter Tryz.func174, Tryz.ntmps174
      go_wp2_with fail
      go_loopw [5] (fun x wr => ∃ p d : Nat, p + 1 ≤ N ∧ x = .int .i64 p ∧ Hid (parV t a (p + 1) = some P) ∧ wr = w.drewN d) (fun x _ => (intOf x).toNat)
      case atStart => exact ⟨nd, 0, by have := HNE.out; omega, by go_num, by rw [← HNE.out]; exact HP.out, rfl⟩
      case round =>
        obtain ⟨p, d, hpn, rfl, HPP, rfl⟩ := hrel
        obtain ⟨ad', z, hae, hz, -, hce⟩ := H3.out p (by omega)
        injection hae with hae
        subst hae
        obtain ⟨b, hlb, rfl⟩ := up_getD hz
        have hgb : t.getD p 0 = b := by simp [List.getD, hlb]
        have hb1 := HK.out.2 b (List.mem_of_getElem? hlb)
        have hpi : (p : Int) < (t.length : Int) := by omega
        have hp0 : (0 : Int) ≤ (p : Int) := by omega
        have hpp := HPP.out
        rw [parV, hgb] at hpp
        clear hz hlb hgb HPP
        by_cases hab : b + 1 = a
        · have hbeq : Nat.beq (b + 1) a = true := by rw [hab]; exact Nat.beq_refl a
          rw [hbeq] at hpp
          have hpP : p = P := by cases hpp; rfl
          have hd1 : decide ((b : Int) = (a : Int) - 1) = true := by simp; omega
          have hd2 : (b : Int) = (a : Int) - 1 := by omega
          clear hpp hbeq
          subst hpP
          have hw2 := IntWalk.i64_in _ HW2.out
          have hw2' := w64_in' _ HW2.out
          go_wp2_with fail
          go_quiet (fail)
          clear hw2 hw2' hd1 hd2
          go_wp2_with (first
            | (go_at_call 178; refine (s_l04End _ _ t N (HA.out.drewN _) (by assumption) (by have := HK.out.1; omega)).mono ?_; rintro e w1 ⟨rfl, n1, rfl⟩))
          clear hn0 hni hne0 hne hw1
          go_loopw [7, 8] (fun o x wr => ∃ j : Nat, N + j ≤ endN t N ∧ x = .int .i64 (N + j : Nat) ∧ OwnInts wr w.heap.size tI o (up (((braL t N).take j).map fun x => x - a)) ∧ Below w.heap.size w wr) (fun _ x _ => endN t N - (intOf x).toNat)
          case atStart =>
            refine ⟨0, by omega, by go_num, ?_, ?_⟩
            · exact ⟨by simpa [up, ints] using own_lit (w.drewN _) tI [] (by simp [maxLen]), by simp [up]⟩
            · exact (below_drewN (Below.refl w.heap.size w) _).alloc (Nat.le_refl _) _
          case round =>
            obtain ⟨j, hj, rfl, ho, hb⟩ := hrel
            have HO := Lib.hid ho
            have HB := Lib.hid hb
            clear ho hb
            by_cases hlt : N + j < endN t N
            · obtain ⟨av, zb, hae, hzb, -, hcb0⟩ := H3.out (N + j) (by omega)
              injection hae with hae
              subst hae
              obtain ⟨b, hlb, rfl⟩ := up_getD hzb
              have hcb : wr.cell? (ad.add (N + j)) = some (.int .i64 (b : Int)) := by
                rw [HB.out.cell (by rw [block_add]; have := World.block_lt_of_cell? w _ hcb0; rwa [block_add] at this)]; exact hcb0
              have hcn : wr.cell? (ad.add N) = some (.int .i64 (a : Int)) := by
                rw [HB.out.cell (by rw [block_add]; have := World.block_lt_of_cell? w _ hcz; rwa [block_add] at this)]; exact hcz
              have hbr : (braL t N)[j]? = some b := by
                unfold braL
                rw [List.getElem?_drop, List.getElem?_take_of_lt hlt]; exact hlb
              have hba := HGE.out b (List.mem_of_getElem? hbr)
              have hb1 := HK.out.2 b (List.mem_of_getElem? hlb)
              have hNi : (N : Int) < (t.length : Int) := by omega
              have hN0 : (0 : Int) ≤ (N : Int) := by omega
              have hji : ((N + j : Nat) : Int) < (t.length : Int) := by omega
              have hj0 : (0 : Int) ≤ ((N + j : Nat) : Int) := by omega
              have hjE : ((N + j : Nat) : Int) < (endN t N : Nat) := by omega
              have hbd1 : -9223372036854775808 ≤ (b : Int) - (a : Int) ∧ (b : Int) - (a : Int) ≤ 9223372036854775807 := by omega
              have hbd2 : -9223372036854775808 ≤ ((N + j : Nat) : Int) + 1 ∧ ((N + j : Nat) : Int) + 1 ≤ 9223372036854775807 := by omega
              have hz64 : In64 ((b : Int) - (a : Int)) := by unfold In64; omega
              have HTS := Lib.hid (show ((braL t N).take (j + 1)).map (fun x => x - a) = ((braL t N).take j).map (fun x => x - a) ++ [b - a] from by rw [List.take_add_one, hbr]; simp)
              have HUZ := Lib.hid (show up [b - a] = [(b : Int) - (a : Int)] from by simp [up]; omega)
              have HLE := Lib.hid (show (ints (up (((braL t N).take j).map fun x => x - a))).length ≤ 1000 from by
                rw [ints_len, up_len, List.length_map, List.length_take]; have := HK.out.1; omega)
              have hB := HB.out.size
              have hw1 := w64_in' _ hbd1
              have hw1' := IntWalk.i64_in _ hbd1
              have hw2 := w64_in' _ hbd2
              have hw2' := IntWalk.i64_in _ hbd2
              clear hbd1 hbd2 hcb0 hzb hlb
              generalize hi : N + j = i at *
              have HI := Lib.hid hi
              clear hi
              go_wp2_with fail
              go_region_law (refine stp_app1 T_int (B := w.heap.size) (W := wr.drew.alloc (.cells #[.int .i64 ((b : Int) - (a : Int))] tI)) (u := .int .i64 ((b : Int) - (a : Int))) (ad := ⟨wr.heap.size, 0, none⟩) (HO.out.1.below (((Below.refl _ _).drew).alloc (Nat.le_refl _) _)) (by have := HLE.out; clear hw1 hw1' hw2 hw2'; omega) (by clear hw1 hw1' hw2 hw2'; simp; omega) (by rfl) rfl (by rfl) (by rfl) (by rfl) ((Blk.new wr.drew _ _).cell 0) ?_; intro v7 w7 hown7 hgr7)
              all_goals
                have HN7 := Lib.hid (own_pushed HO.out.2 hz64 hown7 HUZ.out)
                have hbd : Below wr.heap.size wr (wr.drew.alloc (.cells #[.int .i64 ((b : Int) - (a : Int))] tI)) := ((Below.refl _ _).drew).alloc (Nat.le_refl _) _
                have HB7 := Lib.hid (hgr7.below (HB.out.trans (hbd.mono hB)) (by clear hw1 hw1' hw2 hw2'; simp; omega) HO.out.1.ge)
                clear hown7 hgr7 hbd hcb hcn hw1 hw1'
                go_wp2_with fail
                go_roundw
                case rel =>
                  clear hw2 hw2'
                  have h := HN7.out
                  rw [← HTS.out] at h
                  have hi := HI.out
                  exact ⟨j + 1, by omega, by rw [← hi]; go_num, h, HB7.out⟩
                case measure => clear hw2 hw2'; have hi := HI.out; simp [intOf]; omega
            · have hje : N + j = endN t N := by omega
              obtain ⟨X1, hx1, hi1⟩ := ints_to HA.out N ((N : Nat) : Int) rfl (by rw [up_len]; omega)
              obtain ⟨X2, hx2, hi2⟩ := ints_from HA.out (endN t N) ((endN t N : Nat) : Int) rfl (by rw [up_len]; exact he2)
              rw [up_take] at hi1
              rw [up_len, up_drop] at hi2
              rw [up_len] at hx2
              have HI1 := Lib.hid (hi1.below HB.out)
              have HI2 := Lib.hid (hi2.below HB.out)
              have HBL := Lib.hid (show (braL t N).length = j from by unfold braL; rw [List.length_drop, List.length_take]; omega)
              have HTB := Lib.hid (show (braL t N).take j = braL t N from List.take_of_length_le (by rw [HBL.out]; exact Nat.le_refl _))
              have HTK := Lib.hid (show (t.take N).length ≤ 100 from by rw [List.length_take]; have := HK.out.1; omega)
              have HDL := Lib.hid (show (t.drop (endN t N)).length ≤ 100 from by rw [List.length_drop]; have := HK.out.1; omega)
              have hji : ¬ (((N + j : Nat) : Int) < (endN t N : Nat)) := by omega
              generalize hi : N + j = i at *
              have HI := Lib.hid hi
              have HJE := Lib.hid hje
              clear hi hje hi1 hi2 hcz
              go_wp2_with fail
              go_region_law (first
                | (go_simp; go_at_call 158; refine (s_l01OwnT _ _ (up (t.take N)) (HI1.out.below (Below.refl wr.heap.size wr).drew) (by rw [up_len]; have := HTK.out; omega)).mono ?_; rintro e w5 ⟨x5, rfl, ho5, hb5⟩; have HO5 := Lib.hid ho5; have HB5 := Lib.hid hb5; clear ho5 hb5)
                | (refine stp_appN T_int HO5.out.1 ((HI2.out.below (Below.refl wr.heap.size wr).drew).below HB5.out).1 (by have h1 := HTK.out; have h2 := HDL.out; rw [ints_len, ints_len, up_len, up_len]; omega) HB5.out.size (ints_oneT _) (by rfl) rfl (by rfl) (by rfl) ?_; intro v7 w7 hown7 hgr7))
              all_goals
                have HN7 := Lib.hid (show OwnInts w7 wr.heap.size tI v7 (up (t.take N ++ t.drop (endN t N))) from by rw [up_append]; exact ⟨by simpa [ints] using hown7, fun y hy => by rcases List.mem_append.1 hy with hy | hy; exact HI1.out.2 y hy; exact HI2.out.2 y hy⟩)
                have HB7 := Lib.hid (HB.out.trans ((hgr7.below ((Below.refl wr.heap.size wr).drew.trans HB5.out) HB5.out.size HO5.out.1.ge).mono HB.out.size))
                have HOR := Lib.hid (HO.out.below (hgr7.below ((Below.refl wr.heap.size wr).drew.trans HB5.out) HB5.out.size HO5.out.1.ge))
                clear hown7 hgr7
                rw [HTB.out] at HOR
                go_wp2_with (first
                  | (go_at_call 174; refine (IH.out _ _ _ q p HN7.out.ints HQ.out).mono ?_; rintro e w8 ⟨x8, rfl, ho8, hb8⟩; have HO8 := Lib.hid ho8; have HB8 := Lib.hid hb8; clear ho8 hb8)
                  | (go_at_call 130; (refine (s_l04Graft _ _ _ ((braL t N).map fun x => x - a) q r 0 (HOR.out.below HB8.out).ints HO8.out.ints (by rw [List.length_map, HBL.out]; have := HJE.out; have := HI.out; omega) (by rw [List.length_map, HBL.out]; have := HJE.out; have := HI.out; have := HK.out.1; omega) HKQ.out.1 (fun l hl => by obtain ⟨x, hx, rfl⟩ := List.mem_map.1 hl; have := HK.out.2 x (List.mem_of_mem_take (List.mem_of_mem_drop hx)); omega) HKQ.out.2 HRR.out).mono ?_; rintro e w9 ⟨x9, rfl, ho9, hb9⟩; have HO9 := Lib.hid ho9; have HB9 := Lib.hid hb9; clear ho9 hb9)))
                go_ret
                exact ⟨_, rfl, HO9.out.mono (Nat.le_trans HB7.out.size HB8.out.size), (HB7.out.trans (HB8.out.mono HB7.out.size)).trans (HB9.out.mono (Nat.le_trans HB7.out.size HB8.out.size))⟩
        · have hbeq : Nat.beq (b + 1) a = false := by
            cases h : Nat.beq (b + 1) a with
            | true => exact absurd (Nat.eq_of_beq_eq_true h) hab
            | false => rfl
          rw [hbeq] at hpp
          have hpp' : parV t a p = some P := hpp
          have hp1 : 0 < p := by
            cases p with
            | zero => cases hpp'
            | succ p => omega
          obtain ⟨p', hp'⟩ : ∃ p', p = p' + 1 := ⟨p - 1, by omega⟩
          have HPP2 := Lib.hid (show parV t a (p' + 1) = some P from by rw [← hp']; exact hpp')
          have hd1 : decide ((b : Int) = (a : Int) - 1) = false := by simp; omega
          have hd2 : ¬ ((b : Int) = (a : Int) - 1) := by omega
          have hw3 : IntKind.i64.wrap ((p : Int) - 1) = (p' : Int) := by rw [IntWalk.i64_in _ (by omega)]; omega
          have HPE := Lib.hid hp'
          clear hpp hpp' hbeq hp'
          have hw2 := IntWalk.i64_in _ HW2.out
          have hw2' := w64_in' _ HW2.out
          go_wp2_with fail
          go_quiet (fail)
          go_wp2_with fail
          go_roundw
          case rel => clear hw2 hw2'; exact ⟨p', _, by have := HPE.out; omega, by go_num, HPP2.out, by first | rfl | exact World.drewN_drewN ..⟩
          case measure => clear hw2 hw2' hw3; have := HPE.out; simp [intOf]; omega
end Go.Proofs.YtdjhfeaimmpmhaaGreat

set_option maxRecDepth 100000
set_option linter.unusedVariables false
set_option linter.unusedSimpArgs false
namespace Go.Proofs.YtdjhfeaimmpmhaaGreat
open Go.RowKit

theorem dblV_succ {t : List Nat} {f n : Nat} {r : Bool} (h : dblV t (f + 1) n = some r) : ∃ b, dblA t n = some b ∧ ((b = true ∧ r = true) ∨ (b = false ∧ dblV t f (n + 1) = some r)) := by
  rw [dblV] at h
  cases hb : dblA t n with
  | none => rw [hb] at h; cases h
  | some b =>
    rw [hb] at h
    cases b with
    | true => injection h with h; exact ⟨true, rfl, .inl ⟨rfl, h.symm⟩⟩
    | false => exact ⟨false, rfl, .inr ⟨rfl, h⟩⟩

set_option maxHeartbeats 16000000 in
theorem s_l04Double (w : World) (v : Value) (t : List Nat) (r : Bool) (ha : Ints w v (up t)) (h0 : 0 < t.length) (h8 : t.length ≤ 100) (hr : dblV t (t.length - 1) 1 = some r) :
    Calls Tryz.prog 181 #[v] w fun e w' => e = .returned (.bool r) ∧ Below w.heap.size w w' := by
  obtain ⟨A, c, rfl, l1, l2, h3⟩ := ha.open_
  rw [up_len] at l1 h3 ha ⊢
  have HA := Lib.hid ha
  have H3 := Lib.hid h3
  have HR := Lib.hid hr
  clear ha h3 hr
  go_enter Tryz.func181, Tryz.ntmps181
  go_wp2_with fail
  go_loopw [3] (fun x wr => ∃ N : Nat, 1 ≤ N ∧ N ≤ t.length ∧ x = .int .i64 N ∧ Hid (dblV t (t.length - N) N = some r) ∧ Below w.heap.size w wr) (fun x _ => t.length - (intOf x).toNat)
  case atStart => exact ⟨1, Nat.le_refl _, h0, by go_num, HR.out, Below.refl _ _⟩
  case round =>
    obtain ⟨N, h1N, hN, rfl, HD, hb⟩ := hrel
    have HB := Lib.hid hb
    clear hb
    by_cases hlt : N < t.length
    · have hd := HD.out
      rw [show t.length - N = (t.length - (N + 1)) + 1 by omega] at hd
      obtain ⟨b, hda, hcs⟩ := dblV_succ hd
      obtain ⟨hk, -, hge, u, x, P, hu, hx, hP, hcase⟩ := dblA_some hda
      have hk2 := okL_of hk
      obtain ⟨he1, he2⟩ := endN_le hlt
      obtain ⟨ad, z, rfl, hz, -, hcz⟩ := H3.out N hlt
      obtain ⟨a, hla, rfl⟩ := up_getD hz
      have hga : t.getD N 0 = a := by simp [List.getD, hla]
      have ha1 := hk2.2 a (List.mem_of_getElem? hla)
      have HK := Lib.hid hk2
      have HOK := Lib.hid hk
      have HGE := Lib.hid hge
      have HU := Lib.hid hu
      have HX := Lib.hid hx
      rw [hga] at hP
      have HP := Lib.hid hP
      have HCASE := Lib.hid hcase
      have HCS := Lib.hid hcs
      obtain ⟨nd, hnd⟩ : ∃ nd, N = nd + 1 := ⟨N - 1, by omega⟩
      have HND := Lib.hid hnd
      have hw1 : IntKind.i64.wrap ((N : Int) - 1) = (nd : Int) := by rw [IntWalk.i64_in _ (by omega)]; omega
      have HW2 := Lib.hid (show -9223372036854775808 ≤ (a : Int) - 1 ∧ (a : Int) - 1 ≤ 9223372036854775807 from by omega)
      have hni : (N : Int) < (t.length : Int) := by omega
      have hn0 : (0 : Int) ≤ (N : Int) := by omega
      have HCN := Lib.hid (show ∀ W : World, Below w.heap.size w W → W.cell? (ad.add N) = some (.int .i64 (a : Int)) from fun W hW => by
        rw [hW.cell (by rw [block_add]; have := World.block_lt_of_cell? w _ hcz; rwa [block_add] at this)]; exact hcz)
      clear hd hda hk hge hu hx hP hcase hcs hk2 hla hz hga hcz HD hnd
      go_upto_block 2 with (first
        | (go_at_call 215; with_reducible refine (s_l04Cut _ _ t u x N (HA.out.below HB.out) HOK.out hlt HGE.out HU.out HX.out).mono ?_; rintro e w1 ⟨x1, y1, rfl, ho1, ho2, hb1⟩; obtain ⟨A1, c1, he1, -, -, -⟩ := ho1.ints.open_; rw [up_len] at he1; subst he1; obtain ⟨A2, c2, he2', -, -, -⟩ := ho2.ints.open_; rw [up_len] at he2'; subst he2'; have HO2 := Lib.hid ho2; have HB1 := Lib.hid (HB.out.trans (hb1.mono HB.out.size)); have HSZ := Lib.hid (Nat.le_trans HB.out.size hb1.size); clear ho1 ho2 hb1))
      go_wp2_with fail
      go_loopw [6] (fun x wr' => ∃ p d : Nat, p + 1 ≤ N ∧ x = .int .i64 p ∧ Hid (parV t a (p + 1) = some P) ∧ wr' = w1.drewN d) (fun x _ => (intOf x).toNat)
      case atStart => exact ⟨nd, 0, by have := HND.out; omega, by go_num, by rw [← HND.out]; exact HP.out, rfl⟩
      case round =>
        obtain ⟨p, d, hpn, rfl, HPP, rfl⟩ := hrel
        obtain ⟨ad', z, hae, hz, -, hce0⟩ := H3.out p (by omega)
        injection hae with hae
        subst hae
        obtain ⟨b', hlb, rfl⟩ := up_getD hz
        have hce := keepCell HB1.out hce0
        have hcz := HCN.out w1 HB1.out
        have hgb : t.getD p 0 = b' := by simp [List.getD, hlb]
        have hb1 := HK.out.2 b' (List.mem_of_getElem? hlb)
        have hpi : (p : Int) < (t.length : Int) := by omega
        have hp0 : (0 : Int) ≤ (p : Int) := by omega
        have hpp := HPP.out
        rw [parV, hgb] at hpp
        clear hz hlb hgb HPP hce0
        by_cases hab : b' + 1 = a
        · have hbeq : Nat.beq (b' + 1) a = true := by rw [hab]; exact Nat.beq_refl a
          rw [hbeq] at hpp
          have hpP : p = P := by cases hpp; rfl
          have hd1 : decide ((b' : Int) = (a : Int) - 1) = true := by simp; omega
          have hd2 : (b' : Int) = (a : Int) - 1 := by omega
          clear hpp hbeq
          subst hpP
          have hw2 := IntWalk.i64_in _ HW2.out
          have hw2' := w64_in' _ HW2.out
          go_wp2_with fail
          go_quiet (fail)
          clear hw2 hw2' hd1 hd2 hcz hce
          obtain ⟨X1, hx1, hi1⟩ := ints_to HA.out N ((N : Nat) : Int) rfl (by rw [up_len]; omega)
          obtain ⟨X2, hx2, hi2⟩ := ints_from HA.out (endN t N) ((endN t N : Nat) : Int) rfl (by rw [up_len]; exact he2)
          rw [up_take] at hi1
          rw [up_len, up_drop] at hi2
          rw [up_len] at hx2
          have HI1 := Lib.hid hi1
          have HI2 := Lib.hid hi2
          have HTK := Lib.hid (show (t.take N).length ≤ 100 from by rw [List.length_take]; omega)
          have HDL := Lib.hid (show (t.drop (endN t N)).length ≤ 100 from by rw [List.length_drop]; omega)
          clear hi1 hi2
          go_wp2_with (first
            | (go_at_call 178; with_reducible refine (s_l04End _ _ t N ((HA.out.below HB1.out).drewN _) hlt (by omega)).mono ?_; rintro e w2 ⟨rfl, n1, rfl⟩))
          generalize d + nq + n1 = dq
          obtain ⟨wq, hwq⟩ : ∃ wq : World, wq = w1.drewN dq := ⟨_, rfl⟩
          have HBQ := Lib.hid (show Below w.heap.size w wq from by rw [hwq]; exact below_drewN HB1.out dq)
          have HO2q := Lib.hid (show OwnInts wq wr.heap.size tI (.slice A2 x.length c2) (up x) from by rw [hwq]; exact HO2.out.below (below_drewN (Below.refl w1.heap.size w1) dq))
          rw [← hwq]
          clear hwq
          go_region_law (first
            | (go_simp; go_at_call 158; refine (s_l01OwnT _ _ (up (t.take N)) ((HI1.out.below HBQ.out).below (Below.refl wq.heap.size wq).drew) (by rw [up_len]; have := HTK.out; omega)).mono ?_; rintro e w5 ⟨x5, rfl, ho5, hb5⟩; have HO5 := Lib.hid ho5; have HB5 := Lib.hid hb5; clear ho5 hb5)
            | (refine stp_appN T_int HO5.out.1 (((HI2.out.below HBQ.out).below (Below.refl wq.heap.size wq).drew).below HB5.out).1 (by have h1 := HTK.out; have h2 := HDL.out; rw [ints_len, ints_len, up_len, up_len]; omega) HB5.out.size (ints_oneT _) (by rfl) rfl (by rfl) (by rfl) ?_; intro v7 w7 hown7 hgr7))
          all_goals
            have HN7 := Lib.hid (show OwnInts w7 wq.heap.size tI v7 (up (trkL t N)) from by unfold trkL; rw [up_append]; exact ⟨by simpa [ints] using hown7, fun y hy => by rcases List.mem_append.1 hy with hy | hy; exact HI1.out.2 y hy; exact HI2.out.2 y hy⟩)
            have hb7 : Below wq.heap.size wq w7 := hgr7.below ((Below.refl wq.heap.size wq).drew.trans HB5.out) HB5.out.size HO5.out.1.ge
            have HB7 := Lib.hid (HBQ.out.trans (hb7.mono HBQ.out.size))
            have HO7 := Lib.hid (HO2q.out.below hb7)
            clear hown7 hgr7 hb7
            rcases HCASE.out with ⟨hne, hbF⟩ | ⟨heq, q, hq, hoq, hox, hbE⟩
            · have HDF := Lib.hid (show dblV t (t.length - (N + 1)) (N + 1) = some r from by
                rcases HCS.out with ⟨h1, h2⟩ | ⟨h1, h2⟩
                · rw [hbF] at h1; cases h1
                · exact h2)
              have hl1 : ((u.length : Int) == (x.length : Int)) = false := by simp; omega
              clear hne hbF
              go_wp2_with fail
              go_roundw
              case rel => exact ⟨N + 1, by omega, by omega, by go_num, HDF.out, HB7.out⟩
              case measure => simp [intOf]; omega
            · have hl1 : ((u.length : Int) == (x.length : Int)) = true := by simp [heq]
              have HQ := Lib.hid hq
              have hqe : eqN q x = decide (up q = up x) := by
                by_cases e : q = x
                · rw [eqN_iff.2 e, e]; exact (decide_eq_true rfl).symm
                · have h1 : eqN q x = false := by
                    cases hh : eqN q x with
                    | true => exact absurd (eqN_iff.1 hh) e
                    | false => rfl
                  rw [h1]; exact (decide_eq_false fun h => e (up_inj h)).symm
              rw [hqe] at hbE
              have HSM := Lib.hid (fun W y => s_l01Same W y (.slice A2 x.length c2) (up q) (up x))
              rw [← hbE] at HSM
              clear hq hqe heq hoq hox
              rcases HCS.out with ⟨h1, h2⟩ | ⟨h1, h2⟩
              · rw [h1] at HSM
                have HRT := Lib.hid h2
                clear h1 h2 hbE
                go_wp2_with (first
                  | (go_at_call 174; with_reducible refine (s_l04Turn 9 _ _ (trkL t N) q p HN7.out.ints HQ.out).mono ?_; rintro e w8 ⟨x8, rfl, ho8, hb8⟩; have HO8 := Lib.hid ho8; have HB8 := Lib.hid hb8; clear ho8 hb8)
                  | (go_at_call 135; with_reducible refine (HSM.out _ _ HO8.out.ints (HO7.out.below HB8.out).ints).mono ?_; rintro e w9 ⟨rfl, n9, rfl⟩))
                go_ret
                exact ⟨ret_bool HRT.out.symm, below_drewN (HB7.out.trans (HB8.out.mono HB7.out.size)) n9⟩
              · rw [h1] at HSM
                have HDF := Lib.hid h2
                clear h1 h2 hbE
                go_wp2_with (first
                  | (go_at_call 174; with_reducible refine (s_l04Turn 9 _ _ (trkL t N) q p HN7.out.ints HQ.out).mono ?_; rintro e w8 ⟨x8, rfl, ho8, hb8⟩; have HO8 := Lib.hid ho8; have HB8 := Lib.hid hb8; clear ho8 hb8)
                  | (go_at_call 135; with_reducible refine (HSM.out _ _ HO8.out.ints (HO7.out.below HB8.out).ints).mono ?_; rintro e w9 ⟨rfl, n9, rfl⟩))
                go_roundw
                case rel => exact ⟨N + 1, by omega, by omega, by go_num, HDF.out, below_drewN (HB7.out.trans (HB8.out.mono HB7.out.size)) n9⟩
                case measure => simp [intOf]; omega
        · have hbeq : Nat.beq (b' + 1) a = false := by
            cases h : Nat.beq (b' + 1) a with
            | true => exact absurd (Nat.eq_of_beq_eq_true h) hab
            | false => rfl
          rw [hbeq] at hpp
          have hpp' : parV t a p = some P := hpp
          have hp1 : 0 < p := by
            cases p with
            | zero => cases hpp'
            | succ p => omega
          obtain ⟨p', hp'⟩ : ∃ p', p = p' + 1 := ⟨p - 1, by omega⟩
          have HPP2 := Lib.hid (show parV t a (p' + 1) = some P from by rw [← hp']; exact hpp')
          have hd1 : decide ((b' : Int) = (a : Int) - 1) = false := by simp; omega
          have hd2 : ¬ ((b' : Int) = (a : Int) - 1) := by omega
          have hw3 : IntKind.i64.wrap ((p : Int) - 1) = (p' : Int) := by rw [IntWalk.i64_in _ (by omega)]; omega
          have HPE := Lib.hid hp'
          clear hpp hpp' hbeq hp'
          have hw2 := IntWalk.i64_in _ HW2.out
          have hw2' := w64_in' _ HW2.out
          go_wp2_with fail
          go_quiet (fail)
          go_wp2_with fail
          go_roundw
          case rel => clear hw2 hw2'; exact ⟨p', _, by have := HPE.out; omega, by go_num, HPP2.out, by first | rfl | exact World.drewN_drewN ..⟩
          case measure => clear hw2 hw2' hw3; have := HPE.out; simp [intOf]; omega
    · have hnl : N = t.length := by omega
      have HE := Lib.hid (show r = false from by have h := HD.out; rw [hnl, Nat.sub_self, dblV] at h; injection h with h; exact h.symm)
      go_wp2_with fail
      go_ret
      exact ⟨ret_bool HE.out.symm, HB.out⟩
end Go.Proofs.YtdjhfeaimmpmhaaGreat

