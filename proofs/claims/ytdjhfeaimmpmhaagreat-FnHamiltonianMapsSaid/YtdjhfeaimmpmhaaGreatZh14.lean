/- Walks: l04End, l04Graft of the reference. | Walk: l04Graft of the reference. -/
import Derived.Test.YtdjhfeaimmpmhaaGreatZh13
set_option maxRecDepth 100000
set_option linter.unusedVariables false
set_option linter.unusedSimpArgs false
namespace Go.Proofs.YtdjhfeaimmpmhaaGreat
open Go.RowKit

theorem runN_le (a : Nat) : ∀ ls : List Nat, runN a ls ≤ ls.length
  | [] => Nat.le_refl _
  | l :: ls => by rw [runN]; cases Nat.blt a l <;> simp [runN_le a ls]
theorem endN_le {t : List Nat} {node : Nat} (h : node < t.length) : node + 1 ≤ endN t node ∧ endN t node ≤ t.length := by
  unfold endN
  have := runN_le (t.getD node 0) (t.drop (node + 1))
  rw [List.length_drop] at this
  omega

set_option maxHeartbeats 4000000 in
theorem s_l04End (w : World) (v : Value) (t : List Nat) (node : Nat) (ha : Ints w v (up t)) (hn : node < t.length) (h8 : t.length ≤ 1000) :
    Calls Tryz.prog 178 #[v, .int .i64 node] w fun e w' => e = .returned (.int .i64 (endN t node : Nat)) ∧ ∃ n, w' = w.drewN n := by
  obtain ⟨A, c, rfl, l1, l2, h3⟩ := ha.open_
  rw [up_len] at l1 h3 ⊢
  obtain ⟨ad, z, rfl, hz, -, hcz⟩ := h3 node hn
  obtain ⟨a, hl, rfl⟩ := up_getD hz
  have H3 := Lib.hid h3
  have HE := Lib.hid (show endN t node = node + 1 + runN a (t.drop (node + 1)) from by unfold endN; simp [List.getD, hl])
  rw [HE.out]
  have hw1 : IntKind.i64.wrap ((node : Int) + 1) = (node : Int) + 1 := IntWalk.i64_in _ (by omega)
  have hni : (node : Int) < (t.length : Int) := by omega
  have hn0 : (0 : Int) ≤ (node : Int) := by omega
  have HV := Lib.hid (rfl : node + 1 + runN a (t.drop (node + 1)) = node + 1 + runN a (t.drop (node + 1)))
  generalize hR : node + 1 + runN a (t.drop (node + 1)) = R
  have HR := Lib.hid hR
  clear hz hl h3 hR
  go_enter Tryz.func178, Tryz.ntmps178
  go_wp2_with fail
  go_loopw [5] (fun x wr => ∃ e nd : Nat, e ≤ t.length ∧ x = .int .i64 e ∧ Hid (e + runN a (t.drop e) = R) ∧ wr = w.drewN nd) (fun x _ => t.length - (intOf x).toNat)
  case atStart => exact ⟨node + 1, 0, hn, by go_num, HR.out, rfl⟩
  case round =>
    obtain ⟨e, nd, he, rfl, HQ, rfl⟩ := hrel
    by_cases hlt : e < t.length
    · obtain ⟨ad', z, hae, hz, -, hce⟩ := H3.out e hlt
      injection hae with hae
      subst hae
      obtain ⟨b, hb, rfl⟩ := up_getD hz
      have hei : (e : Int) < (t.length : Int) := by omega
      have hed : decide ((e : Int) < (t.length : Int)) = true := by simp; omega
      have he0 : (0 : Int) ≤ (e : Int) := by omega
      have hq := HQ.out
      have hbt : t[e]'hlt = b := by rw [List.getElem?_eq_getElem hlt] at hb; injection hb
      rw [List.drop_eq_getElem_cons hlt, hbt, runN] at hq
      clear hz hb hbt HQ
      by_cases hab : a < b
      · have hd1 : decide ((a : Int) < (b : Int)) = true := by simp; omega
        have hd2 : (a : Int) < (b : Int) := by omega
        have hblt : Nat.blt a b = true := (blt_iff _ _).2 hab
        rw [hblt] at hq
        have HQ2 := Lib.hid (show e + 1 + runN a (t.drop (e + 1)) = R from by simp only [cond_true] at hq; omega)
        clear hq hab hblt
        go_wp2_with fail
        go_quiet (fail)
        go_wp2_with fail
        go_roundw
        case rel => exact ⟨e + 1, _, by omega, by go_num, HQ2.out, by first | rfl | exact World.drewN_drewN ..⟩
        case measure => simp [intOf]; omega
      · have hd1 : decide ((a : Int) < (b : Int)) = false := by simp; omega
        have hd2 : ¬ ((a : Int) < (b : Int)) := by omega
        have hblt : Nat.blt a b = false := by
          cases h : Nat.blt a b with
          | true => exact absurd ((blt_iff _ _).1 h) hab
          | false => rfl
        rw [hblt] at hq
        have HQ2 := Lib.hid (show e = R from by simp only [cond_false] at hq; omega)
        clear hq hab hblt
        go_wp2_with fail
        go_quiet (fail)
        go_wp2_with fail
        go_ret
        exact ⟨ret_int (by rw [HQ2.out]), _, World.drewN_drewN ..⟩
    · have hee : e = t.length := by omega
      have hq := HQ.out
      rw [List.drop_eq_nil_of_le (by omega), runN] at hq
      have HQ2 := Lib.hid (show e = R from by omega)
      have hei : ¬ ((e : Int) < (t.length : Int)) := by omega
      have hed : decide ((e : Int) < (t.length : Int)) = false := by simp; omega
      have hed2 : ¬ (e < t.length) := by omega
      have hed3 : decide (e < t.length) = false := by simp; omega
      clear hq hee HQ
      go_wp2_with fail
      go_quiet (fail)
      go_wp2_with fail
      go_ret
      exact ⟨ret_int (by rw [HQ2.out]), _, World.drewN_drewN ..⟩
end Go.Proofs.YtdjhfeaimmpmhaaGreat

set_option maxRecDepth 100000
set_option linter.unusedVariables false
set_option linter.unusedSimpArgs false
namespace Go.Proofs.YtdjhfeaimmpmhaaGreat
open Go.RowKit

/-- the list that is grafted -/
def graL (u : List Nat) (node : Nat) (v : List Nat) : List Nat := u.take (endN u node) ++ (v.map fun x => u.getD node 0 + 1 + x) ++ u.drop (endN u node)
theorem w64_in' (n : Int) (h : -9223372036854775808 ≤ n ∧ n ≤ 9223372036854775807) : wrap64 n = n := by unfold wrap64; omega

set_option maxHeartbeats 8000000 in
theorem s_l04Graft (w : World) (vu vv : Value) (u v r : List Nat) (node : Nat) (hu : Ints w vu (up u)) (hv : Ints w vv (up v)) (hn : node < u.length) (hu8 : u.length ≤ 100) (hv8 : v.length ≤ 100) (hul : ∀ l ∈ u, l ≤ 1000) (hvl : ∀ l ∈ v, l ≤ 1000) (hr : canO 9 (graL u node v) = some r) :
    Calls Tryz.prog 130 #[vu, .int .i64 node, vv] w fun e w' => ∃ x, e = .returned x ∧ OwnInts w' w.heap.size tI x (up r) ∧ Below w.heap.size w w' := by
  obtain ⟨he1, he2⟩ := endN_le hn
  have HU := Lib.hid hu
  have HV := Lib.hid hv
  have HR := Lib.hid hr
  obtain ⟨A, c, rfl, l1, l2, h3⟩ := hu.open_
  obtain ⟨A2, c2, rfl, m1, m2, g3⟩ := hv.open_
  rw [up_len] at l1 h3 HU ⊢
  rw [up_len] at m1 g3 HV ⊢
  obtain ⟨ad, z, rfl, hz, -, hcz⟩ := h3 node hn
  obtain ⟨a, hla, rfl⟩ := up_getD hz
  have hga : u.getD node 0 = a := by simp [List.getD, hla]
  have ha1 := hul a (List.mem_of_getElem? hla)
  have HGL := Lib.hid (show graL u node v = u.take (endN u node) ++ (v.map fun x => a + 1 + x) ++ u.drop (endN u node) from by unfold graL; rw [hga])
  obtain ⟨X1, hx1, hi1⟩ := ints_to HU.out (endN u node) ((endN u node : Nat) : Int) rfl (by rw [up_len]; exact he2)
  obtain ⟨X2, hx2, hi2⟩ := ints_from HU.out (endN u node) ((endN u node : Nat) : Int) rfl (by rw [up_len]; exact he2)
  rw [up_take] at hi1
  rw [up_len, up_drop] at hi2
  rw [up_len] at hx2
  have HI1 := Lib.hid hi1
  have HI2 := Lib.hid hi2
  have HX1 := Lib.hid hx1
  have HX2 := Lib.hid hx2
  have HEN := Lib.hid (s_l04End w _ u node HU.out hn (by omega))
  have HUL := Lib.hid hul
  have HVL := Lib.hid hvl
  have G3 := Lib.hid g3
  have HCN := Lib.hid (show ∀ W : World, Below w.heap.size w W → W.cell? (ad.add node) = some (.int .i64 (a : Int)) from fun W hW => by
    rw [hW.cell (by rw [block_add]; have := World.block_lt_of_cell? w _ hcz; rwa [block_add] at this)]; exact hcz)
  have HTK := Lib.hid (show (u.take (endN u node)).length = endN u node from by rw [List.length_take]; omega)
  have HDL := Lib.hid (show (u.drop (endN u node)).length = u.length - endN u node from List.length_drop)
  have hni : (node : Int) < (u.length : Int) := by omega
  have hn0 : (0 : Int) ≤ (node : Int) := by omega
  generalize endN u node = E at he1 he2 HGL HI1 HI2 HX1 HX2 HEN HTK HDL
  clear hu hv hr h3 g3 hz hla hga hcz hx1 hx2 hi1 hi2 hul hvl
  have hx1 := HX1.out
  go_enter Tryz.func130, Tryz.ntmps130
  go_wp2_with (first
    | (go_at_call 178; refine HEN.out.mono ?_; rintro e w1 ⟨rfl, n1, rfl⟩)
    | (go_at_call 158; refine (s_l01OwnT _ _ (up (u.take E)) (HI1.out.drewN n1) (by rw [up_len, HTK.out]; omega)).mono ?_; rintro e w2 ⟨x2, rfl, ho2, hb2⟩; have HO2 := Lib.hid (show OwnInts w2 w.heap.size tI x2 (up (u.take E)) from ho2); have HB2 := Lib.hid ((below_drewN (Below.refl w.heap.size w) n1).trans hb2); clear ho2 hb2))
  clear hx1
  go_loopw [8, 9] (fun o x wr => ∃ j : Nat, j ≤ v.length ∧ x = .int .i64 j ∧ OwnInts wr w.heap.size tI o (up (u.take E ++ (v.take j).map fun x => a + 1 + x)) ∧ Below w.heap.size w wr) (fun _ x _ => v.length - (intOf x).toNat)
  case atStart => exact ⟨0, Nat.zero_le _, rfl, by simpa using HO2.out, HB2.out⟩
  case round =>
    obtain ⟨j, hj, rfl, ho, hb⟩ := hrel
    clear HO2 HB2
    have HO := Lib.hid ho
    have HB := Lib.hid hb
    clear ho hb
    by_cases hlt : j < v.length
    · obtain ⟨av, zb, rfl, hzb, -, hcb0⟩ := G3.out j hlt
      obtain ⟨b, hlb, rfl⟩ := up_getD hzb
      have hcb : wr.cell? (av.add j) = some (.int .i64 (b : Int)) := by
        rw [HB.out.cell (by rw [block_add]; have := World.block_lt_of_cell? w _ hcb0; rwa [block_add] at this)]; exact hcb0
      have hcn := HCN.out wr HB.out
      have hb1 := HVL.out b (List.mem_of_getElem? hlb)
      have hz64 : In64 ((a : Int) + 1 + (b : Int)) := by unfold In64; omega
      have HTS := Lib.hid (show (v.take (j + 1)).map (fun x => a + 1 + x) = (v.take j).map (fun x => a + 1 + x) ++ [a + 1 + b] from by rw [List.take_add_one, hlb]; simp)
      have HUZ := Lib.hid (show up [a + 1 + b] = [(a : Int) + 1 + (b : Int)] from by simp [up])
      have HLE := Lib.hid (show (ints (up (u.take E ++ (v.take j).map fun x => a + 1 + x))).length ≤ 1000 from by rw [ints_len, up_len, List.length_append, List.length_map, List.length_take, List.length_take]; omega)
      have hji : (j : Int) < (v.length : Int) := by omega
      have hB := HB.out.size
      have hbd1 : -9223372036854775808 ≤ (a : Int) + 1 ∧ (a : Int) + 1 ≤ 9223372036854775807 := by omega
      have hbd2 : -9223372036854775808 ≤ (a : Int) + 1 + (b : Int) ∧ (a : Int) + 1 + (b : Int) ≤ 9223372036854775807 := by omega
      have hw1 : wrap64 ((a : Int) + 1) = (a : Int) + 1 := w64_in' _ hbd1
      have hw1' : IntKind.i64.wrap ((a : Int) + 1) = (a : Int) + 1 := IntWalk.i64_in _ hbd1
      have hw2 : wrap64 ((a : Int) + 1 + (b : Int)) = (a : Int) + 1 + (b : Int) := w64_in' _ hbd2
      have hw2' : IntKind.i64.wrap ((a : Int) + 1 + (b : Int)) = (a : Int) + 1 + (b : Int) := IntWalk.i64_in _ hbd2
      clear hbd1 hbd2
      clear hcb0 hzb hlb
      go_wp2_with fail
      go_region_law (refine stp_app1 T_int (B := w.heap.size) (W := wr.drew.alloc (.cells #[.int .i64 ((a : Int) + 1 + (b : Int))] tI)) (u := .int .i64 ((a : Int) + 1 + (b : Int))) (ad := ⟨wr.heap.size, 0, none⟩) (HO.out.1.below (((Below.refl _ _).drew).alloc (Nat.le_refl _) _)) (by have := HLE.out; clear hw1 hw1' hw2 hw2'; omega) (by clear hw1 hw1' hw2 hw2'; simp; omega) (by rfl) rfl (by rfl) (by rfl) (by rfl) ((Blk.new wr.drew _ _).cell 0) ?_; intro v7 w7 hown7 hgr7)
      all_goals
        have HN7 := Lib.hid (own_pushed HO.out.2 hz64 hown7 HUZ.out)
        have hbd : Below wr.heap.size wr (wr.drew.alloc (.cells #[.int .i64 ((a : Int) + 1 + (b : Int))] tI)) := ((Below.refl _ _).drew).alloc (Nat.le_refl _) _
        have HB7 := Lib.hid (hgr7.below (HB.out.trans (hbd.mono hB)) (by clear hw1 hw1' hw2 hw2'; simp; omega) HO.out.1.ge)
        clear hown7 hgr7 hbd hcb hcn hw1 hw1' hw2 hw2'
        go_wp2_with fail
        go_roundw
        case rel =>
          have h := HN7.out
          rw [List.append_assoc, ← HTS.out] at h
          exact ⟨j + 1, by omega, by go_num, h, HB7.out⟩
        case measure => simp [intOf]; omega
    · have hje : j = v.length := by omega
      have HFE := Lib.hid (show u.take E ++ (v.take j).map (fun x => a + 1 + x) ++ u.drop E = graL u node v from by rw [hje, List.take_length, HGL.out])
      have hx2 := HX2.out
      have HLE := Lib.hid (show (ints (up (u.take E ++ (v.take j).map fun x => a + 1 + x))).length ≤ 1000 from by rw [ints_len, up_len, List.length_append, List.length_map, List.length_take, List.length_take]; omega)
      have HSM := Lib.hid (show (graL u node v).length ≤ 1000 ∧ ∀ l ∈ graL u node v, l ≤ 1000000 from by
        rw [HGL.out]
        refine ⟨by simp only [List.length_append, List.length_map, HTK.out, HDL.out]; omega, fun l hl => ?_⟩
        rcases List.mem_append.1 hl with hl | hl
        · rcases List.mem_append.1 hl with hl | hl
          · have := HUL.out l (List.mem_of_mem_take hl); omega
          · obtain ⟨x, hx, rfl⟩ := List.mem_map.1 hl
            have := HVL.out x hx; omega
        · have := HUL.out l (List.mem_of_mem_drop hl); omega)
      have hlt' : ¬ ((j : Int) < (v.length : Int)) := by omega
      clear hje
      go_wp2_with (first
        | (at_builtin; refine wpList_appN T_int HO.out.1 (HI2.out.below HB.out).1 (by have h1 := HLE.out; have h2 := HDL.out; rw [ints_len (up (u.drop E)), up_len]; omega) HB.out.size (ints_oneT _) (by rfl) rfl (by rfl) (by rfl) ?_; intro v5 w5 hown5 hgr5; have HN5 := Lib.hid (show OwnInts w5 w.heap.size tI v5 (up (graL u node v)) from by rw [← HFE.out, up_append]; exact ⟨by simpa [ints] using hown5, fun y hy => by rcases List.mem_append.1 hy with hy | hy; exact HO.out.2 y hy; exact HI2.out.2 y hy⟩); have HB5 := Lib.hid (hgr5.below HB.out HB.out.size HO.out.1.ge); clear hown5 hgr5)
        | (go_at_call 179; refine (s_l03Canon 9 _ _ (graL u node v) r HN5.out.ints HR.out HSM.out.1 HSM.out.2).mono ?_; rintro e w6 ⟨x6, rfl, hx6, hb6⟩; have HX6 := Lib.hid hx6; have HB6 := Lib.hid hb6; clear hx6 hb6))
      go_ret
      exact ⟨_, rfl, HX6.out.mono HB5.out.size, HB5.out.trans (HB6.out.mono HB5.out.size)⟩
end Go.Proofs.YtdjhfeaimmpmhaaGreat

