/- Walks: freeTreesOf, freeConditions, FreeConditions of the program. | Walk: l12Free of the reference. -/
import Derived.Test.YtbjeibcombjfgaaQf14
import Derived.Test.YtbjeibcombjfgaaQf19
import Derived.Test.YtbjeibcombjfgaaQf17
import Derived.Test.YtbjeibcombjfgaaQf18
import Derived.Test.YtbjeibcombjfgaaQf13
set_option maxRecDepth 100000
set_option linter.unusedVariables false
set_option linter.unusedSimpArgs false
namespace Go.Proofs.Ytbjeibcombjfgaa
open Go.RowKit

/-- is a tree its free form? -/
def frB (q : List Nat) : Bool := match freeO q with
  | some r => eqN r q
  | none => false
def supP (q : List Nat) : Bool := match canO 9 q with
  | some c => supB c
  | none => false
/-- the free forms of the free trees with n nodes; the free conditions -/
def frN (n : Nat) : List (List Nat) := (treesN n).filter fun q => !(!frB q)
def cndN (n : Nat) : List (List Nat) := (frN n).filter fun q => !supP q

def Small (bs : List (List Nat)) : Prop := ∀ q ∈ bs, lvl q = true ∧ q.length ≤ 8
theorem small_trees {n : Nat} (h1 : 1 ≤ n) (h8 : n ≤ 8) : Small (treesN n) := fun q hq => by
  obtain ⟨a, b, -⟩ := (treesN_at h1 h8).2 q hq
  exact ⟨b, by omega⟩
theorem Small.filter {bs : List (List Nat)} (h : Small bs) (p : List Nat → Bool) : Small (bs.filter p) := fun q hq => h q (List.mem_filter.1 hq).1
theorem lvl_le1 {q : List Nat} (h : lvl q = true) (h8 : q.length ≤ 8) : ∀ l ∈ q, l ≤ 1000000 := by
  have hh := lev8 (p := fun t => t.all fun l => Nat.ble l 8) (by decide +kernel) h h8
  rw [List.all_eq_true] at hh
  intro l hl
  have := Nat.le_of_ble_eq_true (hh l hl)
  omega

theorem i_freePred {bs : List (List Nat)} (hb : Small bs) : PredT 139 (fun q => !frB q) bs := by
  intro w u q hq hu
  obtain ⟨hl, h8⟩ := hb q hq
  obtain ⟨r, rs, -, hf, -, -⟩ := freeO_ex hl h8
  have HF := Lib.hid (show frB q = decide (up (minT r rs) = up q) from by
    unfold frB
    rw [hf]
    simp only
    by_cases e : minT r rs = q
    · rw [eqN_iff.2 e, e]; exact (decide_eq_true rfl).symm
    · have h1 : eqN (minT r rs) q = false := by
        cases hh : eqN (minT r rs) q with
        | true => exact absurd (eqN_iff.1 hh) e
        | false => rfl
      rw [h1]; exact (decide_eq_false fun h => e (up_inj h)).symm)
  have HI := Lib.hid (i_freeForm w u q _ hu hl h8 (lvl_le1 hl h8) hf)
  have HU := Lib.hid hu
  obtain ⟨A, c, rfl, -, -, -⟩ := hu.open_
  clear hu hf
  generalize minT r rs = m at HF HI
  simp only [HF.out]
  go_enter Try.func139, Try.ntmps139
  go_wp2_with (first
    | (go_at_call 91; refine HI.out.mono ?_; rintro e w1 ⟨x1, rfl, ho1, hb1⟩; have HO1 := Lib.hid ho1; have HB1 := Lib.hid hb1; clear ho1 hb1)
    | (go_at_call 140; refine (lib_Equal _ _ _ (up m) (up q) HO1.out.ints (HU.out.below HB1.out)).mono ?_; rintro e w6 ⟨rfl, n6, rfl⟩))
  go_ret
  exact ⟨rfl, below_drewN HB1.out n6⟩

theorem i_supPred {bs : List (List Nat)} (hb : Small bs) : PredT 90 supP bs := by
  intro w u q hq hu
  obtain ⟨hl, h8⟩ := hb q hq
  obtain ⟨c, hc, hcl, hcc⟩ := canO_8 hl h8
  have h := i_isSuperfluous w u q c hu h8 (lvl_le1 hl h8) hc hcl hcc
  have e : supP q = supB c := by unfold supP; rw [hc]
  rw [e]
  exact h

theorem i_freeTreesOf (w : World) (n : Nat) (h1 : 1 ≤ n) (h8 : n ≤ 8) :
    Calls Try.prog 84 #[.int .i64 n] w fun e w' => ∃ x, e = .returned x ∧ LA w' w.heap.size x ((frN n).map up) ∧ Below w.heap.size w w' := by
  have HT := Lib.hid (treesN_at h1 h8).1
  have HP := Lib.hid (i_freePred (small_trees h1 h8))
  have hcf : ∀ (args : Array Value) (w : World), Sem.run Try.prog (callFunc 139 args) w = .ok (.enter 139 args) w := enters_of Try.func139 (by kernel_rfl) rfl
  have HCF := Lib.hid hcf
  clear hcf
  go_enter Try.func84, Try.ntmps84
  go_wp2_with (first
    | (go_at_call 92; refine (i_treesOf _ n h1 h8).mono ?_; rintro e w1 ⟨x1, rfl, hl1, hb1⟩; have HL1 := Lib.hid hl1; have HB1 := Lib.hid hb1; clear hl1 hb1)
    | (go_at_call 138; refine (lib_DeleteTrees _ w.heap.size _ (treesN n) _ _ HL1.out (by have := HT.out; omega) HB1.out.size HCF.out HP.out).mono ?_; rintro e w2 ⟨x2, rfl, hl2, hb2⟩; have HL2 := Lib.hid hl2; have HB2 := Lib.hid hb2; clear hl2 hb2))
  go_ret
  exact ⟨_, rfl, HL2.out, HB1.out.trans HB2.out⟩

theorem i_freeConditions (w : World) (n : Nat) (h1 : 1 ≤ n) (h8 : n ≤ 8) :
    Calls Try.prog 88 #[.int .i64 n] w fun e w' => ∃ x, e = .returned x ∧ LA w' w.heap.size x ((cndN n).map up) ∧ Below w.heap.size w w' := by
  have HT := Lib.hid (show (frN n).length ≤ 115 from Nat.le_trans (List.length_filter_le _ _) (treesN_at h1 h8).1)
  have HP := Lib.hid (i_supPred ((small_trees h1 h8).filter fun q => !(!frB q)))
  have hcf : ∀ (args : Array Value) (w : World), Sem.run Try.prog (callFunc 90 args) w = .ok (.enter 90 args) w := enters_of Try.func90 (by kernel_rfl) rfl
  have HCF := Lib.hid hcf
  clear hcf
  go_enter Try.func88, Try.ntmps88
  go_wp2_with (first
    | (go_at_call 84; refine (i_freeTreesOf _ n h1 h8).mono ?_; rintro e w1 ⟨x1, rfl, hl1, hb1⟩; have HL1 := Lib.hid hl1; have HB1 := Lib.hid hb1; clear hl1 hb1)
    | (go_at_call 138; refine (lib_DeleteTrees _ w.heap.size _ (frN n) _ _ HL1.out (by have := HT.out; omega) HB1.out.size HCF.out HP.out).mono ?_; rintro e w2 ⟨x2, rfl, hl2, hb2⟩; have HL2 := Lib.hid hl2; have HB2 := Lib.hid hb2; clear hl2 hb2))
  go_ret
  exact ⟨_, rfl, HL2.out, HB1.out.trans HB2.out⟩

/-- what FreeConditions answers -/
def fcR (n : Int) : List (List Int) := if inR n 1 8 then (cndN n.toNat).map up else []
def fcC (n : Int) : Int := if inR n 1 8 then 0 else 2
theorem i_FreeConditions (w : World) (n : Int) (hn : In64 n) :
    Calls Try.prog 33 #[.int .i64 n] w fun e w' => ∃ x, e = .returned (.tuple #[x, .int .i64 (fcC n)]) ∧ OR w' w.heap.size w'.heap.size tL tI x (fcR n) ∧ Below w.heap.size w w' := by
  cases h : inR n 1 8 with
  | false =>
    have HC := Lib.hid (show fcC n = 2 by simp [fcC, h])
    have HR := Lib.hid (show fcR n = [] by simp [fcR, h])
    rw [HC.out, HR.out]
    go_enter Try.func33, Try.ntmps33
    go_wp2_with (go_at_call 62; refine (i_inRange _ _ _ _).mono ?_; rintro e w' ⟨rfl, rfl⟩; rw [h])
    go_ret2
    exact ⟨_, rfl, (LA.nil _ _).or, Below.refl _ _⟩
  | true =>
    have HC := Lib.hid (show fcC n = 0 by simp [fcC, h])
    have HR := Lib.hid (show fcR n = (cndN n.toNat).map up by simp [fcR, h])
    rw [HC.out, HR.out]
    have h2 := inR_iff.1 h
    obtain ⟨k, rfl⟩ : ∃ k : Nat, n = (k : Int) := ⟨n.toNat, by omega⟩
    rw [Int.toNat_natCast]
    have h1 : 1 ≤ k := by omega
    have h8 : k ≤ 8 := by omega
    clear h2 HC HR
    go_enter Try.func33, Try.ntmps33
    go_wp2_with (first
      | (go_at_call 62; refine (i_inRange _ _ _ _).mono ?_; rintro e w' ⟨rfl, rfl⟩; rw [h])
      | (go_at_call 88; refine (i_freeConditions _ k h1 h8).mono ?_; rintro e w1 ⟨x1, rfl, hl1, hb1⟩; have HL1 := Lib.hid hl1; have HB1 := Lib.hid hb1; clear hl1 hb1))
    go_ret2
    exact ⟨_, rfl, HL1.out.or, HB1.out⟩
end Go.Proofs.Ytbjeibcombjfgaa

set_option maxRecDepth 100000
set_option linter.unusedVariables false
set_option linter.unusedSimpArgs false
namespace Go.Proofs.Ytbjeibcombjfgaa
open Go.RowKit

def cndP (q : List Nat) : Bool := !(!frB q) && !supP q
theorem cndN_eq (n : Nat) : cndN n = (treesN n).filter cndP := by
  unfold cndN frN
  rw [List.filter_filter]
  congr 1
  funext q
  unfold cndP
  cases frB q <;> cases supP q <;> rfl
theorem eqN_dec (q t : List Nat) : eqN q t = decide (up q = up t) := by
  by_cases e : q = t
  · rw [eqN_iff.2 e, e]; exact (decide_eq_true rfl).symm
  · have h1 : eqN q t = false := by
      cases hh : eqN q t with
      | true => exact absurd (eqN_iff.1 hh) e
      | false => rfl
    rw [h1]; exact (decide_eq_false fun h => e (up_inj h)).symm

set_option maxHeartbeats 16000000 in
theorem s_l12Free (w : World) (n : Nat) (h1 : 1 ≤ n) (h8 : n ≤ 8) :
    Calls Try.prog 99 #[.int .i64 n] w fun e w' => ∃ x, e = .returned x ∧ LA w' w.heap.size x ((cndN n).map up) ∧ Below w.heap.size w w' := by
  have HCN := Lib.hid (cndN_eq n)
  have HAT := Lib.hid (fun t ht => okRo_at (t := t) h1 h8 ht)
  have HTN := Lib.hid (treesN_at h1 h8)
  go_enter Try.func99, Try.ntmps99
  go_wp2_with (first
    | (go_at_call 85; go_loud (refine (s_l03Trees _ n h1 h8).mono ?_; rintro e w1 ⟨x1, rfl, hl1, hb1⟩; obtain ⟨vs, hown, hrr, hap⟩ := hl1; have hvl : vs.length = (treesN n).length := hrr.1.trans (List.length_map ..); obtain ⟨Ao, co, rfl, -, -⟩ := hown.cells.open_; rw [hvl] at hown ⊢; have HVL := Lib.hid hvl; have HOA := Lib.hid hown; have HRA := Lib.hid hrr; have HAP := Lib.hid hap; have HB1 := Lib.hid hb1; have OL := Lib.hid (own_lit w1 tL [] (by simp [maxLen])); clear hown hrr hap hvl hb1)))
  generalize hT : treesN n = T at HCN HAT HTN HVL HOA HRA ⊢
  have HTL := Lib.hid HTN.out.1
  have htb := HTL.out
  go_loopw [4, 5] (fun o x wr => ∃ (j : Nat) (us : List Value), j ≤ T.length ∧ x = .int .i64 j ∧ Own wr w1.heap.size tL o us ∧ us.Sublist (vs.take j) ∧ RR wr w.heap.size us (((T.take j).filter cndP).map up) ∧ Below w1.heap.size w1 wr) (fun _ x _ => T.length - (intOf x).toNat)
  case atStart => exact ⟨0, [], Nat.zero_le _, rfl, OL.out, by simp, by simpa using RR.nil _ _, below1 _ _⟩
  case round =>
    obtain ⟨j, us, hj, rfl, ho, hsub, hrr, hb⟩ := hrel
    clear OL
    have HO := Lib.hid ho
    have HSU := Lib.hid hsub
    have HR := Lib.hid hrr
    have HB := Lib.hid hb
    have HUL := Lib.hid (show us.length ≤ 115 from by
      have h1 := hsub.length_le
      have h2 := HTL.out
      rw [List.length_take] at h1
      have := HVL.out
      omega)
    clear ho hsub hrr hb
    by_cases hlt : j < T.length
    · have hq : T[j]? = some (T[j]'hlt) := List.getElem?_eq_getElem _
      have hu : vs[j]? = some (vs[j]'(by rw [HVL.out]; exact hlt)) := List.getElem?_eq_getElem _
      have hmem : T[j]'hlt ∈ T := List.getElem_mem _
      have hrow := HRA.out.2 j _ _ hu (by rw [List.getElem?_map, hq]; rfl)
      obtain ⟨ad, n', c', he, hc0⟩ := HOA.out.cells.at_ hu
      simp only [Value.slice.injEq] at he
      obtain ⟨rfl, rfl, rfl⟩ := he
      have HTS := Lib.hid (show ((T.take (j + 1)).filter cndP) = (T.take j).filter cndP ++ (bif cndP (T[j]'hlt) then [T[j]'hlt] else []) from by
        rw [List.take_add_one, hq]
        simp only [List.filter_append, Option.toList_some, List.filter_cons, List.filter_nil]
        cases cndP (T[j]'hlt) <;> rfl)
      have HVS := Lib.hid (show vs.take (j + 1) = vs.take j ++ [vs[j]'(by rw [HVL.out]; exact hlt)] from by rw [List.take_add_one, hu]; rfl)
      obtain ⟨hql, hqv, hqc, -⟩ := HTN.out.2 _ hmem
      obtain ⟨r, k, xs', hro, hfr, hdb⟩ := HAT.out _ hmem
      have hcp : cndP (T[j]'hlt) = (decide (up r = up (T[j]'hlt)) && !supB (T[j]'hlt)) := by
        unfold cndP frB supP
        rw [hfr, hqc]
        simp only [Bool.not_not]
        rw [eqN_dec]
      rw [hcp] at HTS
      generalize T[j]'hlt = q at *
      generalize vs[j]'(by rw [HVL.out]; exact hlt) = u at *
      obtain ⟨Au, cu, rfl, -, -, -⟩ := hrow.ints.open_
      rw [up_len] at hrow hu hc0 HVS
      have HROW := Lib.hid hrow
      have hq8 : q.length ≤ 8 := by omega
      have hq0 : 0 < q.length := by omega
      have HRO := Lib.hid (fun W (h : Ints W (.slice Au q.length cu) (up q)) => s_l04Roots W _ q _ h (by omega) hro)
      have HDB := Lib.hid (fun W (h : Ints W (.slice Au q.length cu) (up q)) => s_l04Double W _ q _ h hq0 (by omega) hdb)
      have HSM := Lib.hid (fun W y (hy : Ints W y (up r)) (h : Ints W (.slice Au q.length cu) (up q)) => s_l01Same W y (.slice Au q.length cu) (up r) (up q) hy h)
      have hji : (j : Int) < (T.length : Int) := by omega
      have hcw := keepCell HB.out hc0
      have HC0 := Lib.hid hc0
      clear hq hu hmem hrow hql hqv hqc hro hfr hdb hcp hc0
      generalize decide (up r = up q) = dd at HTS HSM
      generalize supB q = sd at HTS HDB
      have HBC := Lib.hid (show Below w1.heap.size w1 wr.drew from HB.out.drew)
      go_wp2_with fail
      cases dd with
      | false =>
        first | go_region_law (first
          | (go_simp; go_at_call 87; go_loud ((with_reducible refine (HRO.out _ (HROW.out.below HBC.out).ints).mono ?_); rintro e w2 ⟨x2, rfl, ho2, hb2⟩; have HBX := Lib.hid (show Below wr.heap.size wr w2 from Below.trans (Below.refl wr.heap.size wr).drew hb2); have HBC := Lib.hid (HBC.out.trans (hb2.mono HBC.out.size)); obtain ⟨g, cap, A2, c2, he, hc2, -, hr2⟩ := ho2.at_ (k := 0) rfl; subst he; have hc2' : w2.cell? ⟨g, 0, none⟩ = some (.slice A2 r.length c2) := hc2; have hcw2 := keepCell HBC.out HC0.out; have HR2 := Lib.hid hr2; have hp2 : 0 < ((r, k) :: xs').length := (by simp); clear hc2 ho2 hb2))
          | (go_simp; go_at_call 86; (with_reducible refine (HSM.out _ _ HR2.out.ints (HROW.out.below HBC.out).ints).mono ?_); rintro e w3 ⟨rfl, n3, rfl⟩; have HBC := Lib.hid (below_drewN HBC.out n3); have HBX := Lib.hid (below_drewN HBX.out n3))) | fail
        all_goals
          go_wp2_with fail
          go_roundw
          case rel =>
            refine ⟨j + 1, us, by omega, by go_num, HO.out.below HBX.out, HSU.out.trans (by rw [HVS.out]; exact List.sublist_append_left _ _), ?_, HBC.out⟩
            rw [HTS.out]
            simpa using HR.out.below HBX.out
          case measure => simp [intOf]; omega
      | true =>
        first | go_region_law (first
          | (go_simp; go_at_call 87; go_loud ((with_reducible refine (HRO.out _ (HROW.out.below HBC.out).ints).mono ?_); rintro e w2 ⟨x2, rfl, ho2, hb2⟩; have HBX := Lib.hid (show Below wr.heap.size wr w2 from Below.trans (Below.refl wr.heap.size wr).drew hb2); have HBC := Lib.hid (HBC.out.trans (hb2.mono HBC.out.size)); obtain ⟨g, cap, A2, c2, he, hc2, -, hr2⟩ := ho2.at_ (k := 0) rfl; subst he; have hc2' : w2.cell? ⟨g, 0, none⟩ = some (.slice A2 r.length c2) := hc2; have hcw2 := keepCell HBC.out HC0.out; have HR2 := Lib.hid hr2; have hp2 : 0 < ((r, k) :: xs').length := (by simp); clear hc2 ho2 hb2))
          | (go_simp; go_at_call 86; (with_reducible refine (HSM.out _ _ HR2.out.ints (HROW.out.below HBC.out).ints).mono ?_); rintro e w3 ⟨rfl, n3, rfl⟩; have HBC := Lib.hid (below_drewN HBC.out n3); have HBX := Lib.hid (below_drewN HBX.out n3))
          | (go_simp; go_at_call 163; (with_reducible refine (HDB.out _ (HROW.out.below HBC.out).ints).mono ?_); rintro e w4 ⟨rfl, hb4⟩; have HBX := Lib.hid (HBX.out.trans (hb4.mono HBX.out.size)); have HBC := Lib.hid (HBC.out.trans (hb4.mono HBC.out.size)); clear hb4)) | fail
        all_goals
          cases sd with
          | true =>
            go_wp2_with fail
            go_roundw
            case rel =>
              refine ⟨j + 1, us, by omega, by go_num, HO.out.below HBX.out, HSU.out.trans (by rw [HVS.out]; exact List.sublist_append_left _ _), ?_, HBC.out⟩
              rw [HTS.out]
              simpa using HR.out.below HBX.out
            case measure => simp [intOf]; omega
          | false =>
            have hcw5 := keepCell HBC.out HC0.out
            have HO5 := Lib.hid (HO.out.below HBX.out)
            have HB5 := Lib.hid HBC.out
            have HR5 := Lib.hid (HR.out.below HBX.out)
            have HQ5 := Lib.hid (HROW.out.below HBC.out)
            go_wp2_with (at_builtin; go_loud (refine wpList_app1 T_row HO5.out (by have := HUL.out; omega) HB5.out.size (by rfl) rfl (by rfl) (by rfl) (by rfl) ?_; intro v1 w5 hown1 hgr1; have HN1 := Lib.hid hown1; have HGR := Lib.hid hgr1; clear hown1 hgr1))
            go_roundw
            case rel =>
              refine ⟨j + 1, us ++ [.slice Au q.length cu], by omega, by go_num, HN1.out, ?_, ?_, HGR.out.below HB5.out HB5.out.size HO5.out.ge⟩
              · rw [HVS.out]; exact HSU.out.append (List.Sublist.refl _)
              · rw [HTS.out, List.map_append]
                exact LL.snoc (HO5.out.mono HB1.out.size) HR5.out HQ5.out (HN1.out.mono HB1.out.size) HGR.out.1
            case measure => simp [intOf]; omega
    · have hjl : j = T.length := by omega
      go_wp2_with fail
      go_ret
      refine ⟨_, rfl, ⟨us, HO.out.mono HB1.out.size, ?_, HAP.out.sublist (HSU.out.trans (List.take_sublist _ _))⟩, HB1.out.trans (HB.out.mono HB1.out.size)⟩
      have h := HR.out
      rw [hjl, List.take_length, ← HCN.out] at h
      exact h
end Go.Proofs.Ytbjeibcombjfgaa

