/- Walk: l04Turn of the reference. | Walks: rooted, slices.MinFunc, freeForm of the program. | Walks: isSuperfluous, the predicate of freeTreesOf, of the program. | Plain: l04Put, l04Roots, l04Cut, l04Double of the reference, with every premise of the walks; what the kernel finds at the trees with at most 8 nodes. -/
import Derived.Test.YtbjeibcombjfgaaQf13
import Derived.Test.YtbjeibcombjfgaaQf12
import Derived.Test.YtbjeibcombjfgaaQf9
import Derived.Test.YtbjeibcombjfgaaQf10
set_option maxRecDepth 100000
set_option linter.unusedVariables false
set_option linter.unusedSimpArgs false
namespace Go.Proofs.Ytbjeibcombjfgaa
open Go.RowKit

/-- the nearest place ahead of one whose level is one less -/
def parV (t : List Nat) (a : Nat) : Nat → Option Nat
  | 0 => none
  | k + 1 => bif Nat.beq (t.getD k 0 + 1) a then some k else parV t a k
/-- the branch at a node -/
def braL (t : List Nat) (node : Nat) : List Nat := (t.take (endN t node)).drop node
def allLe (b : Nat) : List Nat → Bool
  | [] => true
  | l :: ls => bif Nat.ble l b then allLe b ls else false
def allGe (b : Nat) : List Nat → Bool
  | [] => true
  | l :: ls => bif Nat.ble b l then allGe b ls else false
theorem allLe_of {b : Nat} : ∀ {ls : List Nat}, allLe b ls = true → ∀ l ∈ ls, l ≤ b
  | [], _, _, hl => absurd hl (by simp)
  | x :: xs, h, l, hl => by
      rw [allLe] at h
      cases hx : Nat.ble x b with
      | false => rw [hx] at h; cases h
      | true =>
        rw [hx] at h
        rcases List.mem_cons.1 hl with rfl | hl
        · exact Nat.le_of_ble_eq_true hx
        · exact allLe_of h l hl
theorem allGe_of {b : Nat} : ∀ {ls : List Nat}, allGe b ls = true → ∀ l ∈ ls, b ≤ l
  | [], _, _, hl => absurd hl (by simp)
  | x :: xs, h, l, hl => by
      rw [allGe] at h
      cases hx : Nat.ble b x with
      | false => rw [hx] at h; cases h
      | true =>
        rw [hx] at h
        rcases List.mem_cons.1 hl with rfl | hl
        · exact Nat.le_of_ble_eq_true hx
        · exact allGe_of h l hl
def okL (t : List Nat) : Bool := bif Nat.ble t.length 100 then allLe 1000 t else false
theorem okL_of {t : List Nat} (h : okL t = true) : t.length ≤ 100 ∧ ∀ l ∈ t, l ≤ 1000 := by
  unfold okL at h
  cases hx : Nat.ble t.length 100 with
  | false => rw [hx] at h; cases h
  | true => rw [hx] at h; exact ⟨Nat.le_of_ble_eq_true hx, allLe_of h⟩
/-- the tree rerooted, with every premise of the walk -/
def turV : Nat → List Nat → Nat → Option (List Nat)
  | 0, _, _ => none
  | f + 1, t, 0 => bif okL t then canO 9 t else none
  | f + 1, t, node + 1 => bif okL t && Nat.blt (node + 1) t.length && allGe (t.getD (node + 1) 0) (braL t (node + 1)) then
      match parV t (t.getD (node + 1) 0) (node + 1) with
      | none => none
      | some p => match turV f (t.take (node + 1) ++ t.drop (endN t (node + 1))) p with
        | none => none
        | some r => bif okL r then canO 9 (graL ((braL t (node + 1)).map fun x => x - t.getD (node + 1) 0) 0 r) else none
    else none
theorem parV_lt {t : List Nat} {a : Nat} : ∀ {k p : Nat}, parV t a k = some p → p < k
  | 0, _, h => by cases h
  | k + 1, p, h => by
      rw [parV] at h
      cases hx : Nat.beq (t.getD k 0 + 1) a with
      | true => rw [hx] at h; cases h; omega
      | false => rw [hx] at h; have := parV_lt h; omega
theorem turV_succ {f : Nat} {t : List Nat} {node : Nat} {r : List Nat} (h : turV (f + 1) t (node + 1) = some r) :
    okL t = true ∧ node + 1 < t.length ∧ allGe (t.getD (node + 1) 0) (braL t (node + 1)) = true ∧
    ∃ p q, parV t (t.getD (node + 1) 0) (node + 1) = some p ∧ turV f (t.take (node + 1) ++ t.drop (endN t (node + 1))) p = some q ∧ okL q = true ∧
      canO 9 (graL ((braL t (node + 1)).map fun x => x - t.getD (node + 1) 0) 0 q) = some r := by
  rw [turV] at h
  cases h1 : okL t with
  | false => rw [h1] at h; cases h
  | true =>
    cases h2 : Nat.blt (node + 1) t.length with
    | false => rw [h1, h2] at h; cases h
    | true =>
      cases h3 : allGe (t.getD (node + 1) 0) (braL t (node + 1)) with
      | false => rw [h1, h2, h3] at h; cases h
      | true =>
        rw [h1, h2, h3] at h
        cases h4 : parV t (t.getD (node + 1) 0) (node + 1) with
        | none => rw [h4] at h; cases h
        | some p =>
          rw [h4] at h
          simp only [Bool.and_self, cond_true] at h
          cases h5 : turV f (t.take (node + 1) ++ t.drop (endN t (node + 1))) p with
          | none => rw [h5] at h; cases h
          | some q =>
            rw [h5] at h
            simp only at h
            cases h6 : okL q with
            | false => rw [h6] at h; cases h
            | true => rw [h6] at h; exact ⟨rfl, (blt_iff _ _).1 h2, rfl, p, q, rfl, h5, h6, h⟩
end Go.Proofs.Ytbjeibcombjfgaa

set_option maxRecDepth 100000
set_option linter.unusedVariables false
set_option linter.unusedSimpArgs false
namespace Go.Proofs.Ytbjeibcombjfgaa
open Go.RowKit

def isCanR (t : List Nat) : Bool := match canO 9 t with | none => false | some r => eqN r t
def okRoots (t : List Nat) : Bool := bif isCanR t then (List.range t.length).all fun n => match rawO 9 (nearN t) n 0 with | none => false | some q => Nat.ble q.length 8 else true
theorem okRoots_8 : (List.range 8).all (fun m => (levs m).all okRoots) = true := by decide +kernel
theorem roots_at {t : List Nat} (ht : lvl t = true) (hl : t.length ≤ 8) (hc : canO 9 t = some t) {n : Nat} (hn : n < t.length) : ∃ q r, rawO 9 (nearN t) n 0 = some q ∧ lvl q = true ∧ q.length ≤ 8 ∧ canO 9 q = some r ∧ tfO 9 (nearN t) n 0 = some r := by
  have h := lev8 okRoots_8 ht hl
  rw [okRoots, isCanR, hc] at h
  simp only [eqN_iff.2 rfl, cond_true, List.all_eq_true, List.mem_range] at h
  have h1 := h n hn
  cases hr : rawO 9 (nearN t) n 0 with
  | none => rw [hr] at h1; cases h1
  | some q =>
    rw [hr] at h1
    have h8 := Nat.le_of_ble_eq_true h1
    obtain ⟨h2, h3⟩ := tfO_raw hr h8
    obtain ⟨r, hq, -, -⟩ := canO_8 h2 h8
    exact ⟨q, r, rfl, h2, h8, hq, by rw [h3, hq]⟩
theorem rooted_ex {t c : List Nat} (hc : canO 9 t = some c) (ht : lvl t = true) (hl : t.length ≤ 8) : ∃ rs, rootedO t = some rs ∧ rs.length = t.length ∧ ∀ r ∈ rs, r.length ≤ 8 := by
  obtain ⟨r0, h1, h2, h3⟩ := canO_8 ht hl
  rw [hc] at h1; injection h1 with h1; subst h1
  have hlen := canO_len hc
  obtain ⟨rs, hrs⟩ := mapO_ex (g := fun n => tfO 9 (nearN c) n 0) (xs := List.range c.length) fun n hn => by
    obtain ⟨q, r, -, -, -, -, h⟩ := roots_at h2 (by omega) h3 (List.mem_range.1 hn)
    exact ⟨r, h⟩
  refine ⟨rs, by rw [rootedO, hc]; exact hrs, by rw [mapO_len hrs, List.length_range, hlen], fun r hr => ?_⟩
  obtain ⟨n, hn, hnr⟩ := mapO_all hrs r hr
  obtain ⟨q, r', -, -, h8, hq, h⟩ := roots_at h2 (by omega) h3 (List.mem_range.1 hn)
  rw [hnr] at h; injection h with h; subst h
  rw [canO_len hq]; exact h8

set_option maxHeartbeats 2000000 in
theorem i_rooted (w : World) (v : Value) (t : List Nat) (rs : List (List Nat)) (ha : Ints w v (up t)) (ht : lvl t = true) (h8 : t.length ≤ 8) (hl : ∀ l ∈ t, l ≤ 1000000) (hrs : rootedO t = some rs) :
    Calls Try.prog 149 #[v] w fun e w' => ∃ x, e = .returned x ∧ LL w' w.heap.size x (rs.map up) ∧ Below w.heap.size w w' := by
  obtain ⟨c, hc, hcl, hcc⟩ := canO_8 ht h8
  have hlen := canO_len hc
  have HC := Lib.hid hc
  have HA := Lib.hid ha
  have HL := Lib.hid hl
  have HCM := Lib.hid (show ∀ l ∈ c, l ≤ 1000000 from fun l hl => by have := canO_lt hc l hl; omega)
  have HRO := Lib.hid (fun n (hn : n < c.length) => roots_at hcl (by omega) hcc hn)
  have hrs' := hrs
  rw [rootedO, hc] at hrs'
  have HRS := Lib.hid (show mapO (fun n => tfO 9 (nearN c) n 0) (List.range c.length) = some rs from hrs')
  have HRL := Lib.hid (show rs.length = c.length from by rw [mapO_len hrs', List.length_range])
  have hc8 : c.length ≤ 8 := by omega
  obtain ⟨A, cc, rfl, l1, l2, -⟩ := ha.open_
  rw [up_len] at l1 HA ⊢
  clear ha hl hrs hrs' hc hcl hcc hlen
  go_enter Try.func149, Try.ntmps149
  go_wp2_with (first
    | (go_at_call 98; refine (i_canonical 9 _ _ t c HA.out HC.out (by omega) HL.out).mono ?_; rintro e w1 ⟨x1, rfl, ho1, hb1⟩; have HO1 := Lib.hid ho1; have HB1 := Lib.hid hb1; clear ho1 hb1)
    | (go_at_call 145; refine (i_nearOf _ _ c HO1.out.ints (by omega) HCM.out).mono ?_; rintro e w2 ⟨g, vn, es, ess, rfl, hnw, hnb, hb2⟩; have HN := Lib.hid (hnw.rows); have HNL := Lib.hid hnw.len'; have HNB := Lib.hid hnb; have HB2 := Lib.hid (HB1.out.trans (hb2.mono HB1.out.size)); clear hnw hnb hb2))
  have OL := Lib.hid (show Own (w2.alloc (.cells #[] tL)) w2.heap.size tL (.slice (some ⟨w2.heap.size, 0, none⟩) 0 0) [] from own_lit w2 tL [] (by simp [maxLen]))
  have HBL := Lib.hid (HB2.out.trans ((below1 w2 (.cells #[] tL)).mono HB2.out.size))
  go_loopw [4, 12] (fun o x wr => ∃ (j : Nat) (vs : List Value), j ≤ c.length ∧ x = .int .i64 j ∧ Own wr w2.heap.size tL o vs ∧ RR wr w.heap.size vs ((rs.take j).map up) ∧ Below w2.heap.size w2 wr ∧ Below w.heap.size w wr) (fun _ x _ => c.length - (intOf x).toNat)
  case atStart => exact ⟨0, [], Nat.zero_le _, rfl, OL.out, RR.nil _ _, below1 _ _, HBL.out⟩
  case round =>
    obtain ⟨j, vs, hj, rfl, hown, hrr, hbq, hbw⟩ := hrel
    clear OL HBL
    have HO := Lib.hid hown
    have HRR := Lib.hid hrr
    have HBQ := Lib.hid hbq
    have HBW := Lib.hid hbw
    by_cases hlt : j < c.length
    · obtain ⟨q, r, -, -, hq8, hqr, htf⟩ := HRO.out j hlt
      have hrl : r.length ≤ 8 := by rw [canO_len hqr]; exact hq8
      have hjr : (List.range c.length)[j]? = some j := by simp [hlt]
      obtain ⟨r', hr', htf'⟩ := mapO_get HRS.out j j hjr
      rw [htf] at htf'; injection htf' with htf'; subst htf'
      have hI := i_treeFrom 9 wr _ (nearN c) j 0 r (HN.out.below hbq) htf (by omega) (by rw [HNL.out]; omega) (by rw [HNL.out]; exact hlt) (by omega) (fun ns hns n hn => by rw [HNL.out]; exact (HNB.out ns hns).2 n hn)
      rw [show (((0 : Nat) : Int) - 1) = -1 from rfl] at hI
      have HI := Lib.hid hI
      have HTK := Lib.hid (show rs.take (j + 1) = rs.take j ++ [r] by rw [List.take_add_one, hr']; rfl)
      have hvl : vs.length ≤ 1000 := by have h1 := hrr.1; rw [List.length_map, List.length_take] at h1; omega
      have hji : (j : Int) < (c.length : Int) := by omega
      clear hown hrr hbq hbw hq8 hqr htf hjr hr' hI
      go_wp2_with (first
        | (go_at_call 147; refine HI.out.mono ?_; rintro e w3 ⟨r2, rfl, ho2, hb2⟩; obtain ⟨A5, c5, he5, -, -, -⟩ := ho2.ints.open_; rw [up_len] at he5; subst he5; have HO2 := Lib.hid (ho2.mono HBW.out.size); have HBI := Lib.hid hb2; have HB3 := Lib.hid (HBW.out.trans (hb2.mono HBW.out.size)); have HOW := Lib.hid (HO.out.below hb2); clear ho2 hb2)
        | (at_builtin; refine wpList_app1 T_row HOW.out (by omega) (Nat.le_trans HBQ.out.size HBI.out.size) (by rfl) rfl (by rfl) (by rfl) (by rfl) ?_; intro v1 w5 hown1 hgr1; have HN1 := Lib.hid hown1; have HGR := Lib.hid hgr1.1; have HQ5 := Lib.hid (hgr1.below (HBQ.out.trans (HBI.out.mono HBQ.out.size)) (Nat.le_trans HBQ.out.size HBI.out.size) HOW.out.ge); have HB5 := Lib.hid (HB2.out.trans (HQ5.out.mono HB2.out.size)); clear hown1 hgr1))
      go_roundw
      case rel =>
        refine ⟨j + 1, _, by omega, by go_num, HN1.out, ?_, HQ5.out, HB5.out⟩
        rw [HTK.out, List.map_append]
        exact LL.snoc (HOW.out.mono HB2.out.size) (HRR.out.below HBI.out) HO2.out (HN1.out.mono HB2.out.size) HGR.out
      case measure => simp [intOf]; omega
    · have : j = c.length := by omega
      subst this
      rw [← HRL.out, List.take_length] at HRR
      go_wp2_with fail
      go_ret
      exact ⟨_, rfl, ⟨vs, HO.out.mono HB2.out.size, HRR.out⟩, HBW.out⟩

theorem minT_snoc : ∀ (m : List Nat) (ts : List (List Nat)) (t : List Nat), minT m (ts ++ [t]) = bif befN t (minT m ts) then t else minT m ts
  | m, [], t => by simp [minT]
  | m, x :: ts, t => by
    rw [List.cons_append, minT, minT]
    cases befN x m with
    | true => exact minT_snoc x ts t
    | false => exact minT_snoc m ts t

set_option maxHeartbeats 2000000 in
theorem lib_MinTrees (w : World) (B : Nat) (v : Value) (r : List Nat) (rs : List (List Nat)) (ha : LL w B v ((r :: rs).map up)) (hn : rs.length ≤ 1000) :
    Calls Try.prog 148 #[v, .func (.func 150) #[] #[]] w fun e w' => ∃ x, e = .returned x ∧ OwnInts w B tI x (up (minT r rs)) ∧ w = w' := by
  obtain ⟨vs, hown, hrr⟩ := ha
  have hvl : vs.length = rs.length + 1 := by rw [hrr.1]; simp
  obtain ⟨A, c, rfl, l1, l2⟩ := hown.cells.open_
  rw [hvl] at hown l1 ⊢
  have HO := Lib.hid hown
  have HRR := Lib.hid hrr
  obtain ⟨g, rfl⟩ : ∃ g, A = some ⟨g, 0, none⟩ := by
    rcases hown.cases with ⟨he, hv⟩ | ⟨g, cap, cur, he, -⟩
    · rw [hv] at hvl; simp at hvl
    · simp only [Value.slice.injEq] at he
      exact ⟨g, he.1⟩
  have hrow : ∀ k, k < rs.length + 1 → ∃ u, w.cell? ⟨g, k, none⟩ = some u ∧ vs[k]? = some u := by
    intro k hk
    have hu : vs[k]? = some (vs[k]'(by omega)) := List.getElem?_eq_getElem _
    obtain ⟨ad, n', c', he, hc⟩ := hown.cells.at_ hu
    simp only [Value.slice.injEq, Option.some.injEq] at he
    obtain ⟨rfl, -, -⟩ := he
    rw [addr_add] at hc
    exact ⟨_, hc, hu⟩
  have HROW := Lib.hid hrow
  obtain ⟨u0, hc0, hu0⟩ := hrow 0 (by omega)
  have h0 := hrr.2 0 u0 (up r) hu0 rfl
  obtain ⟨A0, cc0, he0, -, -, -⟩ := h0.ints.open_
  rw [up_len] at he0
  subst he0
  have H0 := Lib.hid h0
  have hd1 : ¬ (((rs.length : Int) + 1) < 1) := by omega
  have hd2 : decide (((rs.length : Int) + 1) < 1) = false := by simp; omega
  have hpos : (0 : Int) < (rs.length : Int) + 1 := by omega
  clear hown hrr hrow h0 hu0 hvl
  go_enter Try.func148, Try.ntmps148
  go_wp2_with fail
  go_loopw [5, 6] (fun mv x wr => ∃ i : Nat, i ≤ rs.length ∧ x = .int .i64 ((i : Int) + 1) ∧ OwnInts w B tI mv (up (minT r (rs.take i))) ∧ w = wr) (fun _ x _ => rs.length + 1 - (intOf x).toNat)
  case atStart => exact ⟨0, Nat.zero_le _, rfl, by simpa [minT] using H0.out, rfl⟩
  case round =>
    obtain ⟨i, hi, rfl, hm, rfl⟩ := hrel
    clear H0
    have HM := Lib.hid hm
    by_cases hlt : i < rs.length
    · obtain ⟨u, hc, hu⟩ := HROW.out (i + 1) (by omega)
      have hq : rs[i]? = some (rs[i]'hlt) := List.getElem?_eq_getElem _
      have hr1 := HRR.out.2 (i + 1) u (up (rs[i]'hlt)) hu (by rw [List.getElem?_map, List.getElem?_cons_succ, hq]; rfl)
      obtain ⟨A5, c5, he5, -, -, -⟩ := hr1.ints.open_
      rw [up_len] at he5
      subst he5
      have hsn : minT r (rs.take (i + 1)) = bif befN (rs[i]'hlt) (minT r (rs.take i)) then rs[i]'hlt else minT r (rs.take i) := by
        rw [List.take_add_one, hq]; exact minT_snoc _ _ _
      have hii : (i : Int) + 1 < (rs.length : Int) + 1 := by omega
      have hi0 : (0 : Int) ≤ (i : Int) + 1 := by omega
      have hw1 : IntKind.i64.wrap ((i : Int) + 1 + 1) = (i : Int) + 1 + 1 := IntWalk.i64_in _ (by omega)
      have hcm := cmpT_up (rs[i]'hlt) (minT r (rs.take i))
      have hct := i_compareTrees w _ _ _ _ hr1.ints hm.ints
      generalize cmpT (up (rs[i]'hlt)) (up (minT r (rs.take i))) = z at hcm hct
      generalize rs[i]'hlt = q at hr1 hsn hc hcm hct
      obtain ⟨A6, c6, he6, -, -, -⟩ := hm.ints.open_
      rw [up_len] at he6
      subst he6
      have HCT := Lib.hid hct
      have HR1 := Lib.hid hr1
      clear hm hu hq hr1 hct hc0
      cases hb : befN q (minT r (rs.take i)) with
      | true =>
        rw [hb] at hsn hcm
        have HSN := Lib.hid hsn
        have hz : z < 0 := by simpa using hcm
        clear hsn hb
        go_wp2_with (go_at_call 150; refine HCT.out.mono ?_; rintro e w1 ⟨rfl, rfl⟩)
        go_roundw
        case rel => exact ⟨i + 1, by omega, by go_num, by rw [HSN.out]; exact HR1.out, by first | rfl | trivial⟩
        case measure => simp [intOf]; omega
      | false =>
        rw [hb] at hsn hcm
        have HSN := Lib.hid hsn
        have hz : ¬ (z < 0) := by simpa using hcm
        clear hsn hb
        go_wp2_with (go_at_call 150; refine HCT.out.mono ?_; rintro e w1 ⟨rfl, rfl⟩)
        go_roundw
        case rel => exact ⟨i + 1, by omega, by go_num, by rw [HSN.out]; exact HM.out, by first | rfl | trivial⟩
        case measure => simp [intOf]; omega
    · have hin : i = rs.length := by omega
      have HE := Lib.hid (show minT r (rs.take i) = minT r rs from by rw [hin, List.take_length])
      have hii : ¬ ((i : Int) + 1 < (rs.length : Int) + 1) := by omega
      clear hin hc0
      go_wp2_with fail
      go_ret
      exact ⟨_, rfl, by rw [← HE.out]; exact HM.out, rfl⟩

theorem freeO_ex {t : List Nat} (ht : lvl t = true) (hl : t.length ≤ 8) : ∃ r rs, rootedO t = some (r :: rs) ∧ freeO t = some (minT r rs) ∧ rs.length ≤ 8 ∧ ∀ q ∈ r :: rs, q.length ≤ 8 := by
  obtain ⟨c, hc, -, -⟩ := canO_8 ht hl
  obtain ⟨rs, h1, h2, h3⟩ := rooted_ex hc ht hl
  cases rs with
  | nil => obtain ⟨d, rfl, -⟩ := lvl_cons ht; simp at h2
  | cons r rs => exact ⟨r, rs, h1, by rw [freeO, h1], by simp at h2; omega, h3⟩

theorem i_freeForm (w : World) (v : Value) (t r : List Nat) (ha : Ints w v (up t)) (ht : lvl t = true) (h8 : t.length ≤ 8) (hl : ∀ l ∈ t, l ≤ 1000000) (hr : freeO t = some r) :
    Calls Try.prog 91 #[v] w fun e w' => ∃ x, e = .returned x ∧ OwnInts w' w.heap.size tI x (up r) ∧ Below w.heap.size w w' := by
  obtain ⟨r0, rs, h1, h2, h3, -⟩ := freeO_ex ht h8
  have HE := Lib.hid (show minT r0 rs = r from by rw [h2] at hr; injection hr)
  have HR := Lib.hid (i_rooted w v t (r0 :: rs) ha ht h8 hl h1)
  obtain ⟨A, cc, rfl, -, -, -⟩ := ha.open_
  rw [up_len] at HR ⊢
  clear ha h1 h2 hr
  go_enter Try.func91, Try.ntmps91
  go_wp2_with (first
    | (go_at_call 149; refine HR.out.mono ?_; rintro e w1 ⟨x1, rfl, hll, hb1⟩; have HLL := Lib.hid hll; have HB1 := Lib.hid hb1; clear hll hb1)
    | (go_at_call 148; refine (lib_MinTrees _ _ _ r0 rs HLL.out (by omega)).mono ?_; rintro e w2 ⟨x2, rfl, ho2, rfl⟩; have HO2 := Lib.hid ho2; clear ho2))
  go_ret
  exact ⟨_, rfl, by rw [← HE.out]; exact HO2.out, HB1.out⟩
end Go.Proofs.Ytbjeibcombjfgaa

set_option maxRecDepth 100000
set_option linter.unusedVariables false
set_option linter.unusedSimpArgs false
namespace Go.Proofs.Ytbjeibcombjfgaa
open Go.RowKit

def eqO : Option (List Nat) → Option (List Nat) → Bool
  | some a, some b => eqN a b
  | _, _ => false
/-- is the edge above a node one between equal halves? -/
def supAt (c : List Nat) (i : Nat) : Bool := match parN c (c.getD i 0) i with
  | 0 => false
  | k + 1 => eqO (tfO 9 (nearN c) i (k + 1)) (tfO 9 (nearN c) k (i + 1))
def supB (c : List Nat) : Bool := (List.range c.length).any (supAt c)
def okHalf (t : List Nat) : Bool := bif isCanR t then (List.range t.length).all fun i => match parN t (t.getD i 0) i with
    | 0 => true
    | k + 1 => match rawO 9 (nearN t) i (k + 1), rawO 9 (nearN t) k (i + 1) with
      | some q, some q' => Nat.ble q.length 8 && Nat.ble q'.length 8
      | _, _ => false
  else true
theorem okHalf_8 : (List.range 8).all (fun m => (levs m).all okHalf) = true := by decide +kernel
theorem half_at {t : List Nat} (ht : lvl t = true) (hl : t.length ≤ 8) (hc : canO 9 t = some t) {i k : Nat} (hi : i < t.length) (hk : parN t (t.getD i 0) i = k + 1) :
    ∃ r r', tfO 9 (nearN t) i (k + 1) = some r ∧ tfO 9 (nearN t) k (i + 1) = some r' ∧ r.length ≤ 8 ∧ r'.length ≤ 8 ∧ supAt t i = decide (r = r') := by
  have h := lev8 okHalf_8 ht hl
  rw [okHalf, isCanR, hc] at h
  simp only [eqN_iff.2 rfl, cond_true, List.all_eq_true, List.mem_range] at h
  have h1 := h i hi
  rw [hk] at h1
  simp only at h1
  cases hq : rawO 9 (nearN t) i (k + 1) with
  | none => rw [hq] at h1; cases h1
  | some q =>
    cases hq' : rawO 9 (nearN t) k (i + 1) with
    | none => rw [hq, hq'] at h1; cases h1
    | some q' =>
      rw [hq, hq'] at h1
      simp only [Bool.and_eq_true] at h1
      have a1 := Nat.le_of_ble_eq_true h1.1
      have a2 := Nat.le_of_ble_eq_true h1.2
      obtain ⟨b1, b2⟩ := tfO_raw hq a1
      obtain ⟨c1, c2⟩ := tfO_raw hq' a2
      obtain ⟨r, hr, -, -⟩ := canO_8 b1 a1
      obtain ⟨r', hr', -, -⟩ := canO_8 c1 a2
      refine ⟨r, r', by rw [b2, hr], by rw [c2, hr'], by rw [canO_len hr]; exact a1, by rw [canO_len hr']; exact a2, ?_⟩
      unfold supAt
      rw [hk]
      simp only
      rw [b2, hr, c2, hr']
      by_cases e : r = r'
      · rw [eqO, eqN_iff.2 e]; exact (decide_eq_true e).symm
      · have : eqN r r' = false := by
          cases hh : eqN r r' with
          | true => exact absurd (eqN_iff.1 hh) e
          | false => rfl
        rw [eqO, this]; exact (decide_eq_false e).symm

set_option maxHeartbeats 4000000 in
theorem i_isSuperfluous (w : World) (v : Value) (t c : List Nat) (ha : Ints w v (up t)) (h8 : t.length ≤ 8) (hl : ∀ l ∈ t, l ≤ 1000000) (hc : canO 9 t = some c) (hcl : lvl c = true) (hcc : canO 9 c = some c) :
    Calls Try.prog 90 #[v] w fun e w' => e = .returned (.bool (supB c)) ∧ Below w.heap.size w w' := by
  have hlen := canO_len hc
  have HC := Lib.hid hc
  have HA := Lib.hid ha
  have HL := Lib.hid hl
  have HCM := Lib.hid (show ∀ l ∈ c, l ≤ 1000000 from fun l hl => by have := canO_lt hc l hl; omega)
  have HHA := Lib.hid (fun i k (hi : i < c.length) hk => half_at hcl (by omega) hcc (i := i) (k := k) hi hk)
  have hc8 : c.length ≤ 8 := by omega
  obtain ⟨A, cc, rfl, l1, l2, -⟩ := ha.open_
  rw [up_len] at l1 HA ⊢
  clear ha hl hc hcl hcc hlen
  go_enter Try.func90, Try.ntmps90
  go_wp2_with (first
    | (go_at_call 98; refine (i_canonical 9 _ _ t c HA.out HC.out (by omega) HL.out).mono ?_; rintro e w1 ⟨x1, rfl, ho1, hb1⟩; obtain ⟨A1, c1, he1, -, -, -⟩ := ho1.ints.open_; rw [up_len] at he1; subst he1; have HO1 := Lib.hid ho1; have HB1 := Lib.hid hb1; clear ho1 hb1)
    | (go_at_call 145; refine (i_nearOf _ _ c HO1.out.ints (by omega) HCM.out).mono ?_; rintro e w2 ⟨g, vn, es, ess, rfl, hnw, hnb, hb2⟩; have HN := Lib.hid (hnw.rows); have HNL := Lib.hid hnw.len'; have HNB := Lib.hid hnb; have HO2 := Lib.hid (HO1.out.below hb2); have HB2 := Lib.hid (HB1.out.trans (hb2.mono HB1.out.size)); clear hnw hnb hb2)
    | (go_at_call 146; refine (i_parentsOf _ _ c HO2.out.ints (by omega) HCM.out).mono ?_; rintro e w3 ⟨x3, rfl, ho3, hb3⟩; obtain ⟨A3, c3, he3, -, -, hp3⟩ := ho3.ints.open_; rw [pzTo_len] at he3 hp3; subst he3; have HP := Lib.hid hp3; have HN3 := Lib.hid (HN.out.below hb3); have HB3 := Lib.hid (HB2.out.trans (hb3.mono HB2.out.size)); clear ho3 hb3 hp3))
  go_loopw [13] (fun x wr => ∃ j : Nat, j ≤ c.length ∧ x = .int .i64 j ∧ Hid (∀ i, i < j → supAt c i = false) ∧ Below w3.heap.size w3 wr) (fun x _ => c.length - (intOf x).toNat)
  case atStart => exact ⟨0, Nat.zero_le _, rfl, fun i h => by omega, Below.refl _ _⟩
  case round =>
    obtain ⟨j, hj, rfl, HF, hb⟩ := hrel
    have HB := Lib.hid hb
    clear hb
    by_cases hlt : j < c.length
    · obtain ⟨ap, zp, rfl, hzp, -, hcp0⟩ := HP.out j hlt
      have hcp : wr.cell? (ap.add j) = some (.int .i64 zp) := by
        rw [HB.out.cell (by rw [block_add]; have := World.block_lt_of_cell? w3 _ hcp0; rwa [block_add] at this)]; exact hcp0
      rw [pzTo_get hlt] at hzp
      injection hzp with hzp
      have hha := fun k => HHA.out j k hlt
      have hPj := parN_le c (c.getD j 0) j
      have hs0 : parN c (c.getD j 0) j = 0 → supAt c j = false := fun h => by unfold supAt; rw [h]
      generalize parN c (c.getD j 0) j = P at hzp hha hPj hs0
      have hji : (j : Int) < (c.length : Int) := by omega
      clear hcp0
      cases P with
      | zero =>
        have hz1 : zp = -1 := by omega
        subst hz1
        have HS0 := Lib.hid (hs0 rfl)
        clear hha hs0
        go_wp2_with fail
        go_roundw
        case rel =>
          refine ⟨j + 1, by omega, by go_num, fun i hi => ?_, HB.out⟩
          by_cases e : i = j
          · subst e; exact HS0.out
          · exact HF.out i (by omega)
        case measure => simp [intOf]; omega
      | succ k =>
        have hz1 : zp = (k : Int) := by omega
        subst hz1
        obtain ⟨r, r', h1, h2, h3, h4, h5⟩ := hha k rfl
        have hkc : k < c.length := by omega
        have hk0 : (0 : Int) ≤ (k : Int) := by omega
        have hkd : decide ((0 : Int) ≤ (k : Int)) = true := by simp
        have hI1 := fun W (hW : Below w3.heap.size w3 W) => i_treeFrom 9 W _ (nearN c) j (k + 1) r (HN3.out.below hW) h1 (by omega) (by rw [HNL.out]; omega) (by rw [HNL.out]; exact hlt) (by omega) (fun ns hns n hn => by rw [HNL.out]; exact (HNB.out ns hns).2 n hn)
        have hI2 := fun W (hW : Below w3.heap.size w3 W) => i_treeFrom 9 W _ (nearN c) k (j + 1) r' (HN3.out.below hW) h2 (by omega) (by rw [HNL.out]; omega) (by rw [HNL.out]; exact hkc) (by omega) (fun ns hns n hn => by rw [HNL.out]; exact (HNB.out ns hns).2 n hn)
        simp only [show (((k + 1 : Nat) : Int) - 1) = (k : Int) from by omega, HNL.out] at hI1
        simp only [show (((j + 1 : Nat) : Int) - 1) = (j : Int) from by omega, HNL.out] at hI2
        have HI1 := Lib.hid hI1
        have HI2 := Lib.hid hI2
        have HS := Lib.hid h5
        clear hha hs0 h1 h2 h5 hI1 hI2
        have arms : True := trivial
        by_cases hrr : r = r'
        · have HE := Lib.hid (show supB c = true from by
            unfold supB
            rw [List.any_eq_true]
            exact ⟨j, List.mem_range.2 hlt, by rw [HS.out]; exact decide_eq_true hrr⟩)
          have HRR := Lib.hid (show decide (up r = up r') = true from decide_eq_true (by rw [hrr]))
          clear hrr
          go_wp2_with (first
            | (have hgo := HO4; clear hgo; go_at_call 147; refine (HI2.out _ HB4.out).mono ?_; rintro e w5 ⟨x5, rfl, ho5, hb5⟩; have HO5 := Lib.hid ho5; have HO45 := Lib.hid (HO4.out.below hb5); have HB5 := Lib.hid (HB4.out.trans (hb5.mono HB4.out.size)); clear ho5 hb5)
            | (go_at_call 140; refine (lib_Equal _ _ _ (up r) (up r') HO45.out.ints HO5.out.ints).mono ?_; rintro e w6 ⟨rfl, n6, rfl⟩; rw [HRR.out])
            | (go_at_call 147; refine (HI1.out _ HB.out).mono ?_; rintro e w4 ⟨x4, rfl, ho4, hb4⟩; have HO4 := Lib.hid ho4; have HB4 := Lib.hid (HB.out.trans (hb4.mono HB.out.size)); clear ho4 hb4))
          go_ret
          exact ⟨ret_bool HE.out.symm, HB3.out.trans (below_drewN (HB5.out.mono HB3.out.size) n6)⟩
        · have HS2 := Lib.hid (show supAt c j = false from by rw [HS.out]; exact decide_eq_false hrr)
          have HRR := Lib.hid (show decide (up r = up r') = false from decide_eq_false (fun h => hrr (up_inj h)))
          clear hrr
          go_wp2_with (first
            | (have hgo := HO4; clear hgo; go_at_call 147; refine (HI2.out _ HB4.out).mono ?_; rintro e w5 ⟨x5, rfl, ho5, hb5⟩; have HO5 := Lib.hid ho5; have HO45 := Lib.hid (HO4.out.below hb5); have HB5 := Lib.hid (HB4.out.trans (hb5.mono HB4.out.size)); clear ho5 hb5)
            | (go_at_call 140; refine (lib_Equal _ _ _ (up r) (up r') HO45.out.ints HO5.out.ints).mono ?_; rintro e w6 ⟨rfl, n6, rfl⟩; rw [HRR.out])
            | (go_at_call 147; refine (HI1.out _ HB.out).mono ?_; rintro e w4 ⟨x4, rfl, ho4, hb4⟩; have HO4 := Lib.hid ho4; have HB4 := Lib.hid (HB.out.trans (hb4.mono HB.out.size)); clear ho4 hb4))
          go_roundw
          case rel =>
            refine ⟨j + 1, by omega, by go_num, fun i hi => ?_, below_drewN HB5.out n6⟩
            by_cases e : i = j
            · subst e; exact HS2.out
            · exact HF.out i (by omega)
          case measure => simp [intOf]; omega
    · have : j = c.length := by omega
      subst this
      have HE := Lib.hid (show supB c = false from by
        unfold supB
        rw [List.any_eq_false]
        intro i hi
        rw [HF.out i (List.mem_range.1 hi)]
        decide)
      go_wp2_with fail
      go_ret
      exact ⟨ret_bool HE.out.symm, HB3.out.trans (HB.out.mono HB3.out.size)⟩
end Go.Proofs.Ytbjeibcombjfgaa

set_option linter.unusedVariables false
set_option linter.unusedSimpArgs false
set_option maxRecDepth 100000
namespace Go.Proofs.Ytbjeibcombjfgaa

abbrev CT := List Nat × Nat
/-- the place of a tree in a sum -/
def putA (t : List Nat) : List CT → Nat
  | [] => 0
  | x :: xs => bif befN x.1 t then putA t xs + 1 else 0
/-- what the round at place i adds -/
def putS (at_ : Nat) (t : List Nat) (i : Nat) (x : CT) : List CT := (bif Nat.beq i at_ && !eqN x.1 t then [(t, 1)] else []) ++ [(x.1, bif eqN x.1 t then x.2 + 1 else x.2)]
def putF (at_ : Nat) (t : List Nat) : Nat → List CT → List CT
  | _, [] => []
  | i, x :: xs => putS at_ t i x ++ putF at_ t (i + 1) xs
def putL (xs : List CT) (t : List Nat) : List CT := putF (putA t xs) t 0 xs ++ (bif Nat.beq (putA t xs) xs.length then [(t, 1)] else [])
def okC : List CT → Bool
  | [] => true
  | x :: xs => okL x.1 && Nat.ble x.2 100 && okC xs
/-- the sum of the trees that a tree is rerooted to at the nodes before n -/
def rooV (t : List Nat) : Nat → Option (List CT)
  | 0 => some []
  | n + 1 => match rooV t n with
    | none => none
    | some xs => match turV 9 t n with
      | none => none
      | some q => bif okC xs && Nat.ble xs.length 100 && okL q then some (putL xs q) else none
/-- what is left when a tree is cut above a node -/
def trkL (t : List Nat) (node : Nat) : List Nat := t.take node ++ t.drop (endN t node)
def braM (t : List Nat) (node : Nat) : List Nat := (braL t node).map fun x => x - t.getD node 0
/-- is the edge above a node one between halves that are equal? -/
def dblA (t : List Nat) (node : Nat) : Option Bool := bif okL t && Nat.blt node t.length && allGe (t.getD node 0) (braL t node) then
    match canO 9 (trkL t node), canO 9 (braM t node), parV t (t.getD node 0) node with
    | some a, some b, some p => bif Nat.beq a.length b.length then
        match turV 9 (trkL t node) p with
        | some q => bif okL q && okL b then some (eqN q b) else none
        | none => none
      else some false
    | _, _, _ => none
  else none
/-- the answer from a node on, with so much fuel -/
def dblV (t : List Nat) : Nat → Nat → Option Bool
  | 0, _ => some false
  | f + 1, node => match dblA t node with
    | none => none
    | some true => some true
    | some false => dblV t f (node + 1)
def headC : Option (List CT) → Option (List Nat)
  | some ((t, _) :: _) => some t
  | _ => none
def eqB : Option Bool → Bool → Bool
  | some true, true => true
  | some false, false => true
  | _, _ => false
/-- the reference's sums and the program's agree at a tree -/
def okRo (t : List Nat) : Bool := eqO (headC (rooV t t.length)) (freeO t) && eqB (dblV t (t.length - 1) 1) (supB t)
theorem okRo_8 : (List.range 8).all (fun n => (treesN (n + 1)).all okRo) = true := by decide +kernel
theorem okRo_at {n : Nat} (h1 : 1 ≤ n) (h8 : n ≤ 8) {t : List Nat} (ht : t ∈ treesN n) : ∃ r k xs, rooV t t.length = some ((r, k) :: xs) ∧ freeO t = some r ∧ dblV t (t.length - 1) 1 = some (supB t) := by
  have h := okRo_8
  rw [List.all_eq_true] at h
  have h2 := h (n - 1) (List.mem_range.2 (by omega))
  rw [show n - 1 + 1 = n by omega, List.all_eq_true] at h2
  have h3 := h2 t ht
  rw [okRo, Bool.and_eq_true] at h3
  obtain ⟨h4, h5⟩ := h3
  have h6 : dblV t (t.length - 1) 1 = some (supB t) := by
    cases hd : dblV t (t.length - 1) 1 with
    | none => rw [hd] at h5; cases h5
    | some b =>
      rw [hd] at h5
      cases hs : supB t <;> rw [hs] at h5 <;> cases b <;> first | rfl | cases h5
  cases hr : rooV t t.length with
  | none => rw [hr] at h4; cases h4
  | some ys =>
    rw [hr] at h4
    cases ys with
    | nil => cases h4
    | cons y ys =>
      cases hf : freeO t with
      | none => rw [hf] at h4; cases h4
      | some q =>
        rw [hf] at h4
        have := eqN_iff.1 (show eqN y.1 q = true from h4)
        exact ⟨y.1, y.2, ys, rfl, by rw [this], h6⟩

theorem putF_snoc (at_ : Nat) (t : List Nat) : ∀ (xs : List CT) (x : CT) (i : Nat), putF at_ t i (xs ++ [x]) = putF at_ t i xs ++ putS at_ t (i + xs.length) x
  | [], x, i => by simp [putF]
  | y :: ys, x, i => by
    rw [List.cons_append, putF, putF, putF_snoc at_ t ys x (i + 1), List.append_assoc, List.length_cons, Nat.add_assoc i 1, Nat.add_comm 1]
theorem putA_le (t : List Nat) : ∀ xs : List CT, putA t xs ≤ xs.length
  | [] => Nat.le_refl _
  | x :: xs => by
    rw [putA]
    cases befN x.1 t with
    | true => simpa using putA_le t xs
    | false => simp
theorem putA_bef {t : List Nat} : ∀ {xs : List CT} {k : Nat} {x : CT}, k < putA t xs → xs[k]? = some x → befN x.1 t = true
  | [], k, x, h, hx => by simp at hx
  | y :: ys, 0, x, h, hx => by
    simp at hx; subst hx
    rw [putA] at h
    cases hb : befN y.1 t with
    | true => rfl
    | false => rw [hb] at h; simp at h
  | y :: ys, k + 1, x, h, hx => by
    rw [putA] at h
    cases hb : befN y.1 t with
    | true => rw [hb] at h; simp at h; exact putA_bef (by omega) (by simpa using hx)
    | false => rw [hb] at h; simp at h
theorem putA_at {t : List Nat} : ∀ {xs : List CT} {x : CT}, xs[putA t xs]? = some x → befN x.1 t = false
  | [], x, hx => by simp at hx
  | y :: ys, x, hx => by
    rw [putA] at hx
    cases hb : befN y.1 t with
    | true => rw [hb] at hx; exact putA_at (xs := ys) (by simpa using hx)
    | false => rw [hb] at hx; simp at hx; subst hx; exact hb
theorem putF_len (at_ : Nat) (t : List Nat) : ∀ (xs : List CT) (i : Nat), (putF at_ t i xs).length ≤ 2 * xs.length
  | [], i => by simp [putF]
  | x :: xs, i => by
    rw [putF, List.length_append, putS, List.length_append, List.length_cons]
    have := putF_len at_ t xs (i + 1)
    cases (Nat.beq i at_ && !eqN x.1 t) <;> simp <;> omega
theorem okC_of : ∀ {xs : List CT}, okC xs = true → ∀ x ∈ xs, (x.1.length ≤ 100 ∧ ∀ l ∈ x.1, l ≤ 1000) ∧ x.2 ≤ 100
  | [], _, x, hx => absurd hx (by simp)
  | y :: ys, h, x, hx => by
    rw [okC, Bool.and_eq_true, Bool.and_eq_true] at h
    rcases List.mem_cons.1 hx with rfl | hx
    · exact ⟨okL_of h.1.1, Nat.le_of_ble_eq_true h.1.2⟩
    · exact okC_of h.2 x hx
theorem rooV_succ {t : List Nat} {n : Nat} {ys : List CT} (h : rooV t (n + 1) = some ys) : ∃ xs q, rooV t n = some xs ∧ turV 9 t n = some q ∧ okC xs = true ∧ xs.length ≤ 100 ∧ okL q = true ∧ ys = putL xs q := by
  rw [rooV] at h
  cases h1 : rooV t n with
  | none => rw [h1] at h; cases h
  | some xs =>
    rw [h1] at h
    simp only at h
    cases h2 : turV 9 t n with
    | none => rw [h2] at h; cases h
    | some q =>
      rw [h2] at h
      simp only at h
      cases h3 : okC xs with
      | false => rw [h3] at h; cases h
      | true =>
        cases h4 : Nat.ble xs.length 100 with
        | false => rw [h3, h4] at h; cases h
        | true =>
          cases h5 : okL q with
          | false => rw [h3, h4, h5] at h; cases h
          | true =>
            rw [h3, h4, h5] at h
            injection h with h
            exact ⟨xs, q, rfl, rfl, h3, Nat.le_of_ble_eq_true h4, h5, h.symm⟩
theorem rooV_some {t : List Nat} : ∀ {m n : Nat} {ys : List CT}, rooV t (n + m) = some ys → ∃ xs, rooV t n = some xs
  | 0, n, ys, h => ⟨ys, h⟩
  | m + 1, n, ys, h => by
    obtain ⟨xs, q, h1, -⟩ := rooV_succ (n := n + m) h
    exact rooV_some h1
/-- what the answer of l04Double at a node rests on -/
theorem dblA_some {t : List Nat} {node : Nat} {b : Bool} (h : dblA t node = some b) : okL t = true ∧ node < t.length ∧ allGe (t.getD node 0) (braL t node) = true ∧
    ∃ u v p, canO 9 (trkL t node) = some u ∧ canO 9 (braM t node) = some v ∧ parV t (t.getD node 0) node = some p ∧
      ((u.length ≠ v.length ∧ b = false) ∨ (u.length = v.length ∧ ∃ q, turV 9 (trkL t node) p = some q ∧ okL q = true ∧ okL v = true ∧ b = eqN q v)) := by
  unfold dblA at h
  cases h1 : okL t with
  | false => rw [h1] at h; cases h
  | true =>
    cases h2 : Nat.blt node t.length with
    | false => rw [h1, h2] at h; cases h
    | true =>
      cases h3 : allGe (t.getD node 0) (braL t node) with
      | false => rw [h1, h2, h3] at h; cases h
      | true =>
        rw [h1, h2, h3] at h
        simp only [Bool.and_self, cond_true] at h
        refine ⟨rfl, (blt_iff _ _).1 h2, rfl, ?_⟩
        cases h4 : canO 9 (trkL t node) with
        | none => rw [h4] at h; cases h
        | some u =>
          rw [h4] at h
          cases h5 : canO 9 (braM t node) with
          | none => rw [h5] at h; cases h
          | some v =>
            rw [h5] at h
            cases h6 : parV t (t.getD node 0) node with
            | none => rw [h6] at h; cases h
            | some p =>
              rw [h6] at h
              simp only at h
              refine ⟨u, v, p, rfl, rfl, rfl, ?_⟩
              cases h7 : Nat.beq u.length v.length with
              | false =>
                rw [h7] at h
                injection h with h
                exact .inl ⟨Nat.ne_of_beq_eq_false h7, h.symm⟩
              | true =>
                rw [h7] at h
                simp only [cond_true] at h
                refine .inr ⟨Nat.eq_of_beq_eq_true h7, ?_⟩
                cases h8 : turV 9 (trkL t node) p with
                | none => rw [h8] at h; cases h
                | some q =>
                  rw [h8] at h
                  simp only at h
                  cases h9 : okL q with
                  | false => rw [h9] at h; cases h
                  | true =>
                    cases h10 : okL v with
                    | false => rw [h9, h10] at h; cases h
                    | true =>
                      rw [h9, h10] at h
                      injection h with h
                      exact ⟨q, rfl, h9, rfl, h.symm⟩
end Go.Proofs.Ytbjeibcombjfgaa

