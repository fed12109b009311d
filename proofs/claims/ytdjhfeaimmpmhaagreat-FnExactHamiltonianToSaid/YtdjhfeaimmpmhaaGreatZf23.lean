/- DROP Walk: grafted of the program, for one tree at the root. -/
import Derived.Test.YtdjhfeaimmpmhaaGreatZf22
import Derived.Test.YtdjhfeaimmpmhaaGreatZf8
import Derived.Test.YtdjhfeaimmpmhaaGreatZf9
import Derived.Test.YtdjhfeaimmpmhaaGreatZf6
import Derived.Test.YtdjhfeaimmpmhaaGreatZf20
import Derived.Test.YtdjhfeaimmpmhaaGreatZf12
set_option maxRecDepth 100000
set_option linter.unusedVariables false
set_option linter.unusedSimpArgs false
namespace Go.Proofs.YtdjhfeaimmpmhaaGreat
open Go.RowKit

/-- rows of neighbours, apart or not: each a list of numbers in a block from B on -/
def RN (w : World) (B : Nat) (vs : List Value) (nss : List (List Nat)) : Prop :=
  vs.length = nss.length ∧ ∀ (k : Nat) (u : Value) (ns : List Nat), vs[k]? = some u → nss[k]? = some ns → OwnInts w B tN u (up ns)
section
variable {w w' : World} {B : Nat} {vs : List Value} {nss : List (List Nat)}
theorem RN.below (h : RN w B vs nss) (hb : Below w.heap.size w w') : RN w' B vs nss := ⟨h.1, fun k u zs hu hz => (h.2 k u zs hu hz).below hb⟩
theorem RN.mono {B' : Nat} (h : RN w B vs nss) (hB : B' ≤ B) : RN w B' vs nss := ⟨h.1, fun k u zs hu hz => (h.2 k u zs hu hz).mono hB⟩
theorem RN.snoc {u : Value} {ns : List Nat} (h : RN w B vs nss) (hu : OwnInts w B tN u (up ns)) : RN w B (vs ++ [u]) (nss ++ [ns]) := by
  refine ⟨by simp [h.1], fun k u' zs' hk hz => ?_⟩
  by_cases hlt : k < vs.length
  · rw [List.getElem?_append_left hlt] at hk
    rw [List.getElem?_append_left (by rw [← h.1]; exact hlt)] at hz
    exact h.2 k u' zs' hk hz
  · have hkl := (List.getElem?_eq_some_iff.1 hk).1
    simp at hkl
    have : k = vs.length := by omega
    subst this
    rw [List.getElem?_append_right (Nat.le_refl _)] at hk
    rw [List.getElem?_append_right (by rw [h.1]; exact Nat.le_refl _), h.1] at hz
    simp at hk hz
    subst hk; subst hz
    exact hu
theorem RN.set {k : Nat} {u : Value} {ns : List Nat} (h : RN w B vs nss) (hu : OwnInts w B tN u (up ns)) : RN w B (vs.set k u) (nss.set k ns) := by
  refine ⟨by simp [h.1], fun j u' zs' hj hz => ?_⟩
  rw [List.getElem?_set] at hj hz
  by_cases hjk : k = j
  · subst hjk
    rw [if_pos rfl] at hj hz
    split at hj
    · rw [if_pos (by rw [← h.1]; assumption)] at hz
      injection hj with hj; injection hz with hz
      subst hj; subst hz
      exact hu
    · cases hj
  · rw [if_neg hjk] at hj hz
    exact h.2 j u' zs' hj hz
theorem RN.kept {v : Value} {e : TypeId} (h : RN w B vs nss) (hg : w.grownBy w' v.ownBlock) (hb : BT w e v) (hne : tN ≠ e) : RN w' B vs nss :=
  ⟨h.1, fun k u zs hu hz => (h.2 k u zs hu hz).kept hg ((h.2 k u zs hu hz).1.bt.ne hb hne)⟩
theorem RN.rows {v : Value} {B' : Nat} (h : RN w B vs nss) (ho : Own w B' tNL v vs) : Rows w v (nss.map up) :=
  ⟨vs, ho.cells, by rw [List.length_map]; exact h.1, fun k u zs hu hz => by
    rw [List.getElem?_map] at hz
    cases hn : nss[k]? with
    | none => rw [hn] at hz; cases hz
    | some ns => rw [hn] at hz; injection hz with hz; subst hz; exact (h.2 k u ns hu hn).ints⟩
theorem RN.at_ {k : Nat} {ns : List Nat} (h : RN w B vs nss) (hz : nss[k]? = some ns) : ∃ A c, vs[k]? = some (.slice A ns.length c) ∧ OwnInts w B tN (.slice A ns.length c) (up ns) := by
  have hk : k < vs.length := by rw [h.1]; exact (List.getElem?_eq_some_iff.1 hz).1
  have hu : vs[k]? = some (vs[k]'hk) := List.getElem?_eq_getElem _
  have ho := h.2 k _ ns hu hz
  obtain ⟨A, c, he, -, -, -⟩ := ho.ints.open_
  rw [up_len] at he
  exact ⟨A, c, by rw [hu, he], by rw [← he]; exact ho⟩
end
theorem NW.rn {w : World} {B g n : Nat} {vs : List Value} {nss : List (List Nat)} {es : List Value} {ess : List (List Int)} (h : NW w B g n vs nss es ess) : RN w B vs nss :=
  ⟨by rw [h.len, h.len'], fun k u ns hu hz => h.fam.row k u (up ns) (by rw [List.getElem?_append_left (List.getElem?_eq_some_iff.1 hu).1]; exact hu) (by rw [List.getElem?_append_left (by rw [List.length_map]; exact (List.getElem?_eq_some_iff.1 hz).1), List.getElem?_map, hz]; rfl)⟩

/-- the neighbours' lists of v, moved behind n nodes, those of its root with node 0 -/
def mvN (n k : Nat) (os : List Nat) : List Nat := os.map (fun o => n + o) ++ (if k = 0 then [0] else [])
def mvL (n : Nat) (nss : List (List Nat)) : List (List Nat) := nss.zipIdx.map fun (os, k) => mvN n k os
theorem mvL_take {n k : Nat} {nss : List (List Nat)} {os : List Nat} (h : nss[k]? = some os) : (mvL n nss).take (k + 1) = (mvL n nss).take k ++ [mvN n k os] := by
  rw [List.take_add_one]
  congr 1
  unfold mvL
  simp [h]
theorem mvL_len (n : Nat) (nss : List (List Nat)) : (mvL n nss).length = nss.length := by simp [mvL]
theorem grNear_is (u v : List Nat) : grNear u v = ((nearN u).set 0 ((nearN u).getD 0 [] ++ [u.length])) ++ mvL u.length (nearN v) := rfl
theorem up_snoc (a : List Nat) (x : Nat) : ints (up a) ++ [.int .i64 (x : Int)] = ints (up (a ++ [x])) := by simp [ints, up]
theorem up_in {a : List Nat} {M : Nat} (hM : M ≤ 1000000000) (h : ∀ x ∈ a, x ≤ M) : ∀ z ∈ up a, In64 z := by
  intro z hz
  obtain ⟨x, hx, rfl⟩ := List.mem_map.1 hz
  have := h x hx
  unfold In64; omega

def gNr (u v : List Nat) : Bool := bif Nat.ble (u.length + v.length) 6 then Nat.beq (grNear u v).length (u.length + v.length) && (grNear u v).all (fun ns => ns.all fun n => Nat.blt n (grNear u v).length) else true
theorem gNr_all : T6n.all (fun u => T6n.all (gNr u)) = true := by decide +kernel
theorem gNr_at {u v : List Nat} (hu : u ∈ T6n) (hv : v ∈ T6n) (hs : u.length + v.length ≤ 6) : (grNear u v).length = u.length + v.length ∧ ∀ ns ∈ grNear u v, ∀ n ∈ ns, n < (grNear u v).length := by
  have h := gNr_all
  rw [List.all_eq_true] at h
  have h1 := h u hu
  rw [List.all_eq_true] at h1
  have h2 := h1 v hv
  unfold gNr at h2
  have hb : Nat.ble (u.length + v.length) 6 = true := Nat.ble_eq_true_of_le hs
  rw [hb, cond_true, Bool.and_eq_true, List.all_eq_true] at h2
  refine ⟨Nat.eq_of_beq_eq_true h2.1, fun ns hns n hn => ?_⟩
  have h3 := h2.2 ns hns
  rw [List.all_eq_true] at h3
  exact (blt_iff _ _).1 (h3 n hn)
theorem own_mv0 {w : World} {B : Nat} {V : Value} {n : Nat} {ns : List Nat} (h : Own w B tN V (ints (up (ns.map fun o => n + o)) ++ [.int .i64 0])) (hn : n ≤ 1000) (hb : ∀ x ∈ ns, x ≤ 1000) : OwnInts w B tN V (up (mvN n 0 ns)) := by
  refine ⟨by rw [mvN, if_pos rfl, ← up_snoc]; exact h, up_in (M := 1000000) (by omega) fun x hx => ?_⟩
  rw [mvN] at hx
  rcases List.mem_append.1 hx with hx | hx
  · obtain ⟨y, hy, rfl⟩ := List.mem_map.1 hx
    have := hb y hy; omega
  · simp at hx; omega
theorem own_mvS {w : World} {B : Nat} {V : Value} {n k : Nat} {ns : List Nat} (h : OwnInts w B tN V (up (ns.map fun o => n + o))) (hk : k ≠ 0) : OwnInts w B tN V (up (mvN n k ns)) := by
  rw [mvN, if_neg hk, List.append_nil]
  exact h

set_option maxHeartbeats 1000000 in
theorem lib_CloneN (w : World) (v : Value) (zs : List Int) (ha : Ints w v zs) (hn : zs.length ≤ 4294967296) :
    Calls Tryz.prog 207 #[v] w fun e w' => ∃ r, e = .returned r ∧ OwnInts w' w.heap.size tN r zs ∧ Below w.heap.size w w' := by
  obtain ⟨A, c, rfl, l1, l2, h3⟩ := ha.open_
  have HA := Lib.hid ha
  clear h3 ha
  have OL := Lib.hid (own_lit w tN [] (by simp [maxLen]))
  have B1 := Lib.hid (below1 w (.cells #[] tN))
  have en := fun (W : World) (a : Option Addr) (n c : Nat) => Lib.run_eql_slice_nil (P := Tryz.prog) W 119 3 a n c 0 0 Tryz.underlying119
  go_enter Tryz.func207, Tryz.ntmps207
  cases A with
  | none =>
    have HZ := Lib.hid (show zs = [] by
      obtain ⟨A, c', hv, -, -, h3⟩ := HA.out.open_
      simp only [Value.slice.injEq] at hv
      obtain ⟨rfl, -, -⟩ := hv
      cases zs with
      | nil => rfl
      | cons z r => obtain ⟨ad, _, hA, _⟩ := h3 0 (by simp); cases hA)
    go_wp2_with fail
    go_ret
    refine ⟨_, rfl, ?_, Below.refl _ _⟩
    rw [HZ.out]
    exact OwnInts.nil _ _ _
  | some ad =>
    go_wp2_with (at_builtin; refine wpList_appN T_nat OL.out (HA.out.below B1.out).1 (by rw [ints_len]; simp; omega) B1.out.size (ints_oneV _) rfl (by rfl) (by rfl) (by rfl) ?_; intro v1 w2 hown1 hgr1)
    go_ret
    exact ⟨_, rfl, ⟨by simpa using hown1, HA.out.2⟩, hgr1.below B1.out (by simp) OL.out.ge⟩

set_option maxHeartbeats 16000000 in
theorem i_grafted (w : World) (vu vv : Value) (an al : Addr) (cn cl : Nat) (u v r : List Nat) (hu : Ints w vu (up u)) (hv : Ints w vv (up v)) (hn : w.cell? an = some (.int .i64 0)) (hl : w.cell? al = some vv)
    (hu6 : u.length ≤ 6) (hv6 : v.length ≤ 6) (hu1 : 1 ≤ u.length) (hul : ∀ l ∈ u, l ≤ 6) (hvl : ∀ l ∈ v, l ≤ 6) (hr : tfO 9 (grNear u v) 0 0 = some r) (hr6 : r.length ≤ 6) (hgl : (grNear u v).length ≤ 12) (hgb : ∀ ns ∈ grNear u v, ∀ n ∈ ns, n < (grNear u v).length) (hg0 : 0 < (grNear u v).length) :
    Calls Tryz.prog 175 #[vu, .slice (some an) 1 cn, .slice (some al) 1 cl] w fun e w' => ∃ x, e = .returned x ∧ OwnInts w' w.heap.size tI x (up r) ∧ Below w.heap.size w w' := by
  have HTF := Lib.hid (fun W x (h : Rows W x ((grNear u v).map up)) => show Calls Tryz.prog 171 #[x, .int .i64 0, .int .i64 (-1)] W fun e w' => ∃ x, e = .returned x ∧ OwnInts w' W.heap.size tI x (up r) ∧ Below W.heap.size W w' from i_treeFrom 9 W x (grNear u v) 0 0 r h hr (by omega) (by omega) hg0 (by omega) hgb)
  have HNU := Lib.hid (i_nearOf w vu u hu (by omega) (fun l hl => by have := hul l hl; omega))
  have HVL := Lib.hid (show ∀ l ∈ v, l ≤ 1000000 from fun l hl => by have := hvl l hl; omega)
  have HV := Lib.hid hv
  obtain ⟨Au, cu, rfl, -, -, -⟩ := hu.open_
  obtain ⟨Av, cv, rfl, -, -, -⟩ := hv.open_
  rw [up_len] at HV HNU ⊢
  rw [up_len] at hl
  have HCN := Lib.hid hn
  have HCL := Lib.hid hl
  clear hu hv hr hul hvl hl hn hgl hgb hg0
  go_enter Tryz.func175, Tryz.ntmps175
  go_wp2_with (go_at_call 169; refine HNU.out.mono ?_; rintro e w1 ⟨g1, vs1, es1, ess1, rfl, hw1, hnb1, hb1⟩; have HW1 := Lib.hid hw1; have HNB1 := Lib.hid hnb1; have HB1 := Lib.hid hb1; clear hw1 hnb1 hb1)
  go_loopw [7, 20] (fun o x wr => ∃ i : Nat, i ≤ 1 ∧ x = .int .i64 i ∧ Below w.heap.size w wr ∧ ((i = 0 ∧ o = .slice (some ⟨g1, 0, none⟩) u.length u.length ∧ wr = w1) ∨ (i = 1 ∧ ∃ vs, Own wr w.heap.size tNL o vs ∧ RN wr w.heap.size vs (grNear u v)))) (fun _ x _ => 1 - (intOf x).toNat)
  case atStart => exact ⟨0, by omega, rfl, HB1.out, .inl ⟨rfl, rfl, rfl⟩⟩
  case round =>
    obtain ⟨i, hi, rfl, hb, hcs⟩ := hrel
    rcases hcs with ⟨rfl, rfl, rfl⟩ | ⟨rfl, vs, hov, hrn⟩
    · have hc1 := keepCell HB1.out HCL.out
      have hc2 := keepCell HB1.out HCN.out
      have HVW := Lib.hid (HV.out.below HB1.out)
      go_wp2_with (go_at_call 169; go_loud (refine (i_nearOf _ _ v HVW.out (by omega) HVL.out).mono ?_; rintro e w4 ⟨g2, vs2, es2, ess2, rfl, hw2, hnb2, hb2⟩; have HW2 := Lib.hid hw2; have HNB2 := Lib.hid hnb2; have HB4 := Lib.hid (HB1.out.trans (hb2.mono HB1.out.size)); have HB24 := Lib.hid hb2; clear hw2 hnb2 hb2))
      clear hc1 hc2
      have HO0 := Lib.hid (HW1.out.own.below HB24.out)
      have HR0 := Lib.hid (HW1.out.rn.below HB24.out)
      have HG12 := Lib.hid (show g1 < g2 from by have h1 := HW1.out.own.lt g1 rfl; have h2 := HW2.out.own.ge g2 rfl; omega)
      have hvl := HW2.out.len
      go_loopw [7, 30] (fun o x wz => ∃ (k : Nat) (vs : List Value), k ≤ v.length ∧ x = .int .i64 k ∧ Own wz w.heap.size tNL o vs ∧ RN wz w.heap.size vs (nearN u ++ (mvL u.length (nearN v)).take k) ∧ Grow w4 wz (.slice (some ⟨g1, 0, none⟩) u.length u.length) o) (fun _ x _ => v.length - (intOf x).toNat)
      case atStart => exact ⟨0, vs1, Nat.zero_le _, rfl, HO0.out, by simpa using HR0.out, Grow.refl _ _⟩
      case round =>
        obtain ⟨k, vs, hk, rfl, hov, hrn, hgz⟩ := hrel
        rename World => wz
        have HOV := Lib.hid hov
        have HRN := Lib.hid hrn
        have HGZ := Lib.hid hgz
        have HBZ := Lib.hid (hgz.below HB4.out HB4.out.size (HO0.out.ge))
        have hvsl : vs.length ≤ 12 := by
          have h1 := hrn.1
          have h2 := HW1.out.len'
          have h3 := HW2.out.len'
          rw [List.length_append, List.length_take, mvL_len] at h1
          omega
        obtain ⟨Ao, co, rfl, -, -⟩ := hov.cells.open_
        clear hov hrn hgz
        by_cases hlt : k < v.length
        · obtain ⟨ns, hns⟩ : ∃ ns, (nearN v)[k]? = some ns := ⟨_, List.getElem?_eq_getElem (by rw [HW2.out.len']; exact hlt)⟩
          have hrow := (HW2.out.rn.kept HGZ.out.1 HO0.out.bt (by decide))
          obtain ⟨An, cn', hvk, hon⟩ := hrow.at_ hns
          have hown2 := HW2.out.own.kept HGZ.out.1 (.inr (by have := HG12.out; simp [Value.ownBlock]; omega))
          obtain ⟨ad, n', c', he, hcell⟩ := hown2.cells.at_ hvk
          simp only [Value.slice.injEq, Option.some.injEq] at he
          obtain ⟨rfl, -, -⟩ := he
          rw [addr_add] at hcell
          have hnb := HNB2.out ns (List.mem_of_getElem? hns)
          have HNS := Lib.hid hnb.2
          have hnl := hnb.1
          have HON := Lib.hid hon
          have HMV := Lib.hid (mvL_take (n := u.length) hns)
          have hkk : (k : Int) < (v.length : Int) := by omega
          have OL := Lib.hid (show OwnInts (wz.alloc (.cells #[] tN)) wz.heap.size tN (.slice (some ⟨wz.heap.size, 0, none⟩) 0 0) (up ((ns.take 0).map (fun o => u.length + o))) from ⟨own_lit wz tN [] (by simp [maxLen]), fun z hz => by simp [up] at hz⟩)
          clear hns hrow hvk hon hown2 hnb
          go_wp2_with fail
          go_loopw [13, 38] (fun o x wy => ∃ j : Nat, j ≤ ns.length ∧ x = .int .i64 j ∧ OwnInts wy wz.heap.size tN o (up ((ns.take j).map (fun o => u.length + o))) ∧ Below wz.heap.size wz wy) (fun _ x _ => ns.length - (intOf x).toNat)
          case atStart => exact ⟨0, Nat.zero_le _, rfl, OL.out, below1 _ _⟩
          case round =>
            obtain ⟨j, hj, rfl, hom, hby⟩ := hrel
            rename World => wy
            obtain ⟨Am, cm, he, -, -, -⟩ := hom.ints.open_
            rw [up_len, List.length_map, List.length_take, Nat.min_eq_left hj] at he
            subst he
            have HOM := Lib.hid hom
            have HBY := Lib.hid hby
            clear hom hby OL
            by_cases hlj : j < ns.length
            · obtain ⟨An', cn2, he, -, -, g3⟩ := (HON.out.ints.below HBY.out).open_
              rw [up_len] at he g3
              simp only [Value.slice.injEq, true_and] at he
              obtain ⟨rfl, rfl⟩ := he
              obtain ⟨ad, z, rfl, hz, -, hcz⟩ := g3 j hlj
              obtain ⟨x, hx⟩ : ∃ x, ns[j]? = some x := ⟨_, List.getElem?_eq_getElem hlj⟩
              rw [up_get, hx] at hz
              injection hz with hz
              subst hz
              have hx6 := HNS.out x (List.mem_of_getElem? hx)
              have HTK := Lib.hid (show (ns.take (j + 1)).map (fun o => u.length + o) = (ns.take j).map (fun o => u.length + o) ++ [u.length + x] from by rw [List.take_add_one, hx, List.map_append]; rfl)
              have hjj : (j : Int) < (ns.length : Int) := by omega
              have hsum : (u.length : Int) + (x : Int) = ((u.length + x : Nat) : Int) := by omega
              have hw1 : wrap64 ((u.length : Int) + (x : Int)) = ((u.length + x : Nat) : Int) := by rw [hsum]; unfold wrap64; omega
              have hw2 : IntKind.i64.wrap ((u.length : Int) + (x : Int)) = ((u.length + x : Nat) : Int) := by rw [hsum]; exact IntWalk.i64_in _ (by omega)
              have hml : ((ns.take j).map (fun o => u.length + o)).length = j := by rw [List.length_map, List.length_take]; omega
              have HML := Lib.hid hml
              clear g3 hx hsum hml
              go_wp2_with (at_builtin; go_loud (refine wpList_app1 T_nat HOM.out.1 (by rw [ints_len, up_len, HML.out]; omega) HBY.out.size (by rfl) rfl (by rfl) (by rfl) (by rfl) ?_; intro v1 w6 hown1 hgr1; have HN := Lib.hid hown1; have HGR := Lib.hid hgr1; clear hown1 hgr1))
              go_roundw
              case rel =>
                refine ⟨j + 1, by omega, by go_num, ?_, HGR.out.below HBY.out HBY.out.size HOM.out.1.ge⟩
                have h := HN.out
                rw [HTK.out]
                rw [show ((u.length : Int) + (x : Int)) = ((u.length + x : Nat) : Int) from by omega, up_snoc] at h
                refine ⟨h, fun z hz => ?_⟩
                rw [up_append] at hz
                rcases List.mem_append.1 hz with hz | hz
                · exact HOM.out.2 z hz
                · simp [up] at hz; subst hz; unfold In64; omega
              case measure => simp [intOf]; omega
            · have hjl : j = ns.length := by omega
              have HTK := Lib.hid (show ns.take j = ns from List.take_of_length_le (by omega))
              clear hjl
              have HBW := Lib.hid (HBZ.out.trans (HBY.out.mono HBZ.out.size))
              have HOY := Lib.hid (HOV.out.below HBY.out)
              cases k with
              | zero =>
                have hc2 := keepCell HBW.out HCN.out
                go_wp2_with (first
                  | (have hgo := HN1; clear hgo; at_builtin; go_loud (refine wpList_app1 T_nrow HOY1.out (by omega) (Nat.le_trans HBZ.out.size HBY1.out.size) (by cases A1 <;> rfl) rfl (by rfl) (by rfl) (by rfl) ?_; intro v2 w7 hown2 hgr2; have HN2 := Lib.hid hown2; have HGR2 := Lib.hid hgr2; clear hown2 hgr2))
                  | (at_builtin; go_loud (refine wpList_app1 T_nat HOM.out.1 (by rw [ints_len, up_len, List.length_map, List.length_take]; omega) HBY.out.size (by rfl) rfl (by rfl) (by rfl) (by rfl) ?_; intro v1 w6 hown1 hgr1; obtain ⟨A1, c1, hv1, -, -⟩ := hown1.cells.open_; rw [List.length_append, ints_len, up_len, List.length_map, List.length_take, Nat.min_eq_left hj, List.length_singleton] at hv1; subst hv1; have HN1 := Lib.hid hown1; have HBY1 := Lib.hid (hgr1.below HBY.out HBY.out.size HOM.out.1.ge); have HOY1 := Lib.hid (HOV.out.below HBY1.out); clear hown1 hgr1)))
                go_roundw
                case rel =>
                  have h := HN1.out
                  rw [HTK.out] at h
                  have hm := own_mv0 h (by omega) (fun x hx => by have := HNS.out x hx; omega)
                  refine ⟨0 + 1, _, by omega, by go_num, HN2.out, ?_, HGZ.out.trans (Grow.pre HBY1.out HGR2.out)⟩
                  rw [HMV.out, ← List.append_assoc]
                  exact (((HRN.out.below HBY1.out).snoc (hm.mono HBZ.out.size))).kept HGR2.out.1 HOY1.out.bt (by decide)
                case measure => simp [intOf]; omega
              | succ k =>
                have hk1 : ((((k + 1 : Nat) : Int)) == 0) = false := by simp; omega
                go_wp2_with (at_builtin; go_loud (refine wpList_app1 T_nrow HOY.out (by omega) (Nat.le_trans HBZ.out.size HBY.out.size) (by cases Am <;> rfl) rfl (by rfl) (by rfl) (by rfl) ?_; intro v2 w7 hown2 hgr2; have HN2 := Lib.hid hown2; have HGR2 := Lib.hid hgr2; clear hown2 hgr2))
                go_roundw
                case rel =>
                  have h := HOM.out
                  rw [HTK.out] at h
                  have hm := own_mvS (k := k + 1) h (by omega)
                  refine ⟨k + 1 + 1, _, by omega, by go_num, HN2.out, ?_, HGZ.out.trans (Grow.pre HBY.out HGR2.out)⟩
                  rw [HMV.out, ← List.append_assoc]
                  exact (((HRN.out.below HBY.out).snoc (hm.mono HBZ.out.size))).kept HGR2.out.1 HOY.out.bt (by decide)
                case measure => simp [intOf]; omega
        · have hkl : v.length ≤ k := by omega
          have HTK := Lib.hid (show (mvL u.length (nearN v)).take k = mvL u.length (nearN v) from List.take_of_length_le (by rw [mvL_len, HW2.out.len']; exact hkl))
          obtain ⟨n0, hn0⟩ : ∃ n0, (nearN u)[0]? = some n0 := ⟨_, List.getElem?_eq_getElem (by rw [HW1.out.len']; omega)⟩
          have hn1 : (nearN u ++ (mvL u.length (nearN v)).take k)[0]? = some n0 := by rw [List.getElem?_append_left (by rw [HW1.out.len']; omega)]; exact hn0
          obtain ⟨A0, c0, hv0, ho0⟩ := HRN.out.at_ hn1
          have hn0l := (HNB1.out n0 (List.mem_of_getElem? hn0)).1
          have HN0 := Lib.hid (HNB1.out n0 (List.mem_of_getElem? hn0)).2
          have hvp : 0 < vs.length := (List.getElem?_eq_some_iff.1 hv0).1
          rcases HOV.out.cases with ⟨hz, hz2⟩ | ⟨g, cap, cur, he, -⟩
          · rw [hz2] at hvp; simp at hvp
          simp only [Value.slice.injEq, true_and] at he
          obtain ⟨rfl, rfl⟩ := he
          have HGN := Lib.hid (show (nearN u ++ mvL u.length (nearN v)).set 0 (n0 ++ [u.length]) = grNear u v from by
            rw [grNear_is, List.set_append_left _ _ (by rw [HW1.out.len']; omega), List.getD_eq_getElem?_getD, hn0]; rfl)
          have HV0 := Lib.hid hv0
          have HOW := Lib.hid ho0
          have hnd : wz.cell? an = some (.int .i64 0) := keepCell HBZ.out HCN.out
          have HND := Lib.hid hnd
          have hng : wz.cell? ⟨g, 0, none⟩ = some (.slice A0 n0.length c0) := by
            obtain ⟨ad, n', c', he, h⟩ := HOV.out.cells.at_ hv0
            simp only [Value.slice.injEq, Option.some.injEq] at he
            obtain ⟨rfl, -, -⟩ := he
            rwa [addr_add] at h
          have HNG := Lib.hid hng
          have hpi : (0 : Int) < (vs.length : Int) := by omega
          clear hn0 hn1 hv0 ho0 hkl
          go_upto_region 19 with fail
          refine AnyT.begin (k := 17) (S := fun b w' => True ∧ (b = false → w'.cell? an = some (.int .i64 0) ∧ w'.cell? ⟨g, 0, none⟩ = some (.slice A0 n0.length c0))) (by kernel_rfl) ?_
          have hS : (fun (b : Bool) (w' : World) => True ∧ (b = false → w'.cell? an = some (.int .i64 0) ∧ w'.cell? ⟨g, 0, none⟩ = some (.slice A0 n0.length c0))) false wz.drew := ⟨trivial, fun _ => ⟨hnd, hng⟩⟩
          clear hnd hng
          refine AnyT.take0 (i := 0) (v := ?_) rfl (by kernel_rfl) (by kernel_rfl) (by kernel_rfl) (by decide) (fun _ _ _ h => h) hS (Or.inl ⟨by first | kernel_rfl | rfl, ?_⟩) ?_
          rotate_left
          · intro w' hw'; clear hw'; go_simp; try with_reducible rfl
          try simp only [Act.put, List.setIfInBounds_toArray, List.set_cons_zero, List.set_cons_succ]
          refine AnyT.take0 (i := 1) (v := ?_) rfl (by kernel_rfl) (by kernel_rfl) (by kernel_rfl) (by decide) (fun _ _ _ h => h) hS (Or.inl ⟨by first | kernel_rfl | rfl, ?_⟩) ?_
          rotate_left
          · intro w' hw'; clear hw'; go_simp; try with_reducible rfl
          try simp only [Act.put, List.setIfInBounds_toArray, List.set_cons_zero, List.set_cons_succ]
          refine AnyT.take0 (i := 2) (v := ?_) rfl (by kernel_rfl) (by kernel_rfl) (by kernel_rfl) (by decide) (fun _ _ _ h => h) hS (Or.inl ⟨by first | kernel_rfl | rfl, ?_⟩) ?_
          rotate_left
          · intro w' hw'; clear hw'; go_simp; try with_reducible rfl
          try simp only [Act.put, List.setIfInBounds_toArray, List.set_cons_zero, List.set_cons_succ]
          refine AnyT.take0 (i := 3) (v := ?_) rfl (by kernel_rfl) (by kernel_rfl) (by kernel_rfl) (by decide) (fun _ _ _ h => h) hS (Or.inl ⟨by first | kernel_rfl | rfl, ?_⟩) ?_
          rotate_left
          · intro w' hw'; clear hw'; go_simp; try with_reducible rfl
          try simp only [Act.put, List.setIfInBounds_toArray, List.set_cons_zero, List.set_cons_succ]
          refine AnyT.take1 (i := 4) (v := ?_) rfl (by kernel_rfl) (by kernel_rfl) (by kernel_rfl) (by decide) (by kernel_rfl) rfl (fun _ _ _ h => h) hS (Or.inl ⟨by first | kernel_rfl | rfl, ?_⟩) ?_
          rotate_left
          · intro w' hw'; have hw3 := hw'.2 rfl; go_simp; try with_reducible rfl
          try simp only [Act.put, List.setIfInBounds_toArray, List.set_cons_zero, List.set_cons_succ]
          refine AnyT.take0 (i := 5) (v := ?_) rfl (by kernel_rfl) (by kernel_rfl) (by kernel_rfl) (by decide) (fun _ _ _ h => h) hS (Or.inl ⟨by first | kernel_rfl | rfl, ?_⟩) ?_
          rotate_left
          · intro w' hw'; clear hw'; go_simp; try with_reducible rfl
          try simp only [Act.put, List.setIfInBounds_toArray, List.set_cons_zero, List.set_cons_succ]
          refine AnyT.take0 (i := 6) (v := ?_) rfl (by kernel_rfl) (by kernel_rfl) (by kernel_rfl) (by decide) (fun _ _ _ h => h) hS (Or.inl ⟨by first | kernel_rfl | rfl, ?_⟩) ?_
          rotate_left
          · intro w' hw'; clear hw'; go_simp; try with_reducible rfl
          try simp only [Act.put, List.setIfInBounds_toArray, List.set_cons_zero, List.set_cons_succ]
          refine AnyT.take0 (i := 7) (v := ?_) rfl (by kernel_rfl) (by kernel_rfl) (by kernel_rfl) (by decide) (fun _ _ _ h => h) hS (Or.inl ⟨by first | kernel_rfl | rfl, ?_⟩) ?_
          rotate_left
          · intro w' hw'; clear hw'; go_simp; try with_reducible rfl
          try simp only [Act.put, List.setIfInBounds_toArray, List.set_cons_zero, List.set_cons_succ]
          refine AnyT.take0 (i := 8) (v := ?_) rfl (by kernel_rfl) (by kernel_rfl) (by kernel_rfl) (by decide) (fun _ _ _ h => h) hS (Or.inl ⟨by first | kernel_rfl | rfl, ?_⟩) ?_
          rotate_left
          · intro w' hw'; clear hw'; go_simp; try with_reducible rfl
          try simp only [Act.put, List.setIfInBounds_toArray, List.set_cons_zero, List.set_cons_succ]
          refine AnyT.take1 (i := 9) (v := ?_) rfl (by kernel_rfl) (by kernel_rfl) (by kernel_rfl) (by decide) (by kernel_rfl) rfl (fun _ _ _ h => h) hS (Or.inl ⟨by first | kernel_rfl | rfl, ?_⟩) ?_
          rotate_left
          · intro w' hw'; have hw3 := hw'.2 rfl; go_simp; try with_reducible rfl
          try simp only [Act.put, List.setIfInBounds_toArray, List.set_cons_zero, List.set_cons_succ]
          refine AnyT.take0 (i := 10) (v := ?_) rfl (by kernel_rfl) (by kernel_rfl) (by kernel_rfl) (by decide) (fun _ _ _ h => h) hS (Or.inl ⟨by first | kernel_rfl | rfl, ?_⟩) ?_
          rotate_left
          · intro w' hw'; clear hw'; go_simp; try with_reducible rfl
          try simp only [Act.put, List.setIfInBounds_toArray, List.set_cons_zero, List.set_cons_succ]
          refine AnyT.take1 (i := 11) (v := ?_) rfl (by kernel_rfl) (by kernel_rfl) (by kernel_rfl) (by decide) (by kernel_rfl) rfl (fun _ _ _ h => h) hS (Or.inl ⟨by first | kernel_rfl | rfl, ?_⟩) ?_
          rotate_left
          · intro w' hw'; have hw3 := hw'.2 rfl; go_simp; try with_reducible rfl
          try simp only [Act.put, List.setIfInBounds_toArray, List.set_cons_zero, List.set_cons_succ]
          refine AnyT.take0 (i := 13) (v := ?_) rfl (by kernel_rfl) (by kernel_rfl) (by kernel_rfl) (by decide) (fun _ _ _ h => h) hS (Or.inl ⟨by first | kernel_rfl | rfl, ?_⟩) ?_
          rotate_left
          · intro w' hw'; clear hw'; go_simp; try with_reducible rfl
          try simp only [Act.put, List.setIfInBounds_toArray, List.set_cons_zero, List.set_cons_succ]
          refine AnyT.go (rs := [12, 14]) (by kernel_rfl) (by simp) ?_
          refine AllT.cons rfl (fun K hK => ?_) (AllT.cons rfl (fun K hK => ?_) AllT.nil)
          · go_simp
            refine (lib_CloneN wz.drew _ (up n0) (by exact HOW.out.ints) (by rw [up_len]; omega)).mono ?_
            rintro e w5 ⟨x5, rfl, ho5, hb5'⟩
            obtain ⟨A5, c5, he5, -, -, -⟩ := ho5.ints.open_
            rw [up_len] at he5
            subst he5
            have hb5 : Below wz.heap.size wz w5 := by exact below_of_drew hb5'
            have HO5 := Lib.hid (show OwnInts w5 wz.heap.size tN (.slice A5 n0.length c5) (up n0) from ho5)
            have HBL := Lib.hid (hb5.trans ((below1 w5 (.cells #[.int .i64 u.length] tN)).mono hb5.size))
            refine hK.out _ _ ⟨trivial, fun _ => ⟨keepCell hb5 HND.out, keepCell hb5 HNG.out⟩⟩ (fun hS => ?_)
            clear hK ho5 hb5' hb5
            try simp only [Act.put, List.setIfInBounds_toArray, List.set_cons_zero, List.set_cons_succ]
            refine AnyT.go (rs := [14]) (by kernel_rfl) (by simp) ?_
            refine AllT.cons rfl (fun K hK => ?_) AllT.nil
            go_simp
            refine hK.out _ _ ⟨trivial, fun _ => ⟨keepCell HBL.out HND.out, keepCell HBL.out HNG.out⟩⟩ (fun hS => ?_)
            clear hK
            try simp only [Act.put, List.setIfInBounds_toArray, List.set_cons_zero, List.set_cons_succ]
            refine AnyT.go (rs := [15]) (by kernel_rfl) (by simp) ?_
            refine AllT.cons rfl (fun K hK => ?_) AllT.nil
            refine stp_app1 T_nat (B := wz.heap.size) (W := w5.alloc (.cells #[.int .i64 u.length] tN)) (u := .int .i64 u.length) (ad := ⟨w5.heap.size, 0, none⟩) (v := .slice A5 n0.length c5) (vs := ints (up n0)) (HO5.out.1.below (below1 w5 _)) (by rw [ints_len, up_len]; omega) (HBL.out).size (by rfl) rfl (by rfl) (by rfl) (by rfl) ((Blk.new w5 _ _).cell 0) ?_
            intro v6 w6 hown6 hgr6
            obtain ⟨A6, c6, hv6, -, -⟩ := hown6.cells.open_
            rw [List.length_append, ints_len, up_len, List.length_singleton] at hv6
            subst hv6
            have hb6 : Below wz.heap.size wz w6 := hgr6.below HBL.out HBL.out.size HO5.out.1.ge
            have HN6 := Lib.hid hown6
            have HB6 := Lib.hid hb6
            obtain ⟨u0, -, k6, k7, -, hge, hst, hgs⟩ := (HOV.out.below hb6).storeAt (k := 0) hvp (.slice A6 (n0.length + 1) c6)
            have HST := Lib.hid hst
            have HGS := Lib.hid hgs
            have HGE := Lib.hid hge
            refine hK.out _ _ ⟨trivial, fun _ => ⟨keepCell hb6 HND.out, keepCell hb6 HNG.out⟩⟩ (fun hS => ?_)
            clear hK hown6 hgr6 hst hgs hb6 hge
            try simp only [Act.put, List.setIfInBounds_toArray, List.set_cons_zero, List.set_cons_succ]
            refine AnyT.take0 (i := 16) (v := ?_) rfl (by kernel_rfl) (by kernel_rfl) (by kernel_rfl) (by decide) (fun _ _ _ h => h) hS (Or.inl ⟨by first | kernel_rfl | rfl, ?_⟩) ?_
            rotate_left
            · intro w' hw'; clear hw'; go_simp; try with_reducible rfl
            try simp only [Act.put, List.setIfInBounds_toArray, List.set_cons_zero, List.set_cons_succ]
            refine AnyT.go (rs := [17]) (by kernel_rfl) (by simp) ?_
            refine AllT.cons rfl (fun K hK => ?_) AllT.nil
            go_simp
            refine hK.out _ _ ⟨trivial, fun h => Bool.noConfusion (show true = false from h)⟩ (fun hS => ?_)
            clear hK k6 k7 hS
            refine AnyT.done (by kernel_rfl) ?_ _
            go_wp2_with fail
            go_roundw
            case rel =>
              have hn6 : OwnInts w6 wz.heap.size tN (.slice A6 (n0.length + 1) c6) (up (n0 ++ [u.length])) := ⟨by rw [← up_snoc]; exact HN6.out, up_in (M := 1000000) (by omega) fun x hx => by
                rcases List.mem_append.1 hx with hx | hx
                · have := HN0.out x hx; omega
                · simp at hx; omega⟩
              have hrs := ((HRN.out.below HB6.out).mono (Nat.le_refl _)).set (k := 0) (hn6.mono HBZ.out.size)
              rw [HTK.out, HGN.out] at hrs
              refine ⟨1, by omega, by first | rfl | go_num, (HBZ.out.trans (HB6.out.mono HBZ.out.size)).setCell (p := ⟨g, 0, none⟩) HGE.out _, .inr ⟨rfl, _, HST.out, ?_⟩⟩
              exact hrs.kept (v := .slice (some ⟨g, 0, none⟩) vs.length co) HGS.out (HOV.out.below HB6.out).bt (by decide)
            case measure => simp [intOf]
          · go_simp
            have hb1 : Below wz.heap.size wz (wz.drew.alloc (.cells #[.int .i64 u.length] tN)) := (((Below.refl wz.heap.size wz).drew).alloc (Nat.le_refl _) _)
            refine hK.out _ _ ⟨trivial, fun _ => ⟨keepCell hb1 HND.out, keepCell hb1 HNG.out⟩⟩ (fun hS => ?_)
            clear hK
            try simp only [Act.put, List.setIfInBounds_toArray, List.set_cons_zero, List.set_cons_succ]
            refine AnyT.go (rs := [12]) (by kernel_rfl) (by simp) ?_
            refine AllT.cons rfl (fun K hK => ?_) AllT.nil
            go_simp
            refine (lib_CloneN (wz.drew.alloc (.cells #[.int .i64 u.length] tN)) _ (up n0) (HOW.out.ints.below hb1) (by rw [up_len]; omega)).mono ?_
            rintro e w5 ⟨x5, rfl, ho5, hb5'⟩
            obtain ⟨A5, c5, he5, -, -, -⟩ := ho5.ints.open_
            rw [up_len] at he5
            subst he5
            have hb5 : Below wz.heap.size wz w5 := hb1.trans (hb5'.mono hb1.size)
            have HO5 := Lib.hid (show OwnInts w5 wz.heap.size tN (.slice A5 n0.length c5) (up n0) from ho5.mono hb1.size)
            have HBL := Lib.hid hb5
            have HCB := Lib.hid (keepCell hb5' (show (wz.drew.alloc (.cells #[.int .i64 u.length] tN)).cell? ⟨wz.heap.size, 0, none⟩ = some (.int .i64 u.length) from (Blk.new wz.drew #[.int .i64 u.length] tN).cell 0))
            refine hK.out _ _ ⟨trivial, fun _ => ⟨keepCell hb5 HND.out, keepCell hb5 HNG.out⟩⟩ (fun hS => ?_)
            clear hK ho5 hb5' hb5 hb1
            try simp only [Act.put, List.setIfInBounds_toArray, List.set_cons_zero, List.set_cons_succ]
            refine AnyT.go (rs := [15]) (by kernel_rfl) (by simp) ?_
            refine AllT.cons rfl (fun K hK => ?_) AllT.nil
            refine stp_app1 T_nat (B := wz.heap.size) (W := w5) (u := .int .i64 u.length) (ad := ⟨wz.heap.size, 0, none⟩) (v := .slice A5 n0.length c5) (vs := ints (up n0)) (HO5.out.1.below (Below.refl _ _)) (by rw [ints_len, up_len]; omega) (HBL.out).size (by rfl) rfl (by rfl) (by rfl) (by rfl) HCB.out ?_
            intro v6 w6 hown6 hgr6
            obtain ⟨A6, c6, hv6, -, -⟩ := hown6.cells.open_
            rw [List.length_append, ints_len, up_len, List.length_singleton] at hv6
            subst hv6
            have hb6 : Below wz.heap.size wz w6 := hgr6.below HBL.out HBL.out.size HO5.out.1.ge
            have HN6 := Lib.hid hown6
            have HB6 := Lib.hid hb6
            obtain ⟨u0, -, k6, k7, -, hge, hst, hgs⟩ := (HOV.out.below hb6).storeAt (k := 0) hvp (.slice A6 (n0.length + 1) c6)
            have HST := Lib.hid hst
            have HGS := Lib.hid hgs
            have HGE := Lib.hid hge
            refine hK.out _ _ ⟨trivial, fun _ => ⟨keepCell hb6 HND.out, keepCell hb6 HNG.out⟩⟩ (fun hS => ?_)
            clear hK hown6 hgr6 hst hgs hb6 hge
            try simp only [Act.put, List.setIfInBounds_toArray, List.set_cons_zero, List.set_cons_succ]
            refine AnyT.take0 (i := 16) (v := ?_) rfl (by kernel_rfl) (by kernel_rfl) (by kernel_rfl) (by decide) (fun _ _ _ h => h) hS (Or.inl ⟨by first | kernel_rfl | rfl, ?_⟩) ?_
            rotate_left
            · intro w' hw'; clear hw'; go_simp; try with_reducible rfl
            try simp only [Act.put, List.setIfInBounds_toArray, List.set_cons_zero, List.set_cons_succ]
            refine AnyT.go (rs := [17]) (by kernel_rfl) (by simp) ?_
            refine AllT.cons rfl (fun K hK => ?_) AllT.nil
            go_simp
            refine hK.out _ _ ⟨trivial, fun h => Bool.noConfusion (show true = false from h)⟩ (fun hS => ?_)
            clear hK k6 k7 hS
            refine AnyT.done (by kernel_rfl) ?_ _
            go_wp2_with fail
            go_roundw
            case rel =>
              have hn6 : OwnInts w6 wz.heap.size tN (.slice A6 (n0.length + 1) c6) (up (n0 ++ [u.length])) := ⟨by rw [← up_snoc]; exact HN6.out, up_in (M := 1000000) (by omega) fun x hx => by
                rcases List.mem_append.1 hx with hx | hx
                · have := HN0.out x hx; omega
                · simp at hx; omega⟩
              have hrs := ((HRN.out.below HB6.out).mono (Nat.le_refl _)).set (k := 0) (hn6.mono HBZ.out.size)
              rw [HTK.out, HGN.out] at hrs
              refine ⟨1, by omega, by first | rfl | go_num, (HBZ.out.trans (HB6.out.mono HBZ.out.size)).setCell (p := ⟨g, 0, none⟩) HGE.out _, .inr ⟨rfl, _, HST.out, ?_⟩⟩
              exact hrs.kept (v := .slice (some ⟨g, 0, none⟩) vs.length co) HGS.out (HOV.out.below HB6.out).bt (by decide)
            case measure => simp [intOf]
    · have HRN := Lib.hid (hrn.rows hov)
      have HB := Lib.hid hb
      obtain ⟨Ao, co, rfl, -, -⟩ := hov.cells.open_
      clear hov hrn hb
      go_wp2_with (go_at_call 171; go_loud (refine (HTF.out _ _ HRN.out).mono ?_; rintro e w9 ⟨x9, rfl, ho9, hb9⟩))
      go_ret
      exact ⟨_, rfl, ho9.mono HB.out.size, HB.out.trans (hb9.mono HB.out.size)⟩
end Go.Proofs.YtdjhfeaimmpmhaaGreat

