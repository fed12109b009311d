/- DROP Walks: agreement of maps, of the program and of the reference; maps cut down. | DROP Walks: the checks of maps, of the program and of the reference. -/
import Derived.Test.YteenblllfobifaaGreatMa14
import Derived.Test.YteenblllfobifaaGreatMa2
import Derived.Test.YteenblllfobifaaGreatMa1
import Derived.Test.YteenblllfobifaaGreatMa7
set_option maxRecDepth 100000
set_option linter.unusedVariables false
set_option linter.unusedSimpArgs false
namespace Go.Proofs.YteenblllfobifaaGreat
open Go.RowKit

theorem neq_false {x y : Int} (h : x = y) : (x != y) = false := by simp [h]
theorem neq_true {x y : Int} (h : ¬ x = y) : (x != y) = true := by simp [h]

set_option maxHeartbeats 4000000 in
theorem i_agreeTo (w : World) (v va vb : Value) (B : Option Addr) (m d : Nat) (a b : List Int) (ha : Rows w v (T6n.map up)) (h1 : Ints w va a) (h2 : Ints w vb b) (l1 : a.length = 38) (l2 : b.length = 38) :
    Calls Tryz.prog 53 #[.agg #[v, .slice B m d], va, vb] w fun e w' => e = .returned (.int .i64 (agZ a b)) ∧ Below w.heap.size w w' := by
  obtain ⟨A, c, he, -, -, -⟩ := ha.open_
  rw [List.length_map, T6n_len] at he
  subst he
  have hbel : Below w.heap.size w (w.alloc (.cells #[.slice A 37 c, .slice B m d] 40)) := below1 w _
  have HRA := Lib.hid (ha.below hbel)
  obtain ⟨A1, c1, rfl, -, -, g1⟩ := (h1.below hbel).open_
  obtain ⟨A2, c2, rfl, -, -, g2⟩ := (h2.below hbel).open_
  rw [l1] at g1 ⊢
  rw [l2] at g2 ⊢
  have G1 := Lib.hid g1
  have G2 := Lib.hid g2
  have HBX := Lib.hid (Blk.new w #[.slice A 37 c, .slice B m d] 40)
  have HBE := Lib.hid hbel
  clear ha hbel h1 h2 l1 l2 g1 g2
  go_enter Tryz.func53, Tryz.ntmps53
  go_wp2_with fail
  generalize hwq : (w.alloc (.cells #[.slice A 37 c, .slice B m d] 40)) = wq at HRA G1 G2 HBX HBE ⊢
  clear hwq
  go_loopw [10] (fun x wr => ∃ k n : Nat, k ≤ 38 ∧ x = .int .i64 k ∧ Hid (∀ i, i < k → a.getD i 0 = b.getD i 0) ∧ wr = wq.drewN n) (fun x _ => 38 - (intOf x).toNat)
  case atStart => exact ⟨0, 0, Nat.zero_le _, rfl, fun i hi => by omega, rfl⟩
  case round =>
    obtain ⟨k, n, hk, rfl, hI, rfl⟩ := hrel
    by_cases hlt : k < 38
    · obtain ⟨a1, x, rfl, hx, -, hcx⟩ := G1.out k hlt
      obtain ⟨a2, y, rfl, hy, -, hcy⟩ := G2.out k hlt
      have hgx := ints_getD hx
      have hgy := ints_getD hy
      have hkk : (k : Int) < 38 := by omega
      by_cases hxy : x = y
      · have hne := neq_false hxy
        have HI2 := Lib.hid (show ∀ i, i < k + 1 → a.getD i 0 = b.getD i 0 from fun i hi => by
          by_cases e : i = k
          · subst e; rw [hgx, hgy]; exact hxy
          · exact hI i (by omega))
        clear hI hx hy hgx hgy hxy
        go_upto_region 4 with fail
        go_quiet (fail)
        go_wp2_with fail
        go_roundw
        case rel => exact ⟨k + 1, _, by omega, by go_num, HI2.out, by first | rfl | exact World.drewN_drewN ..⟩
        case measure => simp [intOf]; omega
      · have hne := neq_true hxy
        have HZ := Lib.hid (agZ_hit hI hlt (by rw [hgx, hgy]; exact hxy))
        have hs := szN_le k
        clear hI hx hy hgx hgy hxy
        go_upto_region 4 with fail
        go_quiet (fail)
        have hf0 : wq.cell? ⟨w.heap.size, 0, none⟩ = some (.slice A 37 c) := HBX.out.cell 0
        have hf1 : wq.cell? ⟨w.heap.size, 1, none⟩ = some (.slice B m d) := HBX.out.cell 1
        go_wp2_with (go_at_call 94; go_loud (refine (im_nodes _ _ B m d k (HRA.out.below (below_drewN (Below.refl _ _) _)) (by omega)).mono ?_; rintro e w2 ⟨rfl, hw2⟩; have HB2 := Lib.hid (show Below w.heap.size w w2 from by rw [hw2]; exact (below_drewN HBE.out _).trans ((below1 _ _).mono (by have := HBE.out.size; simpa using this))); clear hw2))
        go_ret
        exact ⟨ret_i64 HZ.out.symm, HB2.out⟩
    · have HZ := Lib.hid (agZ_miss (a := a) (b := b) (fun i hi => hI i (by omega)))
      clear hI
      go_wp2_with fail
      go_ret
      exact ⟨ret_i64 HZ.out.symm, below_drewN HBE.out _⟩

set_option maxHeartbeats 4000000 in
theorem s_l07Agree (w : World) (va vb : Value) (a b : List Int) (h1 : Ints w va a) (h2 : Ints w vb b) (l1 : a.length = 38) (l2 : b.length = 38) :
    Calls Tryz.prog 50 #[va, vb] w fun e w' => e = .returned (.int .i64 (agZ a b)) ∧ Below w.heap.size w w' := by
  have HA := Lib.hid h1
  have HB := Lib.hid h2
  obtain ⟨A1, c1, rfl, -, -, g1⟩ := h1.open_
  obtain ⟨A2, c2, rfl, -, -, g2⟩ := h2.open_
  rw [l1] at g1 HA ⊢
  rw [l2] at g2 HB ⊢
  obtain ⟨a1, x, rfl, hx, -, hcx⟩ := g1 0 (by omega)
  obtain ⟨a2, y, rfl, hy, -, hcy⟩ := g2 0 (by omega)
  have hcx0 : w.cell? a1 = some (.int .i64 x) := by simpa [Addr.add] using hcx
  have hcy0 : w.cell? a2 = some (.int .i64 y) := by simpa [Addr.add] using hcy
  have hgx := ints_getD hx
  have hgy := ints_getD hy
  have G1 := Lib.hid g1
  have G2 := Lib.hid g2
  clear h1 h2 l1 l2 g1 g2 hcx hcy hx hy
  by_cases hxy : x = y
  · have hne := neq_false hxy
    have HI0 := Lib.hid (show ∀ i, i < 0 + 1 → a.getD i 0 = b.getD i 0 from fun i hi => by
      have : i = 0 := by omega
      subst this; rw [hgx, hgy]; exact hxy)
    clear hgx hgy hxy
    go_enter Tryz.func50, Tryz.ntmps50
    go_upto_region 1 with fail
    go_quiet (fail)
    generalize hwq : w.drewN nq = wq
    have HBE := Lib.hid (show Below w.heap.size w wq from by rw [← hwq]; exact below_drewN (Below.refl _ _) _)
    clear hwq
    go_wp2_with (go_at_call 48; go_loud (refine (s_l03All _ 6 (by omega)).mono ?_; rintro e w1 ⟨x1, rfl, hx1, hb1⟩; rw [show allG treesN 6 = T6n from rfl] at hx1; obtain ⟨A3, c3, he1, -, -, -⟩ := hx1.rows.open_; rw [List.length_map, T6n_len] at he1; subst he1; have HX1 := Lib.hid hx1.rows; have HB1 := Lib.hid (HBE.out.trans (hb1.mono HBE.out.size)); clear hx1 hb1))
    go_loopw [6] (fun x wr => ∃ k n : Nat, k ≤ 37 ∧ x = .int .i64 k ∧ Hid (∀ i, i < k + 1 → a.getD i 0 = b.getD i 0) ∧ wr = w1.drewN n) (fun x _ => 37 - (intOf x).toNat)
    case atStart => exact ⟨0, 0, Nat.zero_le _, rfl, HI0.out, rfl⟩
    case round =>
      obtain ⟨k, n, hk, rfl, hI, rfl⟩ := hrel
      by_cases hlt : k < 37
      · obtain ⟨a1', x, he1, hx, -, hcx⟩ := G1.out (k + 1) (by omega)
        injection he1 with he1
        subst he1
        obtain ⟨a2', y, he2, hy, -, hcy⟩ := G2.out (k + 1) (by omega)
        injection he2 with he2
        subst he2
        have hcx1 := keepCellG HB1.out hcx
        have hcy1 := keepCellG HB1.out hcy
        have hgx := ints_getD hx
        have hgy := ints_getD hy
        have hkk : (k : Int) < 37 := by omega
        obtain ⟨k1, hk1⟩ : ∃ k1 : Nat, k1 = k + 1 := ⟨_, rfl⟩
        have hkk2 : (k1 : Int) < 38 := by omega
        have hkk3 : k1 < 38 := by omega
        have hkw : IntKind.i64.wrap ((k : Int) + 1) = (k1 : Int) := by rw [hk1]; exact IntWalk.i64_in _ (by omega)
        rw [← hk1] at hcx1 hcy1
        have HK1 := Lib.hid hk1
        clear hk1
        by_cases hxy : x = y
        · have hne := neq_false hxy
          have HI2 := Lib.hid (show ∀ i, i < k + 1 + 1 → a.getD i 0 = b.getD i 0 from fun i hi => by
            by_cases e : i = k + 1
            · subst e; rw [hgx, hgy]; exact hxy
            · exact hI i (by omega))
          clear hI hx hy hgx hgy hxy hcx hcy
          go_upto_region 7 with fail
          go_quiet (fail)
          go_wp2_with fail
          go_roundw
          case rel => exact ⟨k1, _, by omega, by first | rfl | go_num, by rw [HK1.out]; exact HI2.out, by first | rfl | exact World.drewN_drewN ..⟩
          case measure => have := HK1.out; simp [intOf]; omega
        · have hne := neq_true hxy
          obtain ⟨ad, At, ct, t, rfl, ht, hti, hcr⟩ := HX1.out.tree hlt
          have HZ := Lib.hid (show agZ a b = (t.length : Int) - 1 from by rw [agZ_hit hI (by omega) (by rw [hgx, hgy]; exact hxy), szN_succ ht])
          have hs := (T6n_at (List.mem_of_getElem? ht)).2.2.1
          clear hI hx hy hgx hgy hxy hcx hcy ht hti
          go_upto_region 7 with fail
          go_quiet (fail)
          go_wp2_with fail
          go_ret
          exact ⟨ret_i64 HZ.out.symm, below_drewN HB1.out _⟩
      · have HZ := Lib.hid (agZ_miss (a := a) (b := b) (fun i hi => hI i (by omega)))
        clear hI
        go_wp2_with fail
        go_ret
        exact ⟨ret_i64 HZ.out.symm, below_drewN HB1.out _⟩
  · have hne := neq_true hxy
    have HZ := Lib.hid (show agZ a b = -1 from by rw [agZ_hit (k := 0) (fun i hi => by omega) (by omega) (by rw [hgx, hgy]; exact hxy)]; rfl)
    clear hgx hgy hxy
    go_enter Tryz.func50, Tryz.ntmps50
    go_upto_region 1 with fail
    go_quiet (fail)
    go_wp2_with fail
    go_ret
    exact ⟨ret_i64 HZ.out.symm, below_drewN (Below.refl _ _) _⟩

set_option maxHeartbeats 4000000 in
theorem i_keep (w : World) (v va : Value) (B : Option Addr) (m d g : Nat) (c0 : Value) (p : Nat → Bool) (a : List Int) (ha : Rows w v (T6n.map up)) (h1 : Ints w va a) (l1 : a.length = 38)
    (hcf : ∀ (args : Array Value) (w : World), Sem.run Tryz.prog (callFunc g args) w = .ok (.enter g args) w)
    (hp : ∀ (W : World) (n : Nat), Below w.heap.size w W → Calls Tryz.prog g #[.int .i64 n, c0] W fun e w' => e = .returned (.bool (p n)) ∧ W = w') :
    Calls Tryz.prog 54 #[.agg #[v, .slice B m d], va, .func (.func g) #[] #[c0]] w fun e w' => ∃ x, e = .returned x ∧ OwnInts w' w.heap.size tI x (kpZ p a) ∧ Below w.heap.size w w' := by
  obtain ⟨A, c, he, -, -, -⟩ := ha.open_
  rw [List.length_map, T6n_len] at he
  subst he
  have hbel : Below w.heap.size w (w.alloc (.cells #[.slice A 37 c, .slice B m d] 40)) := below1 w _
  have HRA := Lib.hid (ha.below hbel)
  have HIA := Lib.hid (h1.below hbel)
  obtain ⟨A1, c1, rfl, -, -, -⟩ := h1.open_
  rw [l1] at HIA ⊢
  have HLA := Lib.hid l1
  have HP := Lib.hid hp
  have HBX := Lib.hid (Blk.new w #[.slice A 37 c, .slice B m d] 40)
  have HBE := Lib.hid hbel
  clear ha hbel h1 l1 hp
  go_enter Tryz.func54, Tryz.ntmps54
  go_wp2_with (at_make; refine wpList_mk rfl _ _ _ rfl _ _ _ T_int 38 _ rfl rfl rfl (by omega) _ ?_; intro w1 hown hb hs1; rw [size_alloc'] at hown hb; have HOWN := Lib.hid hown; have HB1 := Lib.hid hb; clear hown hb)
  have HO0 := Lib.hid (show OwnInts w1 (w.heap.size + 1) tI (.slice (some ⟨(w.heap.size + 1), 0, none⟩) 38 38) (kpT p a 0) from by
    rw [kpT_zero]
    exact ⟨by simpa [ints] using HOWN.out, fun z hz => by have := List.eq_of_mem_replicate hz; subst this; unfold In64; omega⟩)
  clear HOWN hs1
  go_loopw [15] (fun x wr => ∃ i : Nat, i ≤ 38 ∧ x = .int .i64 i ∧ OwnInts wr (w.heap.size + 1) tI (.slice (some ⟨(w.heap.size + 1), 0, none⟩) 38 38) (kpT p a i) ∧ Below (w.heap.size + 1) (w.alloc (.cells #[.slice A 37 c, .slice B m d] 40)) wr) (fun x _ => 38 - (intOf x).toNat)
  case atStart => exact ⟨0, Nat.zero_le _, rfl, HO0.out, HB1.out⟩
  case round =>
    obtain ⟨i, hi, rfl, ho, hb⟩ := hrel
    have HO := Lib.hid ho
    have HB := Lib.hid hb
    clear ho hb
    by_cases hlt : i < 38
    · have hbq : Below (w.alloc (.cells #[.slice A 37 c, .slice B m d] 40)).heap.size (w.alloc (.cells #[.slice A 37 c, .slice B m d] 40)) wr := by rw [size_alloc']; exact HB.out
      obtain ⟨A1', c1', he, -, -, g1⟩ := (HIA.out.below hbq).open_
      rw [HLA.out] at he g1
      simp only [Value.slice.injEq, true_and] at he
      obtain ⟨rfl, rfl⟩ := he
      obtain ⟨a1, x, rfl, hx, hx64, hcx⟩ := g1 i hlt
      have hgx := ints_getD hx
      have hii : (i : Int) < 38 := by omega
      have HRW := Lib.hid (HRA.out.below hbq)
      have hbk := HBX.out.below HB.out (Nat.lt_succ_self _)
      have hf0 : wr.cell? ⟨w.heap.size, 0, none⟩ = some (.slice A 37 c) := hbk.cell 0
      have hf1 : wr.cell? ⟨w.heap.size, 1, none⟩ = some (.slice B m d) := hbk.cell 1
      have HX := Lib.hid hx64
      have HKS := Lib.hid (fun h : p (szN i) = true => show (kpT p a i).set i x = kpT p a (i + 1) from by rw [← hgx]; exact (kpT_take h).symm)
      have HKN := Lib.hid (fun h : p (szN i) = false => show kpT p a (i + 1) = kpT p a i from kpT_skip h)
      clear g1 hx hgx hx64 hbk hbq
      go_wp2_with (go_at_call 94; go_loud (refine (im_nodes _ _ B m d i HRW.out (by omega)).mono ?_; rintro e w2 ⟨rfl, hw2⟩; have hb2 : Below wr.heap.size wr w2 := (by rw [hw2]; exact below1 _ _); have HB2 := Lib.hid hb2; clear hw2))
      have HPP := Lib.hid (HP.out w2 (szN i) ((HBE.out.trans (HB.out.mono (Nat.le_succ _))).trans (HB2.out.mono (by have h2 := HB.out.size; rw [size_alloc'] at h2; omega))))
      obtain ⟨u0, -, hcg, hfg, -, -, hown', hgr⟩ := (HO.out.1.below HB2.out).storeAt (k := i) (by rw [ints_len, kpT_len]; exact hlt) (.int .i64 x)
      rw [ints_set] at hown'
      have HST := Lib.hid hown'
      have hge := HO.out.1.ge (w.heap.size + 1) rfl
      clear hown' hgr
      cases hpi : p (szN i) with
      | true =>
        rw [hpi] at HPP
        have HKK := Lib.hid (HKS.out hpi)
        clear hpi
        refine HPP.out.mono ?_
        rintro e w3 ⟨rfl, rfl⟩
        go_wp2_with fail
        go_roundw
        case rel =>
          refine ⟨i + 1, by omega, by go_num, ⟨?_, ?_⟩, (HB.out.trans (HB2.out.mono (by have h2 := HB.out.size; simpa using h2))).setCell hge _⟩
          · rw [← HKK.out]; exact HST.out
          · intro z hz
            rw [← HKK.out] at hz
            rcases List.mem_or_eq_of_mem_set hz with hz | hz
            · exact HO.out.2 z hz
            · rw [hz]; exact HX.out
        case measure => simp [intOf]; omega
      | false =>
        rw [hpi] at HPP
        have HKK := Lib.hid (HKN.out hpi)
        clear hpi
        refine HPP.out.mono ?_
        rintro e w3 ⟨rfl, rfl⟩
        go_wp2_with fail
        go_roundw
        case rel =>
          refine ⟨i + 1, by omega, by go_num, ?_, HB.out.trans (HB2.out.mono (by have h2 := HB.out.size; simpa using h2))⟩
          rw [HKK.out]; exact HO.out.below HB2.out
        case measure => simp [intOf]; omega
    · have hil : i = 38 := by omega
      have HF := Lib.hid (show kpT p a i = kpZ p a from by rw [hil]; exact kpT_full p a)
      clear hil
      go_wp2_with fail
      go_ret
      refine ⟨_, rfl, ?_, HBE.out.trans (HB.out.mono (Nat.le_succ _))⟩
      have h := HO.out
      rw [HF.out] at h
      exact h.mono (Nat.le_succ _)
end Go.Proofs.YteenblllfobifaaGreat
set_option maxRecDepth 100000
set_option linter.unusedVariables false
set_option linter.unusedSimpArgs false
namespace Go.Proofs.YteenblllfobifaaGreat
open Go.RowKit

def mapB (zs : List Int) : Bool := decide (zs.length = 38) && nums zs
def chrC (zs : List Int) : Int := if mapB zs then (if zs.getD 0 0 = 1 then 0 else 5) else 1
def infC (zs : List Int) : Int := if mapB zs then (if zs.getD 0 0 = 0 then 0 else 5) else 1
theorem mapB_true {zs : List Int} (h : mapB zs = true) : zs.length = 38 ∧ ∀ z ∈ zs, 0 ≤ z ∧ z ≤ 10006 := by
  unfold mapB at h
  rw [Bool.and_eq_true, nums_iff] at h
  exact ⟨by simpa using h.1, h.2⟩

set_option maxHeartbeats 400000 in
theorem i_IsMap (w : World) (v : Value) (zs : List Int) (ha : Ints w v zs) : Calls Tryz.prog 75 #[v] w fun e w' => e = .returned (.bool (mapB zs)) ∧ w = w' := by
  have HA := Lib.hid ha
  obtain ⟨A, c, rfl, -, -, -⟩ := ha.open_
  clear ha
  by_cases h : zs.length = 38
  · have HF := Lib.hid (show mapB zs = nums zs by simp [mapB, h])
    have hd : ((zs.length : Int) == 38) = true := by simp [h]
    clear h
    go_enter Tryz.func75, Tryz.ntmps75
    go_wp2_with (go_at_call 108; refine (i_areNumbers _ _ _ HA.out).mono ?_; rintro e w' ⟨rfl, rfl⟩)
    go_ret
    exact ⟨ret_bool HF.out.symm, rfl⟩
  · have HF := Lib.hid (show mapB zs = false by simp [mapB, h])
    have hd : ((zs.length : Int) == 38) = false := by simp; omega
    clear h
    go_enter Tryz.func75, Tryz.ntmps75
    go_wp2_with (go_at_call 108; refine (i_areNumbers _ _ _ HA.out).mono ?_; rintro e w' ⟨rfl, rfl⟩)
    go_ret
    exact ⟨ret_bool HF.out.symm, rfl⟩

set_option maxHeartbeats 400000 in
theorem s_l07Is (w : World) (v : Value) (zs : List Int) (ha : Ints w v zs) : Calls Tryz.prog 79 #[v] w fun e w' => e = .returned (.bool (mapB zs)) ∧ w = w' := by
  have HA := Lib.hid ha
  obtain ⟨A, c, rfl, -, -, -⟩ := ha.open_
  clear ha
  by_cases h : zs.length = 38
  · have HF := Lib.hid (show mapB zs = nums zs by simp [mapB, h])
    have hd : ((zs.length : Int) == 38) = true := by simp [h]
    clear h
    go_enter Tryz.func79, Tryz.ntmps79
    go_wp2_with (go_at_call 107; refine (s_l01Numbers _ _ _ HA.out).mono ?_; rintro e w' ⟨rfl, rfl⟩)
    go_ret
    exact ⟨ret_bool HF.out.symm, rfl⟩
  · have HF := Lib.hid (show mapB zs = false by simp [mapB, h])
    have hd : ((zs.length : Int) == 38) = false := by simp; omega
    clear h
    go_enter Tryz.func79, Tryz.ntmps79
    go_wp2_with (go_at_call 107; refine (s_l01Numbers _ _ _ HA.out).mono ?_; rintro e w' ⟨rfl, rfl⟩)
    go_ret
    exact ⟨ret_bool HF.out.symm, rfl⟩

set_option maxHeartbeats 400000 in
theorem s_l14Map (w : World) (v : Value) (zs : List Int) (ha : Ints w v zs) : Calls Tryz.prog 72 #[v] w fun e w' => e = .returned (.bool (mapB zs)) ∧ w = w' := by
  have HA := Lib.hid ha
  obtain ⟨A, c, rfl, -, -, -⟩ := ha.open_
  clear ha
  by_cases h : zs.length = 38
  · have HF := Lib.hid (show mapB zs = nums zs by simp [mapB, h])
    have hd : ((zs.length : Int) == 38) = true := by simp [h]
    clear h
    go_enter Tryz.func72, Tryz.ntmps72
    go_wp2_with (go_at_call 107; refine (s_l01Numbers _ _ _ HA.out).mono ?_; rintro e w' ⟨rfl, rfl⟩)
    go_ret
    exact ⟨ret_bool HF.out.symm, rfl⟩
  · have HF := Lib.hid (show mapB zs = false by simp [mapB, h])
    have hd : ((zs.length : Int) == 38) = false := by simp; omega
    clear h
    go_enter Tryz.func72, Tryz.ntmps72
    go_wp2_with (go_at_call 107; refine (s_l01Numbers _ _ _ HA.out).mono ?_; rintro e w' ⟨rfl, rfl⟩)
    go_ret
    exact ⟨ret_bool HF.out.symm, rfl⟩

/-- the head of a map -/
theorem map_head {w : World} {A : Option Addr} {c : Nat} {zs : List Int} (h : Ints w (.slice A zs.length c) zs) (hm : mapB zs = true) : ∃ ad, A = some ad ∧ w.cell? ad = some (.int .i64 (zs.getD 0 0)) := by
  obtain ⟨A', c', he, -, -, h3⟩ := h.open_
  injection he with h1 h2 h4
  subst h1
  obtain ⟨ad, z, rfl, hz, -, hc⟩ := h3 0 (by have := (mapB_true hm).1; omega)
  refine ⟨ad, rfl, ?_⟩
  rw [List.getD_eq_getElem?_getD, hz]
  simpa [Addr.add] using hc

set_option maxHeartbeats 800000 in
theorem i_checkCharacter (w : World) (v : Value) (zs : List Int) (ha : Ints w v zs) : Calls Tryz.prog 42 #[v] w fun e w' => e = .returned (.int .i64 (chrC zs)) ∧ w = w' := by
  have HM := Lib.hid (i_IsMap w v zs ha)
  obtain ⟨A, c, rfl, -, -, -⟩ := ha.open_
  cases hm : mapB zs with
  | false =>
    rw [hm] at HM
    rw [show chrC zs = 1 by simp [chrC, hm]]
    clear hm ha
    go_enter Tryz.func42, Tryz.ntmps42
    go_wp2_with (go_at_call 75; refine HM.out.mono ?_; rintro e w' ⟨rfl, rfl⟩)
    go_ret
    exact ⟨rfl, rfl⟩
  | true =>
    obtain ⟨ad, rfl, hc⟩ := map_head ha hm
    have hl := (mapB_true hm).1
    rw [hm] at HM
    have hpos : 0 < zs.length := by omega
    have hpi : (0 : Int) < (zs.length : Int) := by omega
    have HC := Lib.hid (show chrC zs = if zs.getD 0 0 = 1 then 0 else 5 by simp [chrC, hm])
    rw [HC.out]
    clear hm ha hl
    generalize zs.getD 0 0 = z at *
    by_cases hz : z = 1
    · have hd : (z != 1) = false := by simp [hz]
      rw [if_pos hz]
      clear hz HC
      go_enter Tryz.func42, Tryz.ntmps42
      go_wp2_with (go_at_call 75; refine HM.out.mono ?_; rintro e w' ⟨rfl, rfl⟩)
      go_ret
      exact ⟨rfl, rfl⟩
    · have hd : (z != 1) = true := by simp [hz]
      rw [if_neg hz]
      clear hz HC
      go_enter Tryz.func42, Tryz.ntmps42
      go_wp2_with (go_at_call 75; refine HM.out.mono ?_; rintro e w' ⟨rfl, rfl⟩)
      go_ret
      exact ⟨rfl, rfl⟩

set_option maxHeartbeats 800000 in
/-- the reference's check of one character -/
theorem s_l07Code1 (w : World) (v : Value) (zs : List Int) (ha : Ints w v zs) : Calls Tryz.prog 40 #[v, v] w fun e w' => e = .returned (.int .i64 (chrC zs)) ∧ w = w' := by
  have HM := Lib.hid (s_l07Is w v zs ha)
  obtain ⟨A, c, rfl, -, -, -⟩ := ha.open_
  cases hm : mapB zs with
  | false =>
    rw [hm] at HM
    rw [show chrC zs = 1 by simp [chrC, hm]]
    clear hm ha
    go_enter Tryz.func40, Tryz.ntmps40
    go_wp2_with (go_at_call 79; refine HM.out.mono ?_; rintro e w' ⟨rfl, rfl⟩)
    go_ret
    exact ⟨rfl, rfl⟩
  | true =>
    obtain ⟨ad, rfl, hc⟩ := map_head ha hm
    have hl := (mapB_true hm).1
    rw [hm] at HM
    have hpos : 0 < zs.length := by omega
    have hpi : (0 : Int) < (zs.length : Int) := by omega
    have HC := Lib.hid (show chrC zs = if zs.getD 0 0 = 1 then 0 else 5 by simp [chrC, hm])
    rw [HC.out]
    clear hm ha hl
    generalize zs.getD 0 0 = z at *
    by_cases hz : z = 1
    · have hd : (z != 1) = false := by simp [hz]
      rw [if_pos hz]
      clear hz HC
      go_enter Tryz.func40, Tryz.ntmps40
      go_wp2_with (go_at_call 79; refine HM.out.mono ?_; rintro e w' ⟨rfl, rfl⟩)
      go_ret
      exact ⟨rfl, rfl⟩
    · have hd : (z != 1) = true := by simp [hz]
      rw [if_neg hz]
      clear hz HC
      go_enter Tryz.func40, Tryz.ntmps40
      go_wp2_with (go_at_call 79; refine HM.out.mono ?_; rintro e w' ⟨rfl, rfl⟩)
      go_ret
      exact ⟨rfl, rfl⟩

set_option maxHeartbeats 800000 in
/-- the reference's check of one infinitesimal map -/
theorem s_l08Code1 (w : World) (v : Value) (zs : List Int) (ha : Ints w v zs) : Calls Tryz.prog 45 #[v, v] w fun e w' => e = .returned (.int .i64 (infC zs)) ∧ w = w' := by
  have HM := Lib.hid (s_l07Is w v zs ha)
  obtain ⟨A, c, rfl, -, -, -⟩ := ha.open_
  cases hm : mapB zs with
  | false =>
    rw [hm] at HM
    rw [show infC zs = 1 by simp [infC, hm]]
    clear hm ha
    go_enter Tryz.func45, Tryz.ntmps45
    go_wp2_with (go_at_call 79; refine HM.out.mono ?_; rintro e w' ⟨rfl, rfl⟩)
    go_ret
    exact ⟨rfl, rfl⟩
  | true =>
    obtain ⟨ad, rfl, hc⟩ := map_head ha hm
    have hl := (mapB_true hm).1
    rw [hm] at HM
    have hpos : 0 < zs.length := by omega
    have hpi : (0 : Int) < (zs.length : Int) := by omega
    have HC := Lib.hid (show infC zs = if zs.getD 0 0 = 0 then 0 else 5 by simp [infC, hm])
    rw [HC.out]
    clear hm ha hl
    generalize zs.getD 0 0 = z at *
    by_cases hz : z = 0
    · have hd : (z != 0) = false := by simp [hz]
      rw [if_pos hz]
      clear hz HC
      go_enter Tryz.func45, Tryz.ntmps45
      go_wp2_with (go_at_call 79; refine HM.out.mono ?_; rintro e w' ⟨rfl, rfl⟩)
      go_ret
      exact ⟨rfl, rfl⟩
    · have hd : (z != 0) = true := by simp [hz]
      rw [if_neg hz]
      clear hz HC
      go_enter Tryz.func45, Tryz.ntmps45
      go_wp2_with (go_at_call 79; refine HM.out.mono ?_; rintro e w' ⟨rfl, rfl⟩)
      go_ret
      exact ⟨rfl, rfl⟩

def infA (b : List Int) (oss : List (List Int)) : Int := if (oss ++ [b]).all mapB then (if b.getD 0 0 = 0 then 0 else 5) else 1
theorem infA_nil (b : List Int) : infA b [] = infC b := by simp [infA, infC]
theorem infA_one (b a : List Int) : infA b [a] = if mapB b && mapB a then (if b.getD 0 0 = 0 then 0 else 5) else 1 := by simp [infA, Bool.and_comm]

set_option maxHeartbeats 2000000 in
theorem i_checkInfinitesimal (w : World) (vb vo : Value) (Bo : Nat) (us : List Value) (b : List Int) (oss : List (List Int)) (ho : Own w Bo tL vo us) (hl : us.length = oss.length) (hn : us.length ≤ 10) (hBo : Bo ≤ w.heap.size)
    (hb : ∀ W, w.grownBy W vo.ownBlock → Ints W vb b) (hr : ∀ (k : Nat) (u : Value) (zs : List Int) (W : World), us[k]? = some u → oss[k]? = some zs → w.grownBy W vo.ownBlock → Ints W u zs) :
    Calls Tryz.prog 46 #[vb, vo] w fun e w' => e = .returned (.int .i64 (infA b oss)) ∧ w.grownBy w' vo.ownBlock := by
  have HB := Lib.hid hb
  have HO := Lib.hid ho
  have hb0 := hb w (World.grownBy.refl _ _)
  obtain ⟨A, c, rfl, -, -, -⟩ := hb0.open_
  obtain ⟨Ao, co, rfl, -, -⟩ := ho.cells.open_
  have HL := Lib.hid (show us.length + 1 = (oss ++ [b]).length from by rw [List.length_append, hl]; rfl)
  have HR := Lib.hid (show ∀ (k : Nat) (u : Value) (zs : List Int) (W : World), (us ++ [.slice A b.length c])[k]? = some u → (oss ++ [b])[k]? = some zs → w.grownBy W (Value.slice Ao us.length co).ownBlock → Ints W u zs from fun k u zs W hu hz hg => by
    by_cases hlt : k < us.length
    · rw [List.getElem?_append_left hlt] at hu
      rw [List.getElem?_append_left (by rw [← hl]; exact hlt)] at hz
      exact hr k u zs W hu hz hg
    · have hkl := (List.getElem?_eq_some_iff.1 hu).1
      simp at hkl
      have hk : k = us.length := by omega
      rw [hk] at hu
      rw [hk, hl] at hz
      simp at hu hz
      subst hu hz
      exact hb W hg)
  clear ho hl hb hr hb0
  go_enter Tryz.func46, Tryz.ntmps46
  go_wp2_with (at_builtin; go_loud (refine wpList_app1 T_row HO.out (by omega) hBo (by cases A <;> rfl) rfl (by rfl) (by rfl) (by rfl) ?_; intro v1 w1 hown1 hgr1; obtain ⟨A1, c1, hv1, -, -⟩ := hown1.cells.open_; rw [List.length_append, List.length_singleton] at hv1; subst hv1; have HN := Lib.hid hown1; have HG := Lib.hid hgr1.1; clear hown1 hgr1))
  go_loopw [12] (fun x wr => ∃ k : Nat, k ≤ us.length + 1 ∧ x = .int .i64 k ∧ Hid (∀ (i : Nat) (y : List Int), i < k → (oss ++ [b])[i]? = some y → mapB y = true) ∧ wr = w1) (fun x _ => us.length + 1 - (intOf x).toNat)
  case atStart => exact ⟨0, Nat.zero_le _, rfl, fun i y hi => by omega, rfl⟩
  case round =>
    obtain ⟨k, hk, rfl, hI, rfl⟩ := hrel
    by_cases hlt : k < us.length + 1
    · obtain ⟨u, hu⟩ : ∃ u, (us ++ [Value.slice A b.length c])[k]? = some u := ⟨_, List.getElem?_eq_getElem (by rw [List.length_append]; exact hlt)⟩
      obtain ⟨zs, hz⟩ : ∃ zs, (oss ++ [b])[k]? = some zs := ⟨_, List.getElem?_eq_getElem (by rw [← HL.out]; exact hlt)⟩
      obtain ⟨ad, n', c', he, hcell⟩ := HN.out.cells.at_ hu
      simp only [Value.slice.injEq] at he
      obtain ⟨rfl, -, -⟩ := he
      have HM := Lib.hid (i_IsMap wr u zs (HR.out k u zs wr hu hz HG.out))
      have hkk : (k : Int) < (us.length : Int) + 1 := by omega
      cases hm : mapB zs with
      | true =>
        rw [hm] at HM
        have HI2 := Lib.hid (show ∀ (i : Nat) (y : List Int), i < k + 1 → (oss ++ [b])[i]? = some y → mapB y = true from fun i y hi hy => by
          by_cases e : i = k
          · subst e; rw [hz] at hy; injection hy with hy; subst hy; exact hm
          · exact hI i y (by omega) hy)
        clear hI hu hz hm
        go_wp2_with (go_at_call 75; refine HM.out.mono ?_; rintro e w2 ⟨rfl, rfl⟩)
        go_roundw
        case rel => exact ⟨k + 1, by omega, by go_num, HI2.out, by first | rfl | trivial⟩
        case measure => simp [intOf]; omega
      | false =>
        rw [hm] at HM
        have HI := Lib.hid (show infA b oss = 1 from by
          unfold infA
          rw [if_neg]
          intro h
          rw [List.all_eq_true] at h
          have := h zs (List.mem_of_getElem? hz)
          rw [hm] at this; cases this)
        clear hI hu hz hm
        go_wp2_with (go_at_call 75; refine HM.out.mono ?_; rintro e w2 ⟨rfl, rfl⟩)
        go_ret
        exact ⟨ret_i64 HI.out.symm, HG.out⟩
    · have hall : (oss ++ [b]).all mapB = true := by
        rw [List.all_eq_true]
        intro y hy
        obtain ⟨i, hi, rfl⟩ := List.getElem_of_mem hy
        exact hI i _ (by have := HL.out; omega) (List.getElem?_eq_getElem hi)
      have hmb : mapB b = true := by
        rw [List.all_eq_true] at hall
        exact hall b (by simp)
      have hbl := (mapB_true hmb).1
      obtain ⟨ad, rfl, hc⟩ := map_head (HB.out wr HG.out) hmb
      have hpos : 0 < b.length := by omega
      have hpi : (0 : Int) < (b.length : Int) := by omega
      have HI := Lib.hid (show infA b oss = if b.getD 0 0 = 0 then 0 else 5 from by unfold infA; rw [if_pos hall])
      clear hI hall hmb hbl
      generalize b.getD 0 0 = z at *
      by_cases hz : z = 0
      · have hd : (z != 0) = false := by simp [hz]
        have HZ := Lib.hid (show infA b oss = 0 from by rw [HI.out, if_pos hz])
        clear hz HI
        go_wp2_with fail
        go_ret
        exact ⟨ret_i64 HZ.out.symm, HG.out⟩
      · have hd : (z != 0) = true := by simp [hz]
        have HZ := Lib.hid (show infA b oss = 5 from by rw [HI.out, if_neg hz])
        clear hz HI
        go_wp2_with fail
        go_ret
        exact ⟨ret_i64 HZ.out.symm, HG.out⟩
/-- the check of one infinitesimal map -/
theorem i_checkInf1 (w : World) (v : Value) (zs : List Int) (ha : Ints w v zs) : Calls Tryz.prog 46 #[v, .slice none 0 0] w fun e w' => e = .returned (.int .i64 (infC zs)) ∧ Below w.heap.size w w' := by
  have h := i_checkInfinitesimal w v (.slice none 0 0) w.heap.size [] zs [] (Own.nil _ _ _) rfl (by simp) (Nat.le_refl _) (fun W hg => ha.of_old fun k hk _ => hg.block k hk (by simp [Value.ownBlock])) (fun k u zs W hu => by simp at hu)
  rw [infA_nil] at h
  exact h.mono fun e w' ⟨he, hg⟩ => ⟨he, ⟨hg.os, hg.tape, hg.output, hg.size, fun k hk => hg.block k hk (by simp [Value.ownBlock])⟩⟩
end Go.Proofs.YteenblllfobifaaGreat
