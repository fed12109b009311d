/- Walks: the product of series of the reference; series turned, of both. -/
import Derived.Test.YtgnmnpjbmdifbaaFrm3
import Derived.Test.YtgnmnpjbmdifbaaClm
import Derived.Test.YtgnmnpjbmdifbaaVec2
set_option maxRecDepth 100000
set_option linter.unusedVariables false
set_option linter.unusedSimpArgs false
namespace Go.Proofs.Ytgnmnpjbmdifbaa
open Go.RowKit

theorem cvs_step {a b : List Int} {n t : Nat} {x y : Int} (hx : a[t]? = some x) (hy : b[n - t]? = some y) : cvs a b n (t + 1) = (cvs a b n t + x * y % 10007) % 10007 := by
  simp only [cvs, List.getD, hx, hy, Option.getD_some]
  omega
theorem mulS_take {a b : List Int} {n : Nat} : ((List.range (n + 1)).map fun n => cvs a b n (n + 1)) = ((List.range n).map fun n => cvs a b n (n + 1)) ++ [cvs a b n (n + 1)] := by
  rw [List.range_succ, List.map_append]; rfl

set_option maxHeartbeats 2000000 in
theorem s_l02Mul (w : World) (v v' : Value) (a b : List Int) (ha : Ints w v a) (hb : Ints w v' b) (hA : Nums a) (hB : Nums b) (hl : a.length = b.length) (hn : a.length ≤ 1000) :
    Calls Try.prog 78 #[v, v'] w fun e w' => ∃ r, e = .returned r ∧ OwnInts w' w.heap.size tI r (mulS a b) ∧ Below w.heap.size w w' := by
  obtain ⟨A, c, rfl, l1, l2, h3⟩ := ha.open_
  obtain ⟨A', c', rfl, m1, m2, g3⟩ := hb.open_
  have H3 := Lib.hid h3
  have G3 := Lib.hid g3
  have HA := Lib.hid hA
  have HB := Lib.hid hB
  have HL := Lib.hid hl
  have OL := Lib.hid (own_lit w tI [] (by simp [maxLen]))
  clear ha hb h3 g3 hA hB hl
  go_enter Try.func78, Try.ntmps78
  go_wp2_with fail
  go_loopw [5, 6, 7, 8] (fun o i s7 s8 wr => ∃ j : Nat, j ≤ a.length ∧ i = .int .i64 j ∧ Own wr w.heap.size tI o (ints ((List.range j).map fun n => cvs a b n (n + 1))) ∧ Below w.heap.size w wr) (fun _ i _ _ _ => a.length - (intOf i).toNat)
  case atStart => exact ⟨0, Nat.zero_le _, rfl, by simpa [ints] using OL.out, below1 _ _⟩
  case round =>
    obtain ⟨j, hj, rfl, hown, hbw⟩ := hrel
    clear OL
    have HO := Lib.hid hown
    have HBW := Lib.hid hbw
    clear hown hbw
    by_cases hlt : j < a.length
    · have hji : (j : Int) < (a.length : Int) := by omega
      go_wp2_with fail
      obtain ⟨wo, hwo⟩ : ∃ wo : World, wo = wr := ⟨_, rfl⟩
      obtain rfl := hwo
      go_loopw [7, 8] (fun s i wi => ∃ k : Nat, k ≤ j + 1 ∧ i = .int .i64 k ∧ s = .int .i64 (cvs a b j k) ∧ Below wo.heap.size wo wi) (fun _ i _ => j + 1 - (intOf i).toNat)
      case atStart => exact ⟨0, Nat.zero_le _, rfl, rfl, Below.refl _ _⟩
      case round =>
        obtain ⟨k, hk, rfl, rfl, hb2⟩ := hrel
        have HB2 := Lib.hid hb2
        clear hb2
        by_cases hlt2 : k < j + 1
        · obtain ⟨ad, x, rfl, hx, -, hc0⟩ := H3.out k (by omega)
          obtain ⟨ad', y, rfl, hy, -, hc1⟩ := G3.out (j - k) (by rw [← HL.out]; omega)
          have hcx : wr.cell? (ad.add k) = some (.int .i64 x) := by
            rw [(HBW.out.trans (HB2.out.mono HBW.out.size)).cell (by rw [block_add]; have := World.block_lt_of_cell? w _ hc0; rwa [block_add] at this)]; exact hc0
          have hcy : wr.cell? (ad'.add (j - k)) = some (.int .i64 y) := by
            rw [(HBW.out.trans (HB2.out.mono HBW.out.size)).cell (by rw [block_add]; have := World.block_lt_of_cell? w _ hc1; rwa [block_add] at this)]; exact hc1
          have hxn := HA.out x (List.mem_of_getElem? hx)
          have hyn := HB.out y (List.mem_of_getElem? hy)
          have HS := Lib.hid (cvs_step hx hy)
          have hbd := cvs_bd a b j k
          have hki : (k : Int) < (a.length : Int) := by omega
          have hki2 : (k : Int) ≤ (j : Int) := by omega
          have hjk0 : (0 : Int) ≤ (j : Int) - (k : Int) := by omega
          have hjk : (j : Int) - (k : Int) < (b.length : Int) := by rw [← HL.out]; omega
          have hjk2 : ((j : Int) - (k : Int)).toNat = j - k := by omega
          have hwr : IntKind.i64.wrap ((j : Int) - (k : Int)) = (j : Int) - (k : Int) := IntWalk.i64_in _ (by omega)
          clear hx hy hc0 hc1
          generalize cvs a b j k = s at HS hbd ⊢
          obtain ⟨p1, p2⟩ := mul_bd 10006 10006 hxn.1 hxn.2 hyn.1 hyn.2
          have HML : ∀ W, Calls Try.prog 123 #[.int .i64 x, .int .i64 y] W (fun e w' => e = .returned (.int .i64 (x * y % 10007)) ∧ W = w') := fun W => s_l01Mul x y W (by omega) (by omega) (by omega) (by omega)
          have HAD : ∀ W, Calls Try.prog 54 #[.int .i64 s, .int .i64 (x * y % 10007)] W (fun e w' => e = .returned (.int .i64 ((s + x * y % 10007) % 10007)) ∧ W = w') := fun W => s_l01Add s _ W (by omega) (by omega) (by omega) (by omega)
          go_wp2_with fail
          go_quiet ((first | (go_at_call 123; first | exact quiet_same0 (HML _) | exact quiet_same (HML _)) | (go_at_call 54; first | exact quiet_same0 (HAD _) | exact quiet_same (HAD _))))
          clear hcx hcy HML HAD
          go_wp2_with fail
          go_roundw
          case rel => exact ⟨k + 1, by omega, by go_num, by rw [HS.out], below_drewN HB2.out _⟩
          case measure => simp [intOf]; omega
        · have hkj : k = j + 1 := by omega
          have hni : ¬ (k : Int) ≤ (j : Int) := by omega
          have HS := Lib.hid (show ((List.range (j + 1)).map fun n => cvs a b n (n + 1)) = ((List.range j).map fun n => cvs a b n (n + 1)) ++ [cvs a b j k] by rw [mulS_take, hkj])
          have HCB := Lib.hid (cvs_bd a b j k)
          have HOB := Lib.hid (HO.out.below HB2.out)
          have HB3 := Lib.hid (HBW.out.trans (HB2.out.mono HBW.out.size))
          clear hkj
          generalize cvs a b j k = s at HS HCB ⊢
          go_wp2_with (at_builtin; refine wpList_app1 T_int HOB.out (by rw [ints_len, List.length_map, List.length_range]; omega) HB3.out.size (by rfl) rfl (by rfl) (by rfl) (by rfl) ?_; intro v1 w1 hown1 hgr1)
          go_roundw
          case rel =>
            refine ⟨j + 1, by omega, by go_num, ?_, hgr1.below HB3.out HB3.out.size HOB.out.ge⟩
            rw [HS.out]
            simpa [ints] using hown1
          case measure => simp [intOf]; omega
    · have : j = a.length := by omega
      subst this
      go_wp2_with fail
      go_ret
      exact ⟨_, rfl, ⟨HO.out, fun z hz => by have := mulS_nums a b z hz; unfold In64; omega⟩, HBW.out⟩

/-- rows as columns -/
def trn (xss : List (List Int)) (m : Nat) : List (List Int) := (List.range m).map fun k => xss.map fun zs => zs.getD k 0
theorem trn_len (xss : List (List Int)) (m : Nat) : (trn xss m).length = m := by simp [trn]
theorem trn_succ (xss : List (List Int)) (m : Nat) : trn xss (m + 1) = trn xss m ++ [xss.map fun zs => zs.getD m 0] := by
  unfold trn; rw [List.range_succ, List.map_append]; rfl

set_option maxHeartbeats 2000000 in
theorem i_turned (w : World) (v : Value) (xss : List (List Int)) (m : Nat) (ha : Rows w v xss) (hl : xss.length = 7) (hr : ∀ zs ∈ xss, zs.length = m) (hm : m ≤ 3) :
    Calls Try.prog 81 #[v] w fun e w' => ∃ r, e = .returned r ∧ OR w' w.heap.size w'.heap.size tL tI r (trn xss m) ∧ Below w.heap.size w w' := by
  have HA := Lib.hid ha
  obtain ⟨A, c, rfl, l1, l2, h3⟩ := ha.open_
  have HR := Lib.hid hr
  have HL := Lib.hid hl
  obtain ⟨ad, u0, zs0, rfl, hz0, hu0, hc0⟩ := h3 0 (by omega)
  obtain ⟨A0, d0, rfl, -, -, -⟩ := hu0.open_
  have hzl := hr zs0 (List.mem_of_getElem? hz0)
  rw [hzl] at hc0
  have hc : (w.alloc (.cells #[] tL)).cell? ad = some (.slice A0 m d0) := by
    rw [(below1 w (.cells #[] tL)).cell (by exact World.block_lt_of_cell? w _ (show w.cell? ad = _ from hc0))]; exact hc0
  have hxl : (0 : Int) < (xss.length : Int) := by omega
  have OL := Lib.hid (show Two (w.alloc (.cells #[] tL)) w.heap.size (.slice (some ⟨w.heap.size, 0, none⟩) 0 0) (.slice none 0 0) [] [] [] from ⟨own_lit w tL [] (by simp [maxLen]), RowsOwn.nil _ _ _ _, OwnInts.nil _ _ _, fun k u hu => by simp at hu⟩)
  clear ha h3 hr hz0 hu0 hc0 hzl hl
  go_enter Try.func81, Try.ntmps81
  go_wp2_with fail
  clear hc
  go_loopw [3, 10] (fun o i wr => ∃ (j : Nat) (vs : List Value), j ≤ m ∧ i = .int .i64 j ∧ Two wr w.heap.size o (.slice none 0 0) vs (trn xss j) [] ∧ Below w.heap.size w wr) (fun _ i _ => m - (intOf i).toNat)
  case atStart => exact ⟨0, [], Nat.zero_le _, rfl, OL.out, below1 _ _⟩
  case round =>
    obtain ⟨j, vs, hj, rfl, ht, hb⟩ := hrel
    clear OL
    have HT := Lib.hid ht
    have HB := Lib.hid hb
    have hvl : vs.length ≤ 3 := by have := ht.rows.1; rw [trn_len] at this; omega
    clear ht hb
    by_cases hlt : j < m
    · have HS := Lib.hid (trn_succ xss j)
      have hji : (j : Int) < (m : Int) := by omega
      have HLM := Lib.hid (show (xss.map fun zs => zs.getD j 0).length = 7 by rw [List.length_map, HL.out])
      go_wp2_with (first
        | (go_at_call 127; refine (i_column _ _ xss j (HA.out.below HB.out) (fun zs hz => by rw [HR.out zs hz]; exact hlt) (by have := HL.out; omega)).mono ?_; rintro e w5 ⟨r5, rfl, ho5, hb5⟩; obtain ⟨A5, c5, hv5, -, -, -⟩ := ho5.ints.open_; rw [HLM.out] at hv5; subst hv5)
        | (at_builtin; refine wpList_app1 T_row (HT.out.own.below hb5) (by omega) (Nat.le_trans HB.out.size hb5.size) (by rfl) rfl (by rfl) (by rfl) (by rfl) ?_; intro v1 w1 hown1 hgr1))
      go_roundw
      case rel =>
        refine ⟨j + 1, vs ++ [.slice A5 7 c5], by omega, by go_num, ?_, hgr1.below (HB.out.trans (hb5.mono HB.out.size)) (Nat.le_trans HB.out.size hb5.size) HT.out.own.ge⟩
        rw [HS.out]
        exact HT.out.addA' hb5 HB.out.size ho5 hown1 hgr1
      case measure => simp [intOf]; omega
    · have : j = m := by omega
      subst this
      go_wp2_with fail
      go_ret
      exact ⟨_, rfl, ⟨vs, HT.out.own, HT.out.own.lt, HT.out.rows⟩, HB.out⟩

set_option maxHeartbeats 2000000 in
theorem s_l14Turn (w : World) (v : Value) (xss : List (List Int)) (m : Nat) (ha : Rows w v xss) (hl : xss.length = 7) (hr : ∀ zs ∈ xss, zs.length = m) (hm : m ≤ 3) :
    Calls Try.prog 76 #[v] w fun e w' => ∃ r, e = .returned r ∧ OR w' w.heap.size w'.heap.size tL tI r (trn xss m) ∧ Below w.heap.size w w' := by
  have HA := Lib.hid ha
  obtain ⟨A, c, rfl, l1, l2, h3⟩ := ha.open_
  have HR := Lib.hid hr
  have HL := Lib.hid hl
  obtain ⟨ad, u0, zs0, rfl, hz0, hu0, hc0⟩ := h3 0 (by omega)
  obtain ⟨A0, d0, rfl, -, -, -⟩ := hu0.open_
  have hzl := hr zs0 (List.mem_of_getElem? hz0)
  rw [hzl] at hc0
  have HAB := Lib.hid (World.block_lt_of_cell? w _ hc0)
  have HC := Lib.hid (show w.cell? ad = some (.slice A0 m d0) from hc0)
  have hxl : (0 : Int) < (xss.length : Int) := by omega
  have OL := Lib.hid (show Two (w.alloc (.cells #[] tL)) w.heap.size (.slice (some ⟨w.heap.size, 0, none⟩) 0 0) (.slice none 0 0) [] [] [] from ⟨own_lit w tL [] (by simp [maxLen]), RowsOwn.nil _ _ _ _, OwnInts.nil _ _ _, fun k u hu => by simp at hu⟩)
  clear ha h3 hr hz0 hu0 hc0 hzl hl
  go_enter Try.func76, Try.ntmps76
  go_wp2_with fail
  go_loopw [3, 4] (fun o i wr => ∃ (j : Nat) (vs : List Value), j ≤ m ∧ i = .int .i64 j ∧ Two wr w.heap.size o (.slice none 0 0) vs (trn xss j) [] ∧ Below w.heap.size w wr) (fun _ i _ => m - (intOf i).toNat)
  case atStart => exact ⟨0, [], Nat.zero_le _, rfl, OL.out, below1 _ _⟩
  case round =>
    obtain ⟨j, vs, hj, rfl, ht, hb⟩ := hrel
    clear OL
    have HT := Lib.hid ht
    have HB := Lib.hid hb
    have hvl : vs.length ≤ 3 := by have := ht.rows.1; rw [trn_len] at this; omega
    have hc : wr.cell? ad = some (.slice A0 m d0) := by rw [HB.out.cell (by exact HAB.out)]; exact HC.out
    clear ht hb
    by_cases hlt : j < m
    · have HS := Lib.hid (trn_succ xss j)
      have hji : (j : Int) < (m : Int) := by omega
      have HLM := Lib.hid (show (xss.map fun zs => zs.getD j 0).length = 7 by rw [List.length_map, HL.out])
      go_wp2_with (first
        | (go_at_call 122; refine (s_l01Column _ _ xss j (HA.out.below HB.out) (fun zs hz => by rw [HR.out zs hz]; exact hlt) (by have := HL.out; omega)).mono ?_; rintro e w5 ⟨r5, rfl, ho5, hb5⟩; obtain ⟨A5, c5, hv5, -, -, -⟩ := ho5.ints.open_; rw [HLM.out] at hv5; subst hv5)
        | (at_builtin; refine wpList_app1 T_row (HT.out.own.below hb5) (by omega) (Nat.le_trans HB.out.size hb5.size) (by rfl) rfl (by rfl) (by rfl) (by rfl) ?_; intro v1 w1 hown1 hgr1))
      go_roundw
      case rel =>
        refine ⟨j + 1, vs ++ [.slice A5 7 c5], by omega, by go_num, ?_, hgr1.below (HB.out.trans (hb5.mono HB.out.size)) (Nat.le_trans HB.out.size hb5.size) HT.out.own.ge⟩
        rw [HS.out]
        exact HT.out.addA' hb5 HB.out.size ho5 hown1 hgr1
      case measure => simp [intOf]; omega
    · have : j = m := by omega
      subst this
      go_wp2_with fail
      go_ret
      exact ⟨_, rfl, ⟨vs, HT.out.own, HT.out.own.lt, HT.out.rows⟩, HB.out⟩
end Go.Proofs.Ytgnmnpjbmdifbaa
