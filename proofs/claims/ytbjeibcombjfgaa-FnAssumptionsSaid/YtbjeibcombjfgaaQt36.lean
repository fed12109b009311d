/- Walk: l11Collocation of the reference. | Walks: draws of nodes and of tableaus of nodes (l11DrawNodes, l11Draw of the reference). | Walks: l11Draw and DrawImpliedOrder of the reference. -/
import Derived.Test.YtbjeibcombjfgaaQt31
import Derived.Test.YtbjeibcombjfgaaQt12
import Derived.Test.YtbjeibcombjfgaaQt4
import Derived.Test.YtbjeibcombjfgaaQt35
import Derived.Test.YtbjeibcombjfgaaQt19
import Derived.Test.YtbjeibcombjfgaaQt25
set_option maxRecDepth 100000
set_option linter.unusedVariables false
set_option linter.unusedSimpArgs false
namespace Go.Proofs.Ytbjeibcombjfgaa
open Go.RowKit

def rowTo (zs : List Int) (i m : Nat) : List Int := (List.range m).map fun j => integ (lag zs j) (zs.getD i 0)
theorem rowTo_succ (zs : List Int) (i m : Nat) : rowTo zs i (m + 1) = rowTo zs i m ++ [integ (lag zs m) (zs.getD i 0)] := by simp [rowTo, List.range_succ]
theorem rowTo_len (zs : List Int) (i m : Nat) : (rowTo zs i m).length = m := by simp [rowTo]
theorem rowTo_in (zs : List Int) (i m : Nat) : ∀ z ∈ rowTo zs i m, In64 z := by
  intro z hz
  obtain ⟨j, _, rfl⟩ := List.mem_map.1 hz
  have := integ_bd (lag zs j) (zs.getD i 0)
  unfold In64
  omega
theorem lag_nums (zs : List Int) (j : Nat) : Nums (lag zs j) := lagI_nums _ _ _ _
theorem lag_le5 (zs : List Int) (j : Nat) : (lag zs j).length ≤ zs.length + 1 := (lagI_len _ _ _ _).2

set_option maxHeartbeats 4000000 in
theorem s_l11Collocation (w : World) (v : Value) (zs : List Int) (ha : Ints w v zs) (hN : Nums zs) (hn : zs.length ≤ 900) :
    Calls Try.prog 135 #[v] w fun e w' => ∃ r, e = .returned r ∧ OT w' w.heap.size w'.heap.size r (colA zs zs.length) (colB zs zs.length) ∧ Below w.heap.size w w' := by
  have HA := Lib.hid ha
  obtain ⟨A, c, rfl, l1, l2, h3⟩ := ha.open_
  have H3 := Lib.hid h3
  have HN := Lib.hid hN
  clear h3 ha hN
  go_enter Try.func135, Try.ntmps135
  go_wp2_with fail
  have HF := Lib.hid (show Fill2 w ((w.alloc (.cells #[.slice none 0 0, .slice none 0 0] 27)).alloc (.cells #[.slice none 0 0, .slice none 0 0] 27)) (w.heap.size + 1) (.slice none 0 0) (.slice none 0 0) [] [] [] from
    ⟨Blk.new1 _ _ _ _, Own.nil _ _ _, RowsOwn.nil _ _ _ _, OwnInts.nil _ _ _, fun k u hu => by simp at hu, below2 _ _ _⟩)
  have K0 := Lib.hid ((Blk.new w #[.slice none 0 0, .slice none 0 0] 27).alloc (.cells #[.slice none 0 0, .slice none 0 0] 27))
  generalize ((w.alloc (.cells #[.slice none 0 0, .slice none 0 0] 27)).alloc (.cells #[.slice none 0 0, .slice none 0 0] 27)) = w3 at HF K0 ⊢
  go_loopw [4] (fun i wr => ∃ (j : Nat) (va vb : Value) (vs : List Value), j ≤ zs.length ∧ i = .int .i64 j ∧ Fill2 w wr (w.heap.size + 1) va vb vs (colA zs j) (colB zs j) ∧ Blk wr w.heap.size 27 #[.slice none 0 0, .slice none 0 0]) (fun i _ => zs.length - (intOf i).toNat)
  case atStart => exact ⟨0, _, _, [], Nat.zero_le _, rfl, HF.out, K0.out⟩
  case round =>
    obtain ⟨j, va, vb, vs, hj, rfl, hfill, hk0⟩ := hrel
    clear HF K0
    have HF := Lib.hid hfill
    have K0 := Lib.hid hk0
    clear hfill hk0
    by_cases hlt : j < zs.length
    · obtain ⟨ad, x, rfl, hx, hx64, hcx0⟩ := H3.out j hlt
      have hxn := HN.out x (List.mem_of_getElem? hx)
      have HX := Lib.hid (show zs.getD j 0 = x by simp [List.getD, hx])
      have HC := Lib.hid hcx0
      have hji : (j : Int) < (zs.length : Int) := by omega
      clear hx hcx0
      have OL := Lib.hid (own_lit wr tI [] (by simp [maxLen]))
      go_wp2_with fail
      obtain ⟨wo, rfl⟩ : ∃ wo : World, wo = wr := ⟨_, rfl⟩
      go_loopw [5, 6] (fun o k wi => ∃ m : Nat, m ≤ zs.length ∧ k = .int .i64 m ∧ Own wi wo.heap.size tI o (ints (rowTo zs j m)) ∧ Below wo.heap.size wo wi) (fun _ k _ => zs.length - (intOf k).toNat)
      case atStart => exact ⟨0, Nat.zero_le _, rfl, by simpa [rowTo, ints] using OL.out, below1 _ _⟩
      case round =>
        obtain ⟨m, hm, rfl, hown, hb⟩ := hrel
        clear OL
        have HO := Lib.hid hown
        have HB := Lib.hid hb
        have HW := Lib.hid (HF.out.below.trans (hb.mono HF.out.below.size))
        clear hown hb
        by_cases hlt2 : m < zs.length
        · have hc : wr.cell? (ad.add j) = some (.int .i64 x) := by
            rw [HW.out.cell (by rw [block_add]; have := World.block_lt_of_cell? w _ HC.out; rwa [block_add] at this)]; exact HC.out
          have HPR := Lib.hid (rowTo_succ zs j m)
          have hmi : (m : Int) < (zs.length : Int) := by omega
          have hll := lag_le5 zs m
          go_wp2_with fail
          go_region_law (first
            | (refine step_app1 T_int (B := wo.heap.size) (W := w5.drewN n7) (show Own (w5.drewN n7) wo.heap.size tI _ (ints (rowTo zs j m)) from HO.out.below (below_drewN (below_of_drew hb5) _)) (by rw [ints_len, rowTo_len]; omega) (by have h1 := HB.out.size; have h2 := hb5.size; simp at h2 ⊢; omega) (by rfl) rfl (by rfl) (by rfl) (by rfl) ?_; intro v6 w6 hown6 hgr6)
            | (go_simp; go_at_call 194; refine (s_l11Lagrange _ _ zs m (by exact HA.out.below HW.out.drew) HN.out (by omega) hlt2).mono ?_; rintro e w5 ⟨r5, rfl, ho5, hb5⟩; have hc5 : w5.cell? (ad.add j) = some (.int .i64 x) := (by rw [hb5.cell (by exact World.block_lt_of_cell? wr _ hc)]; exact hc))
            | (go_simp; go_at_call 193; refine (s_l11Integral _ _ (lag zs m) x (by exact ho5.ints) (lag_nums _ _) (by omega) hxn.1 hxn.2).mono ?_; rintro e w7 ⟨rfl, n7, rfl⟩))
          all_goals
            have HN6 := Lib.hid (hgr6.below (B := wo.heap.size) (below_drewN (HB.out.trans ((below_of_drew hb5).mono HB.out.size)) _) (by have h1 := HB.out.size; have h2 := hb5.size; simp at h2 ⊢; omega) HO.out.ge)
            have HO6 := Lib.hid hown6
            clear hown6 hgr6 ho5 hb5 hc5 hc
            go_wp2_with fail
            go_roundw
            case rel =>
              refine ⟨m + 1, by omega, by go_num, ?_, HN6.out⟩
              rw [HPR.out, HX.out]
              simpa [ints] using HO6.out
            case measure => simp [intOf]; omega
        · have : m = zs.length := by omega
          subst this
          have HIN := Lib.hid (rowTo_in zs j zs.length)
          obtain ⟨A6, c6, hv6, -, -, -⟩ := (show Ints wr _ (rowTo zs j zs.length) from ⟨HO.out.cells, HIN.out⟩).open_
          rw [rowTo_len] at hv6
          subst hv6
          have HF2 := Lib.hid (HF.out.step HB.out)
          have q0 : wr.cell? ⟨w.heap.size + 1, 0, none⟩ = some va := HF2.out.blk.cell 0
          have hll := lag_le5 zs j
          go_wp2_with (at_builtin; refine wpList_app1 T_row (B := w.heap.size + 1 + 1) (v := va) (vs := vs) HF2.out.own (by have := HF2.out.rows.1; rw [colA_len] at this; omega) (by have := HF2.out.lt; omega) (by rfl) rfl (by rfl) (by rfl) (by rfl) ?_; intro v1 w1 hown1 hgr1; obtain ⟨A8, c8, hv8, -, -⟩ := hown1.cells.open_; subst hv8; have q6 := ((HF2.out.blk.grow hgr1 HF2.out.npA).both (u := va) rfl).1; have q7 := ((HF2.out.blk.grow hgr1 HF2.out.npA).both (u := va) rfl).2)
          have HA2 := Lib.hid (HF.out.nextA' (zs := rowTo zs j zs.length) (Nat.le_succ _) HB.out ⟨HO.out, HIN.out⟩ hown1 hgr1)
          have KA := Lib.hid (((K0.out.below HB.out K0.out.lt).grow hgr1 (fun e => by have := HF.out.own.ge _ e; omega)).far (p := ⟨w.heap.size + 1, 0, none⟩) (by simp) (.slice A8 (vs ++ [Value.slice A6 zs.length c6]).length c8))
          simp only [List.length_append, List.length_singleton] at HA2 KA
          clear hown1 hgr1 q0 q6 q7 HO HF2 K0 hlt2
          generalize (w1.setCell ⟨w.heap.size + 1, 0, none⟩ (.slice A8 (vs.length + 1) c8)) = w2 at HA2 KA ⊢
          have HW2 := Lib.hid HA2.out.below
          have r0 : w2.cell? ⟨w.heap.size + 1, 1, none⟩ = some vb := HA2.out.blk.cell 1
          go_wp2_with fail
          go_region_law (first
            | (refine step_app1 T_int (B := w.heap.size + 1 + 1) (v := vb) (vs := ints (colB zs j)) (W := w5.drewN n7) (show Own (w5.drewN n7) (w.heap.size + 1 + 1) tI vb (ints (colB zs j)) from HA2.out.ws.1.below (below_drewN (below_of_drew hb5) _)) (by rw [ints_len, colB_len]; omega) (by have h1 := HA2.out.lt; have h2 := hb5.size; simp at h2 ⊢; omega) (by rfl) rfl (by rfl) (by rfl) (by rfl) ?_; intro v9 w9 hown9 hgr9; obtain ⟨A9, c9, hv9, -, -⟩ := hown9.cells.open_; subst hv9; have q6 : w9.cell? ⟨w.heap.size + 1, 1, none⟩ = some vb := ((HA2.out.step (below_drewN (below_of_drew hb5) n7)).blk.grow hgr9 HA2.out.npB).cell 1; have q7 := ((HA2.out.step (below_drewN (below_of_drew hb5) n7)).blk.grow hgr9 HA2.out.npB).frozen 1)
            | (go_simp; go_at_call 194; refine (s_l11Lagrange _ _ zs j (by exact HA.out.below HW2.out.drew) HN.out (by omega) hlt).mono ?_; rintro e w5 ⟨r5, rfl, ho5, hb5⟩; have r5a : w5.cell? ⟨w.heap.size + 1, 1, none⟩ = some vb := (HA2.out.step (below_of_drew hb5)).blk.cell 1; have r5b : ∀ o, (w5.alloc o).cell? ⟨w.heap.size + 1, 1, none⟩ = some vb := fun o => ((HA2.out.step (below_of_drew hb5)).blk.alloc o).cell 1)
            | (go_simp; go_at_call 193; refine (s_l11Integral _ _ (lag zs j) 1 (by exact ho5.ints) (lag_nums _ _) (by omega) (by omega) (by omega)).mono ?_; rintro e w7 ⟨rfl, n7, rfl⟩; have r7b : ∀ o, ((w5.drewN n7).alloc o).cell? ⟨w.heap.size + 1, 1, none⟩ = some vb := fun o => ((HA2.out.step (below_drewN (below_of_drew hb5) n7)).blk.alloc o).cell 1))
          all_goals
            have HZ64 := Lib.hid (show In64 (integ (lag zs j) 1) by have := integ_bd (lag zs j) 1; unfold In64; omega)
            have HB2 := Lib.hid ((HA2.out.step (below_drewN (below_of_drew hb5) n7)).nextB (Nat.le_succ _) HZ64.out hown9 hgr9)
            have KA2 := Lib.hid (((KA.out.below (below_drewN (below_of_drew hb5) n7) KA.out.lt).grow hgr9 (fun e => by have := HA2.out.ws.1.ge _ e; omega)).far (p := ⟨w.heap.size + 1, 1, none⟩) (by simp) (.slice A9 (ints (colB zs j) ++ [Value.int .i64 (integ (lag zs j) 1)]).length c9))
            simp only [List.length_append, List.length_singleton] at HB2 KA2
            clear hown9 hgr9 q6 q7 r0 r5a r5b r7b ho5 hb5
            go_wp2_with fail
            go_roundw
            case rel =>
              refine ⟨j + 1, .slice A8 (vs.length + 1) c8, .slice A9 ((ints (colB zs j)).length + 1) c9, vs ++ [.slice A6 zs.length c6], by omega, by go_num, ?_, KA2.out⟩
              rw [colA_succ, colB_succ]
              exact HB2.out
            case measure => simp [intOf]; omega
    · have : j = zs.length := by omega
      subst this
      obtain ⟨A7, c7, hv7, -, -⟩ := HF.out.own.cells.open_
      have hvl : vs.length = zs.length := by have := HF.out.rows.1; rwa [colA_len] at this
      rw [hvl] at hv7
      subst hv7
      obtain ⟨A9, c9, hv9, -, -⟩ := HF.out.ws.1.cells.open_
      rw [ints_len, colB_len] at hv9
      subst hv9
      have e0 : wr.cell? ⟨w.heap.size + 1, 0, none⟩ = some (.slice A7 zs.length c7) := HF.out.blk.cell 0
      have e1 : wr.cell? ⟨w.heap.size + 1, 1, none⟩ = some (.slice A9 zs.length c9) := HF.out.blk.cell 1
      have f0 : wr.cell? ⟨w.heap.size, 0, none⟩ = some (.slice none 0 0) := K0.out.cell 0
      have f1 : wr.cell? ⟨w.heap.size, 1, none⟩ = some (.slice none 0 0) := K0.out.cell 1
      have f2 := K0.out.frozen 0
      have f3 := K0.out.frozen 1
      have HTAB := Lib.hid HF.out.tab
      clear hvl
      go_wp2_with fail
      have c0 := Chg.refl w.heap.size (w.heap.size + 1) wr
      have c1' := c0.setCell (p := ⟨w.heap.size, 0, none⟩) (Nat.le_refl _) (by simp) (.slice A7 zs.length c7)
      have c2' := c1'.setCell (p := ⟨w.heap.size, 1, none⟩) (Nat.le_refl _) (by simp) (.slice A9 zs.length c9)
      have hsb := HF.out.below.size
      refine bodyPost_ret (v := .agg #[.slice A7 zs.length c7, .slice A9 zs.length c9]) (by simp [results, Try.results135, go_sem, f0, f1]) rfl ⟨_, rfl, (HTAB.out.kept c2' (.inr (by omega))).mono (by omega) c2'.size, c2'.below HF.out.below (by omega) hsb⟩
end Go.Proofs.Ytbjeibcombjfgaa

set_option maxRecDepth 100000
set_option linter.unusedVariables false
set_option linter.unusedSimpArgs false
namespace Go.Proofs.Ytbjeibcombjfgaa
open Go.RowKit

theorem lit_drawn {w0 W : World} {B p : Nat} (hg : w0.grownBy W (some p)) (hs : Src W B tSc p) (zs : List Int) (hn : Nums zs) (hl : zs.length ≤ 10) :
    OwnInts (W.alloc (.cells (ints zs).toArray tI)) w0.heap.size tI (.slice (some ⟨W.heap.size, 0, none⟩) zs.length zs.length) zs ∧ w0.grownBy (W.alloc (.cells (ints zs).toArray tI)) (some p) ∧ Src (W.alloc (.cells (ints zs).toArray tI)) B tSc p := by
  have h := own_lit W tI (ints zs) (by rw [ints_len]; simp [maxLen]; omega)
  rw [ints_len] at h
  exact ⟨⟨h.mono hg.size, nums_in hn⟩, gtrans hg (gof (below1 W _)), hs.below (below1 W _)⟩
theorem nums_two {a b : Int} (ha : 0 ≤ a ∧ a ≤ 10006) (hb : 0 ≤ b ∧ b ≤ 10006) : Nums [a, b] := by
  intro z hz
  simp only [List.mem_cons, List.not_mem_nil, or_false] at hz
  rcases hz with rfl | rfl
  · exact ha
  · exact hb
theorem nums_three {a b c : Int} (ha : 0 ≤ a ∧ a ≤ 10006) (hb : 0 ≤ b ∧ b ≤ 10006) (hc : 0 ≤ c ∧ c ≤ 10006) : Nums [a, b, c] := by
  intro z hz
  simp only [List.mem_cons, List.not_mem_nil, or_false] at hz
  rcases hz with rfl | rfl | rfl
  · exact ha
  · exact hb
  · exact hc
theorem nums_append {a b : List Int} (ha : Nums a) (hb : Nums b) : Nums (a ++ b) := fun z hz => by
  rcases List.mem_append.1 hz with h | h
  · exact ha z h
  · exact hb z h
theorem rows0D {w : World} {a b : Value} {A : List (List Int)} {Bs : List Int} (h : TabArg w (.agg #[a, b]) A Bs) : Rows w a A := by
  obtain ⟨va, vb, he, h1, h2⟩ := h
  have : a = va ∧ b = vb := by simpa using he
  obtain ⟨rfl, rfl⟩ := this
  exact h1
theorem run_fieldA (A : Option Addr) (n c : Nat) (b : Value) (W : World) : Sem.run Try.prog (Instr.field tTb (.agg #[.slice A n c, b]) 0) W = .ok (.slice A n c) W := by
  have h := Try.underlying27
  have h2 := Try.underlying24
  simp [Instr.field, Go.part, go_sem, h, h2, isAgg, underlying, asAgg]
/-- what a draw of nodes hands on -/
def DrN (w w' : World) (B p : Nat) (x : Value) : Prop := ∃ zs, OwnInts w' w.heap.size tI x zs ∧ Nums zs ∧ (1 ≤ zs.length ∧ zs.length ≤ 5) ∧ w.grownBy w' (some p) ∧ Src w' B tSc p
set_option maxHeartbeats 8000000 in
theorem s_l11DrawList (w w1 : World) (B p : Nat) (hg1 : w.grownBy w1 (some p)) (hs1 : Src w1 B tSc p) :
    Calls Try.prog 114 #[at0 p, .int .i64 4] w1 fun e w2 => ∃ m : Nat, m ≤ 3 ∧ e = .returned (.int .i64 m) ∧ Calls Try.prog 181 #[at0 p, .int .i64 (1 + (m : Int))] w2 fun e w3 => ∃ x, e = .returned x ∧ DrN w w3 B p x := by
  refine (s_l01Next w1 B p 4 hs1 (by omega) (by omega)).mono ?_
  rintro e w2 ⟨x, rfl, x0, x1, hg, hs⟩
  obtain ⟨m, rfl⟩ : ∃ m : Nat, x = m := ⟨x.toNat, by omega⟩
  refine ⟨m, by omega, rfl, ?_⟩
  have h := s_l01List w2 B p (1 + m) hs (by omega)
  rw [show ((1 + m : Nat) : Int) = 1 + (m : Int) by omega] at h
  refine h.mono ?_
  rintro e w3 ⟨x3, rfl, zs, ho, hl, hn, hg3, hs3⟩
  exact ⟨_, rfl, zs, ho.mono (gtrans hg1 hg).size, hn, by omega, gtrans (gtrans hg1 hg) hg3, hs3⟩
set_option maxHeartbeats 16000000 in
theorem s_l11DrawNodes (w : World) (B p : Nat) (h : Src w B tSc p) :
    Calls Try.prog 133 #[at0 p] w fun e w' => ∃ x, e = .returned x ∧ DrN w w' B p x := by
  have hpl := h.lt
  have HN := Lib.hid (s_l01Next w B p 8 h (by omega) (by omega))
  clear h
  go_enter Try.func133, Try.ntmps133
  go_upto_region 2 with (go_at_call 114; go_loud (refine HN.out.mono ?_; rintro e w1 ⟨x, rfl, x0, x1, hg, hs⟩; have HG1 := Lib.hid hg; have HS1 := Lib.hid hs; clear hg hs x0 x1))
  clear HN
  by_cases hx0 : x = 0
  · have hd0 : (x == 0) = true := by simp [hx0]
    clear hx0
    go_wp2_with (first
      | (go_at_call 180; go_loud (refine (s_l09NamedG2 _ _ (by decide +kernel)).mono ?_; rintro e w2 ⟨v, rfl, hd2, hb2⟩; obtain ⟨A, Bs, hot, hsq, hnl⟩ := hd2; obtain ⟨Aa, ca, Ab, cb, hve⟩ := hot.open_; subst hve; have hr2 := rows0D hot.arg; rw [hsq.1] at hr2 ⊢; have hfa := run_fieldA Aa 2 ca (.slice Ab Bs.length cb); have HR2 := Lib.hid hr2; have HSQ := Lib.hid hsq; have HB2 := Lib.hid hb2; clear hot hr2 hsq hnl hb2))
      | (go_at_call 190; go_loud (refine (s_l09Ones _ 2 (by omega)).mono ?_; rintro e w3 ⟨x3, rfl, ho3, hb3⟩; have HO3 := Lib.hid ho3.ints; have HR3 := Lib.hid (HR2.out.below hb3); have HB3 := Lib.hid (HB2.out.trans (hb3.mono HB2.out.size)); clear ho3 hb3))
      | (go_at_call 189; go_loud (refine (s_l09TimesOnes _ _ _ A 2 HR3.out HO3.out (fun zs hz => ⟨(HSQ.out.2 zs hz).2, by rw [(HSQ.out.2 zs hz).1]; exact Nat.le_refl _⟩) (by rw [HSQ.out.1]; omega) (by omega)).mono ?_; rintro e w4 ⟨x4, rfl, ho4, hb4⟩; have HO4 := Lib.hid ho4; have HB4 := Lib.hid (HB3.out.trans (hb4.mono HB3.out.size)); have HB43 := Lib.hid HB3.out.size; clear ho4 hb4)))
    go_ret
    exact ⟨_, rfl, _, HO4.out.mono (Nat.le_trans HG1.out.size HB43.out), nodesOf_nums _, by rw [nodesOf_len, HSQ.out.1]; omega, gtrans HG1.out (gof HB4.out), HS1.out.below HB4.out⟩
  · have hd0 : (x == 0) = false := by simp [hx0]
    by_cases hx1 : x = 1
    · have hd1 : (x == 1) = true := by simp [hx1]
      clear hx0 hx1
      go_upto_region 6 with (first
        | (go_at_call 191; (with_reducible refine (s_l01Number w1 B p HS1.out).mono ?_); go_loud (rintro e w2 ⟨c, rfl, hc, hg, hs⟩; have HC := Lib.hid hc; have HG2 := Lib.hid (gtrans HG1.out hg); have HS2 := Lib.hid hs; clear hc hg hs))
        | (go_at_call 191; (with_reducible refine (s_l01Number w2 B p HS2.out).mono ?_); go_loud (rintro e w3 ⟨d, rfl, hd, hg, hs⟩; have HD := Lib.hid hd; have HG3 := Lib.hid (gtrans HG2.out hg); have HS3 := Lib.hid hs; clear hd hg hs)))
      have hcb := HC.out
      have hdb := HD.out
      have HSC := Lib.hid (fun X => s_l01Sub 1 c X (by omega) (by omega) (by omega) (by omega))
      have HSD := Lib.hid (fun X => s_l01Sub 1 d X (by omega) (by omega) (by omega) (by omega))
      have hcm := nume_bd (1 - c)
      have hdm := nume_bd (1 - d)
      generalize (1 - c) % 10007 = c1 at *
      generalize (1 - d) % 10007 = d1 at *
      go_upto_region 7 with (first
        | (go_at_call 70; go_loud (refine (s_l01FracZ _ 1 2 (by omega) (by omega) (by omega) (by omega)).mono ?_; rintro e w4 ⟨z, rfl, hz, rfl⟩; have HZ := Lib.hid hz; clear hz))
        | (go_at_call 183; refine (HSC.out _).mono ?_; rintro e w4 ⟨rfl, rfl⟩))
      have hN3 := nums_three hcb HZ.out hcm
      obtain ⟨W4, hW4⟩ : ∃ W4, W4 = w3.alloc (.cells #[.int .i64 c, .int .i64 z, .int .i64 c1] tI) := ⟨_, rfl⟩
      obtain ⟨ho4, hg4, hs4⟩ := lit_drawn HG3.out HS3.out [c, z, c1] hN3 (by simp)
      rw [show w3.alloc (.cells (ints [c, z, c1]).toArray tI) = W4 from hW4.symm] at ho4 hg4 hs4
      have HO4 := Lib.hid (show OwnInts W4 w.heap.size tI (.slice (some ⟨w3.heap.size, 0, none⟩) 3 3) [c, z, c1] from ho4)
      have HG4 := Lib.hid hg4
      have HS4 := Lib.hid hs4
      have HN3 := Lib.hid hN3
      rw [← hW4]
      clear hW4 ho4 hg4 hs4 hN3
      go_upto_if 29 with (go_at_call 114; go_loud (refine (s_l01Next _ B p 2 HS4.out (by omega) (by omega)).mono ?_; rintro e w5 ⟨y, rfl, y0, y1, hg, hs⟩; have HG5 := Lib.hid (gtrans HG4.out hg); have HS5 := Lib.hid hs; have HO5 := Lib.hid (show OwnInts w5 w.heap.size tI (.slice (some ⟨w3.heap.size, 0, none⟩) 3 3) [c, z, c1] from ⟨HO4.out.1.src hpl hg, HO4.out.2⟩); clear hg hs y0 y1))
      generalize (y == 0) = cc at *
      clear HO4
      cases cc with
      | true =>
        have hN2 := nums_two hdb hdm
        have HN2 := Lib.hid hN2
        have hl2 := own_lit w5 tI (ints [d, d1]) (by simp [maxLen, ints])
        have HY := Lib.hid (show Cells (w5.alloc (.cells #[.int .i64 d, .int .i64 d1] tI)) (.slice (some ⟨w5.heap.size, 0, none⟩) 2 2) (ints [d, d1]) from hl2.cells)
        have HO6 := Lib.hid (show Own (w5.alloc (.cells #[.int .i64 d, .int .i64 d1] tI)) w.heap.size tI (.slice (some ⟨w3.heap.size, 0, none⟩) 3 3) (ints [c, z, c1]) from (HO5.out.below (below1 w5 _)).1)
        have HG6 := Lib.hid (gtrans HG5.out (gof (below1 w5 (.cells #[.int .i64 d, .int .i64 d1] tI))))
        have HS6 := Lib.hid (HS5.out.below (below1 w5 (.cells #[.int .i64 d, .int .i64 d1] tI)))
        clear hl2 hN2
        go_wp2_with (first
          | (go_at_call 183; refine (HSD.out _).mono ?_; rintro e w4 ⟨rfl, rfl⟩)
          | (at_builtin; go_loud (refine wpList_appN T_int HO6.out HY.out (by simp [ints]) HG6.out.size (fun u hu => by simp only [ints, List.mem_map] at hu; obtain ⟨z, -, rfl⟩ := hu; rfl) (by rfl) rfl (by rfl) (by rfl) ?_; intro v3 w7 hown3 hgr3; have HN7 := Lib.hid hown3; have HR7 := Lib.hid hgr3; clear hown3 hgr3)))
        go_ret
        refine ⟨_, rfl, [c, z, c1] ++ [d, d1], ⟨by rw [show ints ([c, z, c1] ++ [d, d1]) = ints [c, z, c1] ++ ints [d, d1] from by simp [ints]]; exact HN7.out, nums_in (nums_append HN3.out HN2.out)⟩, nums_append HN3.out HN2.out, by simp, gthen HG6.out HR7.out.1 HO6.out.ge, HS6.out.kept HR7.out.1 (fun e => by have := HO6.out.ge _ e; omega) (fun b hb => ?_)⟩
        exact Nat.le_trans (Nat.le_trans HS6.out.ge (Nat.le_of_lt hpl)) (HO6.out.ge b hb)
      | false =>
        go_wp2_with fail
        go_ret
        exact ⟨_, rfl, _, HO5.out, HN3.out, by simp, HG5.out, HS5.out⟩
    · have hd1 : (x == 1) = false := by simp [hx1]
      by_cases hx2 : x = 2
      · have hd2 : (x == 2) = true := by simp [hx2]
        clear hx0 hx1 hx2
        go_upto_region 12 with (go_at_call 191; go_loud (refine (s_l01Number w1 B p HS1.out).mono ?_; rintro e w2 ⟨c, rfl, hc, hg, hs⟩; have HC := Lib.hid hc; have HG2 := Lib.hid (gtrans HG1.out hg); have HS2 := Lib.hid hs; clear hc hg hs))
        have hcb := HC.out
        go_upto_region 13 with (first
          | (go_at_call 70; go_loud (refine (s_l01FracZ _ 1 2 (by omega) (by omega) (by omega) (by omega)).mono ?_; rintro e w4 ⟨z, rfl, hz, rfl⟩; obtain ⟨z0, z1⟩ := hz; have HSC := Lib.hid (fun X => s_l01Sub c z X (by omega) (by omega) (by omega) (by omega)); have hbm := nume_bd (c - z); generalize (c - z) % 10007 = bl at *))
          | (go_at_call 183; refine (HSC.out _).mono ?_; rintro e w4 ⟨rfl, rfl⟩))
        have HL := Lib.hid (s_l11DrawList w w2 B p HG2.out HS2.out)
        by_cases hbz : bl = 0
        · have hbb : (bl != 0) = false := by simp [hbz]
          clear hbz
          go_wp2_with (first
            | (go_at_call 114; go_loud (refine HL.out.mono ?_; rintro e w4 ⟨m, hm, rfl, hcl⟩; have HCL := Lib.hid hcl; have hwm : wrap64 (1 + (m : Int)) = 1 + (m : Int) := w64_dr _ (by omega); clear hcl))
            | (go_at_call 181; go_loud (refine HCL.out.mono ?_; rintro e w5 ⟨x5, rfl, hd⟩; have HD5 := Lib.hid hd; clear hd)))
          go_ret
          exact ⟨_, rfl, HD5.out⟩
        · have hbb : (bl != 0) = true := by simp [hbz]
          have HIV := Lib.hid (fun X => s_l01Inv bl X (by omega) (by omega))
          have hiv := pw_bd bl 10005
          generalize pw bl 10005 = iv at *
          clear hbz HL
          go_wp2_with (first
            | (go_at_call 70; (with_reducible refine (s_l01FracZ _ 1 2 (by omega) (by omega) (by omega) (by omega)).mono ?_); go_loud (rintro e w4 ⟨y, rfl, hy, rfl⟩; obtain ⟨y0, y1⟩ := hy; have HMU := Lib.hid (fun X => s_l01Mul c y X (by omega) (by omega) (by omega) (by omega)); have hmb := nume_bd (c * y); generalize c * y % 10007 = m1 at *))
            | (go_at_call 122; (with_reducible refine (HMU.out _).mono ?_); rintro e w4 ⟨rfl, rfl⟩)
            | (go_at_call 70; (with_reducible refine (s_l01FracZ _ 1 3 (by omega) (by omega) (by omega) (by omega)).mono ?_); go_loud (rintro e w4 ⟨u, rfl, hu, rfl⟩; obtain ⟨u0, u1⟩ := hu; have HSU := Lib.hid (fun X => s_l01Sub m1 u X (by omega) (by omega) (by omega) (by omega)); have hsb := nume_bd (m1 - u); generalize (m1 - u) % 10007 = s1 at *; have HMV := Lib.hid (fun X => s_l01Mul s1 iv X (by omega) (by omega) (by omega) (by omega)); have hmv := nume_bd (s1 * iv); generalize s1 * iv % 10007 = m2 at *))
            | (go_at_call 183; (with_reducible refine (HSU.out _).mono ?_); rintro e w4 ⟨rfl, rfl⟩)
            | (go_at_call 124; refine (HIV.out _).mono ?_; rintro e w4 ⟨rfl, rfl⟩)
            | (go_at_call 122; (with_reducible refine (HMV.out _).mono ?_); rintro e w4 ⟨rfl, rfl⟩))
          go_ret
          obtain ⟨ho4, hg4, hs4⟩ := lit_drawn HG2.out HS2.out [c, m2] (nums_two hcb hmv) (by simp)
          exact ⟨_, rfl, [c, m2], ho4, nums_two hcb hmv, by simp, hg4, hs4⟩
      · have hd2 : (x == 2) = false := by simp [hx2]
        by_cases hx3 : x = 3
        · have hd3 : (x == 3) = true := by simp [hx3]
          clear hx0 hx1 hx2 hx3
          go_wp2_with (go_at_call 70; go_loud (refine (s_l01FracZ _ 1 2 (by omega) (by omega) (by omega) (by omega)).mono ?_; rintro e w4 ⟨z, rfl, hz, rfl⟩; have HZ := Lib.hid hz; clear hz))
          go_ret
          have hN3 := nums_three (a := 0) (c := 1) (by omega) HZ.out (by omega)
          obtain ⟨ho4, hg4, hs4⟩ := lit_drawn HG1.out HS1.out [0, z, 1] hN3 (by simp)
          exact ⟨_, rfl, [0, z, 1], ho4, hN3, by simp, hg4, hs4⟩
        · have hd3 : (x == 3) = false := by simp [hx3]
          have HL := Lib.hid (s_l11DrawList w w1 B p HG1.out HS1.out)
          clear hx0 hx1 hx2 hx3
          go_wp2_with (first
            | (go_at_call 114; go_loud (refine HL.out.mono ?_; rintro e w4 ⟨m, hm, rfl, hcl⟩; have HCL := Lib.hid hcl; have hwm : wrap64 (1 + (m : Int)) = 1 + (m : Int) := w64_dr _ (by omega); clear hcl))
            | (go_at_call 181; go_loud (refine HCL.out.mono ?_; rintro e w5 ⟨x5, rfl, hd⟩; have HD5 := Lib.hid hd; clear hd)))
          go_ret
          exact ⟨_, rfl, HD5.out⟩
end Go.Proofs.Ytbjeibcombjfgaa

set_option maxRecDepth 100000
set_option linter.unusedVariables false
set_option linter.unusedSimpArgs false
namespace Go.Proofs.Ytbjeibcombjfgaa
open Go.RowKit

theorem stab_fin {w0 w : World} {p B : Nat} {va vb : Value} {A : List (List Int)} {Bs : List Int} (h1 : Stab w (w0.heap.size + 1) (.agg #[va, vb]) A Bs) (hg : w0.grownBy w (some p)) (hs : Src w B tSc p) (hp : p < w0.heap.size) :
    (∃ A Bs, Stab ((w.setCell ⟨w0.heap.size, 0, none⟩ va).setCell ⟨w0.heap.size, 1, none⟩ vb) w0.heap.size (.agg #[va, vb]) A Bs) ∧ w0.grownBy ((w.setCell ⟨w0.heap.size, 0, none⟩ va).setCell ⟨w0.heap.size, 1, none⟩ vb) (some p) ∧ Src ((w.setCell ⟨w0.heap.size, 0, none⟩ va).setCell ⟨w0.heap.size, 1, none⟩ vb) B tSc p := by
  have c2 := ((Chg.refl 0 (w0.heap.size + 1) w).setCell (p := ⟨w0.heap.size, 0, none⟩) (Nat.zero_le _) (by simp) va).setCell (p := ⟨w0.heap.size, 1, none⟩) (Nat.zero_le _) (by simp) vb
  have g1 := gthen hg (gset w w0.heap.size 0 va) (by rintro b ⟨⟩; omega)
  have g2 := gthen g1 (gset _ w0.heap.size 1 vb) (by rintro b ⟨⟩; omega)
  have s1 := hs.kept (gset w w0.heap.size 0 va) (by intro e; injection e with e; omega) (by rintro b ⟨⟩; have := hs.ge; omega)
  have s2 := s1.kept (gset _ w0.heap.size 1 vb) (by intro e; injection e with e; omega) (by rintro b ⟨⟩; have := hs.ge; omega)
  exact ⟨⟨A, Bs, (h1.step c2).mono (Nat.le_succ _)⟩, g2, s2⟩
theorem ot_stab {w : World} {C : Nat} {v : Value} {A : List (List Int)} {Bs : List Int} (h : OT w C w.heap.size v A Bs) : Stab w C v A Bs := fun W hW => (h.kept hW (.inr (Nat.le_refl _))).arg
set_option maxHeartbeats 8000000 in
theorem s_l11Draw (w : World) (B p : Nat) (h : Src w B tSc p) :
    Calls Try.prog 79 #[at0 p] w fun e w' => ∃ v, e = .returned v ∧ (∃ A Bs, Stab w' w.heap.size v A Bs) ∧ w.grownBy w' (some p) ∧ Src w' B tSc p := by
  have hpl := h.lt
  obtain ⟨W, hW⟩ : ∃ W, W = w.alloc (.cells #[.slice none 0 0, .slice none 0 0] tTb) := ⟨_, rfl⟩
  have HSW := Lib.hid (show W.heap.size = w.heap.size + 1 from by rw [hW]; simp)
  have HG0 := Lib.hid (show w.grownBy W (some p) from by rw [hW]; exact gof (below1 w _))
  have HK0 := Lib.hid (show Blk W w.heap.size tTb #[.slice none 0 0, .slice none 0 0] from by rw [hW]; exact Blk.new _ _ _)
  have HN := Lib.hid (s_l11DrawNodes W B p (by rw [hW]; exact h.below (below1 w _)))
  clear h
  go_enter Try.func79, Try.ntmps79
  go_upto_region 1 with fail
  rw [← hW]
  clear hW
  go_upto_region 2 with (go_at_call 133; go_loud (refine HN.out.mono ?_; rintro e w1 ⟨x1, rfl, zs, ho, hn, hl, hg, hs⟩; have hz := ho.ints; obtain ⟨Az, cz, rfl, -, -, -⟩ := hz.open_; have HO1 := Lib.hid ho; have HZ := Lib.hid hz; have HNZ := Lib.hid hn; have HLZ := Lib.hid hl; have HG1 := Lib.hid (gtrans HG0.out hg); have HS1 := Lib.hid hs; have HK1 := Lib.hid (HK0.out.srcD hg (by omega)); have HSZ1 := Lib.hid (show w.heap.size + 1 ≤ w1.heap.size from by rw [← HSW.out]; exact hg.size); clear ho hn hl hg hs hz))
  have HCN := Lib.hid (s_l11Nodes w1 _ zs HZ.out)
  have HSP := Lib.hid (fun X (hg : w1.grownBy X (some p)) (hs : Src X B tSc p) => s_l09Spoil X B p 4 hs (by omega) (by omega))
  have HFIN := Lib.hid (fun (X w5 : World) (va vb : Value) (A : List (List Int)) (Bs : List Int) (hg1 : w1.grownBy X (some p)) (hg2 : X.grownBy w5 (some p)) (hst : Stab w5 X.heap.size (.agg #[va, vb]) A Bs) (hs : Src w5 B tSc p) => stab_fin (w0 := w) (hst.mono (Nat.le_trans HSZ1.out hg1.size)) (gtrans HG1.out (gtrans hg1 hg2)) hs hpl)
  have HKF := Lib.hid (fun (X : World) (hg1 : w1.grownBy X (some p)) => (HK1.out.srcD hg1 (by omega) : Blk X w.heap.size tTb #[.slice none 0 0, .slice none 0 0]))
  by_cases hnc : nodesC zs = 0
  · rw [hnc] at HCN
    clear hnc
    go_upto_if 13 with (first
      | (go_at_call 134; go_loud (refine HCN.out.mono ?_; rintro e w2 ⟨rfl, n2, rfl⟩; have HS2 := Lib.hid (show Src (w1.drewN n2) B tSc p from HS1.out.below (below_drewN (Below.refl _ _) _)); have HG2 := Lib.hid (show w1.grownBy (w1.drewN n2) (some p) from gof (below_drewN (Below.refl _ _) _))))
      | (go_at_call 114; go_loud (refine (s_l01Next _ B p 3 HS2.out (by omega) (by omega)).mono ?_; rintro e w3 ⟨y, rfl, y0, y1, hg, hs⟩; have HG3 := Lib.hid (gtrans HG2.out hg); have HS3 := Lib.hid hs; clear hg hs y0 y1)))
    generalize (y == 0) = cc at *
    cases cc with
    | true =>
      have HI3 := Lib.hid ((show OwnInts w3 W.heap.size tI (.slice Az zs.length cz) zs from ⟨HO1.out.1.kept HG3.out (by
        cases hb : (Value.slice Az zs.length cz).ownBlock with
        | none => exact .inl rfl
        | some b => exact .inr fun e => by injection e with e; have := HO1.out.1.ge b hb; have := HSW.out; omega), HO1.out.2⟩).ints)
      go_wp2_with (go_at_call 135; go_loud (refine (s_l11Collocation w3 _ zs HI3.out HNZ.out (by have := HLZ.out; omega)).mono ?_; rintro e w5 ⟨r, rfl, hot, hb⟩; obtain ⟨Aa, ca, Ab, cb, rfl⟩ := hot.open_; have HST := Lib.hid (ot_stab hot); have HG5 := Lib.hid (show w3.grownBy w5 (some p) from gof hb); have HS5 := Lib.hid (HS3.out.below hb); have HK5 := Lib.hid (HKF.out w5 (gtrans HG3.out HG5.out)); have f0 : w5.cell? ⟨w.heap.size, 0, none⟩ = some (.slice none 0 0) := HK5.out.cell 0; have f1 : w5.cell? ⟨w.heap.size, 1, none⟩ = some (.slice none 0 0) := HK5.out.cell 1; have f2 := HK5.out.frozen 0; have f3 := HK5.out.frozen 1; clear hot hb))
      have hf := HFIN.out w3 w5 _ _ _ _ HG3.out HG5.out HST.out HS5.out
      have HBLK := Lib.hid (show Blk ((w5.setCell ⟨w.heap.size, 0, none⟩ (.slice Aa (colA zs zs.length).length ca)).setCell ⟨w.heap.size, 1, none⟩ (.slice Ab (colB zs zs.length).length cb)) w.heap.size tTb #[.slice Aa (colA zs zs.length).length ca, .slice Ab (colB zs zs.length).length cb] from by have h := (HK5.out.set_ 0 (.slice Aa (colA zs zs.length).length ca)).set_ 1 (.slice Ab (colB zs zs.length).length cb); simpa using h)
      have g0 := HBLK.out.cell 0
      have g1 := HBLK.out.cell 1
      simp only [List.getElem?_toArray, List.getElem?_cons_zero, List.getElem?_cons_succ] at g0 g1
      exact bodyPost_ret (v := .agg #[.slice Aa (colA zs zs.length).length ca, .slice Ab (colB zs zs.length).length cb]) (by simp [results, Try.results79, go_sem, g0, g1]) rfl ⟨_, rfl, hf.1, hf.2.1, hf.2.2⟩
    | false =>
      go_wp2_with (go_at_call 59; go_loud (refine (HSP.out w3 HG3.out HS3.out).mono ?_; rintro e w5 ⟨v, rfl, ⟨X, Bs, hst⟩, hg, hs⟩; obtain ⟨Aa, ca, Ab, cb, rfl⟩ := hst.arg.open_; have HST := Lib.hid hst; have HG5 := Lib.hid hg; have HS5 := Lib.hid hs; have HK5 := Lib.hid (HKF.out w5 (gtrans HG3.out HG5.out)); have f0 : w5.cell? ⟨w.heap.size, 0, none⟩ = some (.slice none 0 0) := HK5.out.cell 0; have f1 : w5.cell? ⟨w.heap.size, 1, none⟩ = some (.slice none 0 0) := HK5.out.cell 1; have f2 := HK5.out.frozen 0; have f3 := HK5.out.frozen 1; clear hst hg hs))
      have hf := HFIN.out w3 w5 _ _ _ _ HG3.out HG5.out HST.out HS5.out
      have HBLK := Lib.hid (show Blk ((w5.setCell ⟨w.heap.size, 0, none⟩ (.slice Aa X.length ca)).setCell ⟨w.heap.size, 1, none⟩ (.slice Ab Bs.length cb)) w.heap.size tTb #[.slice Aa X.length ca, .slice Ab Bs.length cb] from by have h := (HK5.out.set_ 0 (.slice Aa X.length ca)).set_ 1 (.slice Ab Bs.length cb); simpa using h)
      have g0 := HBLK.out.cell 0
      have g1 := HBLK.out.cell 1
      simp only [List.getElem?_toArray, List.getElem?_cons_zero, List.getElem?_cons_succ] at g0 g1
      exact bodyPost_ret (v := .agg #[.slice Aa X.length ca, .slice Ab Bs.length cb]) (by simp [results, Try.results79, go_sem, g0, g1]) rfl ⟨_, rfl, hf.1, hf.2.1, hf.2.2⟩
  · have hcn : (nodesC zs == 0) = false := by simp [hnc]
    generalize nodesC zs = nc at *
    clear hnc
    go_upto_if 13 with (go_at_call 134; go_loud (refine HCN.out.mono ?_; rintro e w2 ⟨rfl, n2, rfl⟩; have HS3 := Lib.hid (show Src (w1.drewN n2) B tSc p from HS1.out.below (below_drewN (Below.refl _ _) _)); have HG3 := Lib.hid (show w1.grownBy (w1.drewN n2) (some p) from gof (below_drewN (Below.refl _ _) _))))
    generalize w1.drewN n2 = w3 at *
    go_wp2_with (go_at_call 59; go_loud (refine (HSP.out w3 HG3.out HS3.out).mono ?_; rintro e w5 ⟨v, rfl, ⟨X, Bs, hst⟩, hg, hs⟩; obtain ⟨Aa, ca, Ab, cb, rfl⟩ := hst.arg.open_; have HST := Lib.hid hst; have HG5 := Lib.hid hg; have HS5 := Lib.hid hs; have HK5 := Lib.hid (HKF.out w5 (gtrans HG3.out HG5.out)); have f0 : w5.cell? ⟨w.heap.size, 0, none⟩ = some (.slice none 0 0) := HK5.out.cell 0; have f1 : w5.cell? ⟨w.heap.size, 1, none⟩ = some (.slice none 0 0) := HK5.out.cell 1; have f2 := HK5.out.frozen 0; have f3 := HK5.out.frozen 1; clear hst hg hs))
    have hf := HFIN.out w3 w5 _ _ _ _ HG3.out HG5.out HST.out HS5.out
    have HBLK := Lib.hid (show Blk ((w5.setCell ⟨w.heap.size, 0, none⟩ (.slice Aa X.length ca)).setCell ⟨w.heap.size, 1, none⟩ (.slice Ab Bs.length cb)) w.heap.size tTb #[.slice Aa X.length ca, .slice Ab Bs.length cb] from by have h := (HK5.out.set_ 0 (.slice Aa X.length ca)).set_ 1 (.slice Ab Bs.length cb); simpa using h)
    have g0 := HBLK.out.cell 0
    have g1 := HBLK.out.cell 1
    simp only [List.getElem?_toArray, List.getElem?_cons_zero, List.getElem?_cons_succ] at g0 g1
    exact bodyPost_ret (v := .agg #[.slice Aa X.length ca, .slice Ab Bs.length cb]) (by simp [results, Try.results79, go_sem, g0, g1]) rfl ⟨_, rfl, hf.1, hf.2.1, hf.2.2⟩
set_option maxHeartbeats 8000000 in
theorem s_DrawImpliedOrder (w : World) (A : Option Addr) (N c : Nat) (hb : ByB w w.heap.size A N) (hN : N ≤ 4096) :
    Calls Try.prog 23 #[.slice A N c] w fun e w' => ∃ v, e = .returned v ∧ (∃ X Bs, TabArg w' v X Bs) ∧ Below w.heap.size w w' := by
  obtain ⟨W, hW⟩ : ∃ W, W = w.alloc (.cells #[.slice none 0 0, .slice none 0 0] tTb) := ⟨_, rfl⟩
  have HSW := Lib.hid (show W.heap.size = w.heap.size + 1 from by rw [hW]; simp)
  have HBW := Lib.hid (show Below w.heap.size w W from by rw [hW]; exact below1 w _)
  have HKR := Lib.hid (show Blk W w.heap.size tTb #[.slice none 0 0, .slice none 0 0] from by rw [hW]; exact Blk.new _ _ _)
  have HFR := Lib.hid (s_l01From W A N c ((hb.belowS (Nat.le_refl _) HBW.out).monoS HBW.out.size) hN)
  clear hb
  go_enter Try.func23, Try.ntmps23
  go_upto_region 1 with fail
  rw [← hW]
  clear hW
  go_wp2_with (first
    | (go_at_call 58; go_loud (refine HFR.out.mono ?_; rintro e w1 ⟨p, rfl, hs1, hb1⟩; have HS1 := Lib.hid hs1; have HB1 := Lib.hid (HBW.out.trans (hb1.mono HBW.out.size)); have HK1 := Lib.hid (HKR.out.below hb1 HKR.out.lt); have hpg := hs1.ge; have hpl := hs1.lt; have HPW := Lib.hid (show w.heap.size < p from by have := HSW.out; omega); clear hs1 hb1))
    | (go_at_call 79; go_loud (refine (s_l11Draw w1 W.heap.size p HS1.out).mono ?_; rintro e w2 ⟨v, rfl, ⟨X, Bs, hst⟩, hg, hs⟩; obtain ⟨Aa, ca, Ab, cb, rfl⟩ := hst.arg.open_; have HST := Lib.hid hst; have HG2 := Lib.hid hg; have HK2 := Lib.hid (HK1.out.srcD hg (by have := HPW.out; omega)); have f0 : w2.cell? ⟨w.heap.size, 0, none⟩ = some (.slice none 0 0) := HK2.out.cell 0; have f1 : w2.cell? ⟨w.heap.size, 1, none⟩ = some (.slice none 0 0) := HK2.out.cell 1; have f2 := HK2.out.frozen 0; have f3 := HK2.out.frozen 1; clear hst hg hs)))
  have HBLK := Lib.hid (show Blk ((w2.setCell ⟨w.heap.size, 0, none⟩ (.slice Aa X.length ca)).setCell ⟨w.heap.size, 1, none⟩ (.slice Ab Bs.length cb)) w.heap.size tTb #[.slice Aa X.length ca, .slice Ab Bs.length cb] from by have h := (HK2.out.set_ 0 (.slice Aa X.length ca)).set_ 1 (.slice Ab Bs.length cb); simpa using h)
  have c2 := ((Chg.refl 0 w1.heap.size w2).setCell (p := ⟨w.heap.size, 0, none⟩) (Nat.zero_le _) (by have := HPW.out; simp; omega) (.slice Aa X.length ca)).setCell (p := ⟨w.heap.size, 1, none⟩) (Nat.zero_le _) (by have := HPW.out; simp; omega) (.slice Ab Bs.length cb)
  have HT := Lib.hid (HST.out.step c2).arg
  have HB := Lib.hid (((HB1.out.grown HG2.out (by have := HPW.out; omega) (fun b e => by injection e with e; have := HPW.out; omega)).setCell (p := ⟨w.heap.size, 0, none⟩) (Nat.le_refl _) (.slice Aa X.length ca)).setCell (p := ⟨w.heap.size, 1, none⟩) (Nat.le_refl _) (.slice Ab Bs.length cb))
  have g0 := HBLK.out.cell 0
  have g1 := HBLK.out.cell 1
  simp only [List.getElem?_toArray, List.getElem?_cons_zero, List.getElem?_cons_succ] at g0 g1
  exact bodyPost_ret (v := .agg #[.slice Aa X.length ca, .slice Ab Bs.length cb]) (by simp [results, Try.results23, go_sem, g0, g1]) rfl ⟨_, rfl, ⟨X, Bs, HT.out⟩, HB.out⟩
end Go.Proofs.Ytbjeibcombjfgaa

