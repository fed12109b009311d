/- Walk: l10Permute of the reference. -/
import Derived.Test.YtnlaoainhlfemaaAj11
import Derived.Test.YtnlaoainhlfemaaAj4
set_option linter.unusedVariables false
set_option linter.unusedSimpArgs false
namespace Go.Proofs.Ytnlaoainhlfemaa
open Go.RowKit

def casts (idx : List Nat) : List Int := idx.map fun (a : Nat) => (a : Int)
theorem casts_len (idx : List Nat) : (casts idx).length = idx.length := by simp [casts]
theorem casts_get {idx : List Nat} {i : Nat} {z : Int} (h : (casts idx)[i]? = some z) : ∃ a, idx[i]? = some a ∧ z = (a : Int) := by
  unfold casts at h
  rw [List.getElem?_map] at h
  cases hx : idx[i]? with
  | none => rw [hx] at h; cases h
  | some a => rw [hx] at h; exact ⟨a, rfl, by simpa using h.symm⟩
def pRow (A : List (List Int)) (idx : List Nat) (a : Nat) : List Int := idx.map fun b => (A.getD a []).getD b 0
def pRows (A : List (List Int)) (idx jdx : List Nat) : List (List Int) := jdx.map (pRow A idx)
def pWs (Bs : List Int) (jdx : List Nat) : List Int := jdx.map fun a => Bs.getD a 0
theorem take_map {α β : Type} {f : α → β} {l : List α} {j : Nat} {x : α} (h : l[j]? = some x) : (l.take (j + 1)).map f = (l.take j).map f ++ [f x] := by
  rw [List.take_add_one, h]; simp

set_option maxRecDepth 100000 in
set_option maxHeartbeats 2000000 in
theorem s_l10Permute (w : World) (v vo : Value) (A : List (List Int)) (Bs : List Int) (idx : List Nat) (ha : TabArg w v A Bs) (ho : Ints w vo (casts idx)) (hn : idx.length ≤ 1000) (hi : ∀ a ∈ idx, a < A.length ∧ a < Bs.length) (hsq : ∀ zs ∈ A, zs.length = A.length) :
    Calls Try.prog 52 #[v, vo] w fun e w' => ∃ r, e = .returned r ∧ OT w' w.heap.size w'.heap.size r (pRows A idx idx) (pWs Bs idx) ∧ Below w.heap.size w w' := by
  obtain ⟨va, vb, rfl, hA, hB⟩ := ha
  obtain ⟨A1, c1, rfl, l1, l2, h3⟩ := hA.open_
  obtain ⟨A2, c2, rfl, m1, m2, g3⟩ := hB.open_
  obtain ⟨A4, c4, rfl, n1, n2, o3⟩ := ho.open_
  rw [casts_len] at n1 o3 ⊢
  have H3 := Lib.hid h3
  have G3 := Lib.hid g3
  have O3 := Lib.hid o3
  have HI := Lib.hid hi
  have HSQ := Lib.hid hsq
  clear hA hB ho h3 g3 o3 hi hsq
  go_enter Try.func52, Try.ntmps52
  go_wp2_with fail
  have HF := Lib.hid (show Fill2 w (((w.alloc (.cells #[.slice A1 A.length c1, .slice A2 Bs.length c2] 27)).alloc (.cells #[.slice none 0 0, .slice none 0 0] 27)).alloc (.cells #[.slice none 0 0, .slice none 0 0] 27)) (w.heap.size + 1 + 1) (.slice none 0 0) (.slice none 0 0) [] [] [] from
    ⟨Blk.new2 _ _ _ _ _, Own.nil _ _ _, RowsOwn.nil _ _ _ _, OwnInts.nil _ _ _, fun k u hu => by simp at hu, below3 _ _ _ _⟩)
  have K0 := Lib.hid (((Blk.new w #[.slice A1 A.length c1, .slice A2 Bs.length c2] 27).alloc (.cells #[.slice none 0 0, .slice none 0 0] 27)).alloc (.cells #[.slice none 0 0, .slice none 0 0] 27))
  have K1 := Lib.hid ((Blk.new1 w (.cells #[.slice A1 A.length c1, .slice A2 Bs.length c2] 27) #[.slice none 0 0, .slice none 0 0] 27).alloc (.cells #[.slice none 0 0, .slice none 0 0] 27))
  generalize (((w.alloc (.cells #[.slice A1 A.length c1, .slice A2 Bs.length c2] 27)).alloc (.cells #[.slice none 0 0, .slice none 0 0] 27)).alloc (.cells #[.slice none 0 0, .slice none 0 0] 27)) = w3 at HF K0 K1 ⊢
  go_loopw [6] (fun i wr => ∃ (j : Nat) (va vb : Value) (vs : List Value), j ≤ idx.length ∧ i = .int .i64 j ∧ Fill2 w wr (w.heap.size + 1 + 1) va vb vs (pRows A idx (idx.take j)) (pWs Bs (idx.take j)) ∧ Blk wr w.heap.size 27 #[.slice A1 A.length c1, .slice A2 Bs.length c2] ∧ Blk wr (w.heap.size + 1) 27 #[.slice none 0 0, .slice none 0 0]) (fun i _ => idx.length - (intOf i).toNat)
  case atStart => exact ⟨0, _, _, [], Nat.zero_le _, rfl, HF.out, K0.out, K1.out⟩
  case round =>
    obtain ⟨j, va, vb, vs, hj, rfl, hfill, hk0, hk1⟩ := hrel
    clear HF K0 K1
    have HF := Lib.hid hfill
    have K0 := Lib.hid hk0
    have K1 := Lib.hid hk1
    clear hfill hk0 hk1
    by_cases hlt : j < idx.length
    · obtain ⟨ado, z, rfl, hz, -, hcz⟩ := O3.out j hlt
      obtain ⟨a, hidx, rfl⟩ := casts_get hz
      have hab := HI.out a (List.mem_of_getElem? hidx)
      obtain ⟨adA, u, zs, rfl, hzs, hu, hcu⟩ := H3.out a hab.1
      have hzl := HSQ.out zs (List.mem_of_getElem? hzs)
      obtain ⟨A5, c5, rfl, p1, p2, hu3⟩ := hu.open_
      rw [hzl] at hcu p1 hu3
      have U3 := Lib.hid hu3
      have CZ := Lib.hid hcz
      have CU := Lib.hid hcu
      have HX := Lib.hid hidx
      have HZS := Lib.hid hzs
      have ha1 : (a : Int) < (A.length : Int) := by omega
      have ha2 : a < A.length := hab.1
      have hb1 : (a : Int) < (Bs.length : Int) := by omega
      have hb2 : a < Bs.length := hab.2
      have hj1 : (j : Int) < (idx.length : Int) := by omega
      clear hz hidx hab hzs hu hcu hcz hu3 hzl
      have OL := Lib.hid (own_lit wr tI [] (by simp [maxLen]))
      go_wp2_with fail
      obtain ⟨wo, rfl⟩ : ∃ wo : World, wo = wr := ⟨_, rfl⟩
      go_loopw [7, 8] (fun o k wi => ∃ m : Nat, m ≤ idx.length ∧ k = .int .i64 m ∧ Own wi wo.heap.size tI o (ints (pRow A (idx.take m) a)) ∧ Below wo.heap.size wo wi) (fun _ k _ => idx.length - (intOf k).toNat)
      case atStart => exact ⟨0, Nat.zero_le _, rfl, by simpa [pRow, ints] using OL.out, below1 _ _⟩
      case round =>
        obtain ⟨m, hm, rfl, hown, hb⟩ := hrel
        clear OL
        have HO := Lib.hid hown
        have HB := Lib.hid hb
        have HW := Lib.hid (HF.out.below.trans (hb.mono HF.out.below.size))
        clear hown hb
        have far : ∀ (ad : Addr) (k : Nat) (x : Value), w.cell? (ad.add k) = some x → wr.cell? (ad.add k) = some x := fun ad k x hx => by
          rw [HW.out.cell (by rw [block_add]; have := World.block_lt_of_cell? w _ hx; rwa [block_add] at this)]; exact hx
        have FAR := Lib.hid far
        clear far
        by_cases hlt2 : m < idx.length
        · obtain ⟨ado', z', he, hz', -, hcz'⟩ := O3.out m hlt2
          simp only [Option.some.injEq] at he
          subst he
          obtain ⟨b, hidb, rfl⟩ := casts_get hz'
          have hbb := HI.out b (List.mem_of_getElem? hidb)
          obtain ⟨ad5, x, rfl, hzx, hx64, hcx⟩ := U3.out b hbb.1
          have d1 := FAR.out _ _ _ CZ.out
          have d2 := FAR.out _ _ _ CU.out
          have d3 := FAR.out _ _ _ hcz'
          have d4 := FAR.out _ _ _ hcx
          have d5 : wr.cell? ⟨w.heap.size, 0, none⟩ = some (.slice (some adA) A.length c1) := (K0.out.below HB.out K0.out.lt).cell 0
          have hm1 : (m : Int) < (idx.length : Int) := by omega
          have hbl1 : (b : Int) < (A.length : Int) := by omega
          have hbl2 : b < A.length := hbb.1
          have HPR := Lib.hid (show pRow A (idx.take (m + 1)) a = pRow A (idx.take m) a ++ [x] by
            unfold pRow
            rw [take_map hidb]
            congr 2
            simp [List.getD, HZS.out, hzx])
          clear hz' hidb hbb hzx hcz' hcx
          go_wp2_with fail
          go_region_law (refine step_app1 T_int (B := wo.heap.size) (W := wr.drew) (by exact HO.out) (by simp [ints, pRow]; omega) (by exact HB.out.size) (by rfl) rfl (by rfl) (by rfl) (by rfl) ?_; intro v1 w1 hown1 hgr1)
          all_goals
            go_wp2_with fail
            go_roundw
            case rel =>
              refine ⟨m + 1, by omega, by go_num, ?_, hgr1.below HB.out.drew HB.out.size HO.out.ge⟩
              rw [HPR.out]
              simpa [ints] using hown1
            case measure => simp [intOf]; omega
        · have : m = idx.length := by omega
          subst this
          rw [List.take_length] at HO
          have HIN := Lib.hid (show ∀ z ∈ pRow A idx a, In64 z from fun z hz => by
            obtain ⟨b, hb, rfl⟩ := List.mem_map.1 hz
            obtain ⟨-, x, -, hzx, hx64, -⟩ := U3.out b (HI.out b hb).1
            simpa [List.getD, HZS.out, hzx] using hx64)
          obtain ⟨A6, c6, hv6, -, -, -⟩ := (show Ints wr _ (pRow A idx a) from ⟨HO.out.cells, HIN.out⟩).open_
          rw [show (pRow A idx a).length = idx.length from by simp [pRow]] at hv6
          subst hv6
          have HF2 := Lib.hid (HF.out.step HB.out)
          have q0 : wr.cell? ⟨w.heap.size + 1 + 1, 0, none⟩ = some va := HF2.out.blk.cell 0
          go_wp2_with (at_builtin; refine wpList_app1 T_row (B := w.heap.size + 1 + 1 + 1) (v := va) (vs := vs) HF2.out.own (by have := HF2.out.rows.1; simp [pRows] at this; omega) (by have := HF2.out.lt; omega) (by rfl) rfl (by rfl) (by rfl) (by rfl) ?_; intro v1 w1 hown1 hgr1; obtain ⟨A8, c8, hv8, -, -⟩ := hown1.cells.open_; subst hv8; have q6 := ((HF2.out.blk.grow hgr1 HF2.out.npA).both (u := va) rfl).1; have q7 := ((HF2.out.blk.grow hgr1 HF2.out.npA).both (u := va) rfl).2)
          obtain ⟨adB, y, rfl, hy, hy64, hcy⟩ := G3.out a hb2
          have hp : w.heap.size ≤ w.heap.size + 1 + 1 := by omega
          have HA2 := Lib.hid (HF.out.nextA' (zs := pRow A idx a) hp HB.out ⟨HO.out, HIN.out⟩ hown1 hgr1)
          have KA := Lib.hid (((K0.out.below HB.out K0.out.lt).grow hgr1 (fun e => by have := HF.out.own.ge _ e; omega)).far (p := ⟨w.heap.size + 1 + 1, 0, none⟩) (by simp; omega) (.slice A8 (vs ++ [Value.slice A6 idx.length c6]).length c8))
          have KB := Lib.hid (((K1.out.below HB.out K1.out.lt).grow hgr1 (fun e => by have := HF.out.own.ge _ e; omega)).far (p := ⟨w.heap.size + 1 + 1, 0, none⟩) (by simp) (.slice A8 (vs ++ [Value.slice A6 idx.length c6]).length c8))
          simp only [List.length_append, List.length_singleton] at HA2 KA KB
          clear hown1 hgr1 q0 q6 q7 HO HF2 K0 K1 hlt2
          generalize (w1.setCell ⟨w.heap.size + 1 + 1, 0, none⟩ (.slice A8 (vs.length + 1) c8)) = w2 at HA2 KA KB ⊢
          have HW2 := Lib.hid HA2.out.below
          have far2 : ∀ (ad : Addr) (k : Nat) (x : Value), w.cell? (ad.add k) = some x → w2.cell? (ad.add k) = some x := fun ad k x hx => by
            rw [HW2.out.cell (by rw [block_add]; have := World.block_lt_of_cell? w _ hx; rwa [block_add] at this)]; exact hx
          have r0 : w2.cell? ⟨w.heap.size + 1 + 1, 1, none⟩ = some vb := HA2.out.blk.cell 1
          have r0a : ∀ o, (w2.alloc o).cell? ⟨w.heap.size + 1 + 1, 1, none⟩ = some vb := fun o => (HA2.out.blk.alloc o).cell 1
          have r1 := far2 _ _ _ CZ.out
          have r2 : w2.cell? ⟨w.heap.size, 1, none⟩ = some (.slice (some adB) Bs.length c2) := KA.out.cell 1
          have r3 := far2 _ _ _ hcy
          have HY := Lib.hid hy
          have HY64 := Lib.hid hy64
          clear far2 hcy hy hy64
          go_wp2_with fail
          go_region_law (refine step_app1 T_int (B := w.heap.size + 1 + 1 + 1) (v := vb) (W := w2.drew) (by exact HA2.out.ws.1) (by simp [ints, pWs]; omega) (by have := HA2.out.lt; show _ ≤ w2.heap.size; omega) (by rfl) rfl (by rfl) (by rfl) (by rfl) ?_; intro v9 w9 hown9 hgr9; obtain ⟨A9, c9, hv9, -, -⟩ := hown9.cells.open_; subst hv9; have q6 : w9.cell? ⟨w.heap.size + 1 + 1, 1, none⟩ = some vb := ((HA2.out.step ((Below.refl _ _).drew)).blk.grow hgr9 HA2.out.npB).cell 1; have q7 := ((HA2.out.step ((Below.refl _ _).drew)).blk.grow hgr9 HA2.out.npB).frozen 1)
          all_goals
            have HB2 := Lib.hid ((HA2.out.step ((Below.refl _ _).drew)).nextB hp HY64.out hown9 hgr9)
            have KA2 := Lib.hid (((KA.out.below ((Below.refl _ _).drew) KA.out.lt).grow hgr9 (fun e => by have := HA2.out.ws.1.ge _ e; omega)).far (p := ⟨w.heap.size + 1 + 1, 1, none⟩) (by simp; omega) (.slice A9 (ints (pWs Bs (List.take j idx)) ++ [Value.int .i64 y]).length c9))
            have KB2 := Lib.hid (((KB.out.below ((Below.refl _ _).drew) KB.out.lt).grow hgr9 (fun e => by have := HA2.out.ws.1.ge _ e; omega)).far (p := ⟨w.heap.size + 1 + 1, 1, none⟩) (by simp) (.slice A9 (ints (pWs Bs (List.take j idx)) ++ [Value.int .i64 y]).length c9))
            have HT1 := Lib.hid (show pRows A idx (idx.take (j + 1)) = pRows A idx (idx.take j) ++ [pRow A idx a] from take_map HX.out)
            have HT2 := Lib.hid (show pWs Bs (idx.take (j + 1)) = pWs Bs (idx.take j) ++ [y] by
              unfold pWs
              rw [take_map HX.out]
              simp [List.getD, HY.out])
            clear hown9 hgr9 q6 q7 r0 r0a r1 r2 r3
            go_wp2_with fail
            go_roundw
            case rel =>
              simp only [List.length_append, List.length_singleton] at HB2 KA2 KB2
              refine ⟨j + 1, .slice A8 (vs.length + 1) c8, .slice A9 ((ints (pWs Bs (List.take j idx))).length + 1) c9, vs ++ [.slice A6 idx.length c6], by omega, by go_num, ?_, KA2.out, KB2.out⟩
              rw [HT1.out, HT2.out]
              exact HB2.out
            case measure => simp [intOf]; omega
    · have : j = idx.length := by omega
      subst this
      rw [List.take_length] at HF
      obtain ⟨A7, c7, hv7, -, -⟩ := HF.out.own.cells.open_
      have hvl : vs.length = idx.length := by have := HF.out.rows.1; simpa [pRows] using this
      rw [hvl] at hv7
      subst hv7
      obtain ⟨A9, c9, hv9, -, -⟩ := HF.out.ws.1.cells.open_
      rw [show (ints (pWs Bs idx)).length = idx.length from by simp [ints, pWs]] at hv9
      subst hv9
      have e0 : wr.cell? ⟨w.heap.size + 1 + 1, 0, none⟩ = some (.slice A7 idx.length c7) := HF.out.blk.cell 0
      have e1 : wr.cell? ⟨w.heap.size + 1 + 1, 1, none⟩ = some (.slice A9 idx.length c9) := HF.out.blk.cell 1
      have f0 : wr.cell? ⟨w.heap.size + 1, 0, none⟩ = some (.slice none 0 0) := K1.out.cell 0
      have f1 : wr.cell? ⟨w.heap.size + 1, 1, none⟩ = some (.slice none 0 0) := K1.out.cell 1
      have f2 := K1.out.frozen 0
      have f3 := K1.out.frozen 1
      have HTAB := Lib.hid HF.out.tab
      clear hvl
      go_wp2_with fail
      have c0 := Chg.refl (w.heap.size + 1) (w.heap.size + 1 + 1) wr
      have c1' := c0.setCell (p := ⟨w.heap.size + 1, 0, none⟩) (Nat.le_refl _) (by simp) (.slice A7 idx.length c7)
      have c2' := c1'.setCell (p := ⟨w.heap.size + 1, 1, none⟩) (Nat.le_refl _) (by simp) (.slice A9 idx.length c9)
      have hsb := HF.out.below.size
      refine bodyPost_ret (v := .agg #[.slice A7 idx.length c7, .slice A9 idx.length c9]) (by simp [results, Try.results52, go_sem, f0, f1]) rfl ⟨_, rfl, (HTAB.out.kept c2' (.inr (by omega))).mono (by omega) c2'.size, c2'.below HF.out.below (by omega) hsb⟩
end Go.Proofs.Ytnlaoainhlfemaa

