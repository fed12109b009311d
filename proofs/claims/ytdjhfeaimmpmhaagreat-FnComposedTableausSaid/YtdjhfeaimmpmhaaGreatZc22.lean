/- Walk: reordered of the program. -/
import Derived.Test.YtdjhfeaimmpmhaaGreatZc21
import Derived.Test.YtdjhfeaimmpmhaaGreatZc10
set_option linter.unusedVariables false
set_option linter.unusedSimpArgs false
namespace Go.Proofs.YtdjhfeaimmpmhaaGreat
open Go.RowKit

/-- append of one element, met in a region that draws, where the element lies anywhere -/
theorem step_app1g {P : Program} {ops : Array Oper} {o : Oper} {a : Act} {K : Act → World → Prop} {Q : Exit → Act → World → Prop} {E : Prop} {s x : Operand} {t : TypeId}
    {e : TypeId} {z : Value} {bytes : Nat} {B : Nat} {v : Value} {vs : List Value} {W : World} {u : Value} {ad : Addr}
    (T : ElemT P t e z bytes) (hown : Own W B e v vs) (hlen : vs.length < 1099511627776) (hB : B ≤ W.heap.size) (hu : u.oneCell' = true)
    (hgd : o.guard = none) (ho : o.op = .call { callee := .builtin .append, args := #[s, x], argTypes := #[t, t] }) (hs : a.eval s = v)
    (hx : a.eval x = .slice (some ad) 1 1) (hc : W.cell? ad = some u)
    (h : ∀ v' w', Own w' B e v' (vs ++ [u]) → Grow W w' v v' → K (a.put o.dst v') w') :
    if Region.wanted o (yielded ops a.tmps) = true then Oper.wp P o a W K Q else E := by
  have hw : Region.wanted o (yielded ops a.tmps) = true := by simp [Region.wanted, hgd]
  rw [if_pos hw]
  obtain ⟨i, hi, hz, h1, h2⟩ := info_parts T.info
  have hby := T.small
  obtain ⟨v', w', hrun, r1, r2, _, r3⟩ := run_append_own_at (P := P) W B t o.type e i z 1 bytes T.under hi hz h1 h2 (by rw [T.one]; rfl) (by omega) v vs.length vs hown ad 1 1 [u] rfl
    (fun j u' hj => by
      cases j with
      | zero =>
        simp at hj; subst hj
        exact hc
      | succ j => simp at hj) (by simpa using hu) (by simp only [maxLen]; omega) (by have := Nat.mul_le_mul_left (vs.length + 1) hby; omega) hB
  unfold Oper.wp execOp
  simp only [ho, resolve, invoke, builtin, Sem.run_bind, Sem.run_pure, Result.andThen_ok, List.map_toArray, List.map_cons, List.map_nil, hs, hx, hrun]
  refine h v' w' ?_ ⟨r2, ?_⟩
  · unfold Own; simpa using r1
  · rcases r3 with r3 | r3
    · exact .inl r3
    · exact .inr ⟨_, r3, Nat.le_refl _⟩

set_option maxRecDepth 100000 in
set_option maxHeartbeats 2000000 in
theorem im_reordered (w : World) (v vo : Value) (A : List (List Int)) (Bs : List Int) (idx : List Nat) (ha : TabArg w v A Bs) (ho : Ints w vo (casts idx)) (hn : idx.length ≤ 1000) (hi : ∀ a ∈ idx, a < A.length ∧ a < Bs.length) (hsq : ∀ zs ∈ A, zs.length = A.length) :
    Calls Tryz.prog 162 #[v, vo] w fun e w' => ∃ r, e = .returned r ∧ OT w' w.heap.size w'.heap.size r (pRows A idx idx) (pWs Bs idx) ∧ Below w.heap.size w w' := by
  obtain ⟨va, vb, rfl, hA, hB⟩ := ha
  obtain ⟨A1, c1, rfl, l1, l2, h3⟩ := hA.open_
  obtain ⟨A2, c2, rfl, m1, m2, g3⟩ := hB.open_
  obtain ⟨A4, c4, rfl, n1, n2, o3⟩ := ho.open_
  rw [casts_len] at n1 o3 ⊢
  have H3 := Lib.hid h3
  have G3 := Lib.hid g3
  have O3 := Lib.hid o3
  have HI := Lib.hid hi
  have HSQ := Lib.hid hsq
  clear hA hB ho h3 g3 o3 hi hsq
  go_enter Tryz.func162, Tryz.ntmps162
  go_wp2_with fail
  have HF := Lib.hid (show Fill2 w (((w.alloc (.cells #[.slice A1 A.length c1, .slice A2 Bs.length c2] 45)).alloc (.cells #[.slice none 0 0, .slice none 0 0] 45)).alloc (.cells #[.slice none 0 0, .slice none 0 0] 45)) (w.heap.size + 1 + 1) (.slice none 0 0) (.slice none 0 0) [] [] [] from
    ⟨Blk.new2 _ _ _ _ _, Own.nil _ _ _, RowsOwn.nil _ _ _ _, OwnInts.nil _ _ _, fun k u hu => by simp at hu, below3 _ _ _ _⟩)
  have K0 := Lib.hid (((Blk.new w #[.slice A1 A.length c1, .slice A2 Bs.length c2] 45).alloc (.cells #[.slice none 0 0, .slice none 0 0] 45)).alloc (.cells #[.slice none 0 0, .slice none 0 0] 45))
  have K1 := Lib.hid ((Blk.new1 w (.cells #[.slice A1 A.length c1, .slice A2 Bs.length c2] 45) #[.slice none 0 0, .slice none 0 0] 45).alloc (.cells #[.slice none 0 0, .slice none 0 0] 45))
  generalize (((w.alloc (.cells #[.slice A1 A.length c1, .slice A2 Bs.length c2] 45)).alloc (.cells #[.slice none 0 0, .slice none 0 0] 45)).alloc (.cells #[.slice none 0 0, .slice none 0 0] 45)) = w3 at HF K0 K1 ⊢
  go_loopw [14] (fun i wr => ∃ (j : Nat) (va vb : Value) (vs : List Value), j ≤ idx.length ∧ i = .int .i64 j ∧ Fill2 w wr (w.heap.size + 1 + 1) va vb vs (pRows A idx (idx.take j)) (pWs Bs (idx.take j)) ∧ Blk wr w.heap.size 45 #[.slice A1 A.length c1, .slice A2 Bs.length c2] ∧ Blk wr (w.heap.size + 1) 45 #[.slice none 0 0, .slice none 0 0]) (fun i _ => idx.length - (intOf i).toNat)
  case atStart => exact ⟨0, _, _, [], Nat.zero_le _, rfl, HF.out, K0.out, K1.out⟩
  case round =>
    obtain ⟨j, va, vb, vs, hj, rfl, hfill, hk0, hk1⟩ := hrel
    clear HF K0 K1
    have HF := Lib.hid hfill
    have K0 := Lib.hid hk0
    have K1 := Lib.hid hk1
    clear hfill hk0 hk1
    by_cases hlt : j < idx.length
    · obtain ⟨ado, z, rfl, hz, -, hcz⟩ := O3.out j hlt
      obtain ⟨a, hidx, rfl⟩ := casts_get hz
      have hab := HI.out a (List.mem_of_getElem? hidx)
      obtain ⟨adA, u, zs, rfl, hzs, hu, hcu⟩ := H3.out a hab.1
      have hzl := HSQ.out zs (List.mem_of_getElem? hzs)
      obtain ⟨A5, c5, rfl, p1, p2, hu3⟩ := hu.open_
      rw [hzl] at hcu p1 hu3
      have U3 := Lib.hid hu3
      have CZ := Lib.hid hcz
      have CU := Lib.hid hcu
      have HX := Lib.hid hidx
      have HZS := Lib.hid hzs
      have ha1 : (a : Int) < (A.length : Int) := by omega
      have ha2 : a < A.length := hab.1
      have hb1 : (a : Int) < (Bs.length : Int) := by omega
      have hb2 : a < Bs.length := hab.2
      have hj1 : (j : Int) < (idx.length : Int) := by omega
      clear hz hidx hab hzs hu hcu hcz hu3 hzl
      have OL := Lib.hid (own_lit wr tI [] (by simp [maxLen]))
      have d0 : wr.cell? (ado.add j) = some (.int .i64 a) := by
        rw [HF.out.below.cell (by rw [block_add]; have := World.block_lt_of_cell? w _ CZ.out; rwa [block_add] at this)]; exact CZ.out
      go_wp2_with fail
      clear d0
      obtain ⟨wo, rfl⟩ : ∃ wo : World, wo = wr := ⟨_, rfl⟩
      go_loopw [8, 21] (fun o k wi => ∃ m : Nat, m ≤ idx.length ∧ k = .int .i64 m ∧ Own wi wo.heap.size tI o (ints (pRow A (idx.take m) a)) ∧ Below wo.heap.size wo wi) (fun _ k _ => idx.length - (intOf k).toNat)
      case atStart => exact ⟨0, Nat.zero_le _, rfl, by simpa [pRow, ints] using OL.out, below1 _ _⟩
      case round =>
        obtain ⟨m, hm, rfl, hown, hb⟩ := hrel
        clear OL
        have HO := Lib.hid hown
        have HB := Lib.hid hb
        have HW := Lib.hid (HF.out.below.trans (hb.mono HF.out.below.size))
        clear hown hb
        have far : ∀ (ad : Addr) (k : Nat) (x : Value), w.cell? (ad.add k) = some x → wr.cell? (ad.add k) = some x := fun ad k x hx => by
          rw [HW.out.cell (by rw [block_add]; have := World.block_lt_of_cell? w _ hx; rwa [block_add] at this)]; exact hx
        have FAR := Lib.hid far
        clear far
        by_cases hlt2 : m < idx.length
        · obtain ⟨ado', z', he, hz', -, hcz'⟩ := O3.out m hlt2
          simp only [Option.some.injEq] at he
          subst he
          obtain ⟨b, hidb, rfl⟩ := casts_get hz'
          have hbb := HI.out b (List.mem_of_getElem? hidb)
          obtain ⟨ad5, x, rfl, hzx, hx64, hcx⟩ := U3.out b hbb.1
          have d1 := FAR.out _ _ _ CZ.out
          have d2 := FAR.out _ _ _ CU.out
          have d3 := FAR.out _ _ _ hcz'
          have d4 := FAR.out _ _ _ hcx
          have d5 : wr.cell? ⟨w.heap.size, 0, none⟩ = some (.slice (some adA) A.length c1) := (K0.out.below HB.out K0.out.lt).cell 0
          have hm1 : (m : Int) < (idx.length : Int) := by omega
          have hbl1 : (b : Int) < (A.length : Int) := by omega
          have hbl2 : b < A.length := hbb.1
          have HPR := Lib.hid (show pRow A (idx.take (m + 1)) a = pRow A (idx.take m) a ++ [x] by
            unfold pRow
            rw [take_map hidb]
            congr 2
            simp [List.getD, HZS.out, hzx])
          clear hz' hidb hbb hzx hcz' hcx
          go_wp2_with (at_builtin; refine wpList_app1 T_int HO.out (by simp [ints, pRow]; omega) HB.out.size (by rfl) rfl (by rfl) (by rfl) (by rfl) ?_; intro v1 w1 hown1 hgr1)
          go_roundw
          case rel =>
            refine ⟨m + 1, by omega, by go_num, ?_, hgr1.below HB.out HB.out.size HO.out.ge⟩
            rw [HPR.out]
            simpa [ints] using hown1
          case measure => simp [intOf]; omega
        · have : m = idx.length := by omega
          subst this
          rw [List.take_length] at HO
          have HIN := Lib.hid (show ∀ z ∈ pRow A idx a, In64 z from fun z hz => by
            obtain ⟨b, hb, rfl⟩ := List.mem_map.1 hz
            obtain ⟨-, x, -, hzx, hx64, -⟩ := U3.out b (HI.out b hb).1
            simpa [List.getD, HZS.out, hzx] using hx64)
          obtain ⟨A6, c6, hv6, -, -, -⟩ := (show Ints wr _ (pRow A idx a) from ⟨HO.out.cells, HIN.out⟩).open_
          rw [show (pRow A idx a).length = idx.length from by simp [pRow]] at hv6
          subst hv6
          have HF2 := Lib.hid (HF.out.step HB.out)
          obtain ⟨adB, y, rfl, hy, hy64, hcy⟩ := G3.out a hb2
          have q0 : wr.cell? ⟨w.heap.size + 1 + 1, 0, none⟩ = some va := HF2.out.blk.cell 0
          have q1 : wr.cell? ⟨w.heap.size + 1 + 1, 1, none⟩ = some vb := HF2.out.blk.cell 1
          have q2 : wr.cell? ⟨w.heap.size, 1, none⟩ = some (.slice (some adB) Bs.length c2) := (K0.out.below HB.out K0.out.lt).cell 1
          have q3 := FAR.out _ _ _ hcy
          have HY := Lib.hid hy
          have HY64 := Lib.hid hy64
          have hcy0 := Lib.hid hcy
          clear hcy hy hy64
          have HTW := Lib.hid HF.out.two
          have HKP := Lib.hid HF2.out.blk
          have hsz : w.heap.size + 1 + 1 + 1 ≤ wr.heap.size := HF2.out.lt
          have HKX := Lib.hid (K0.out.below HB.out K0.out.lt)
          have HKR := Lib.hid (K1.out.below HB.out K1.out.lt)
          have HBW := Lib.hid HF2.out.below
          have HNA := Lib.hid (show ∀ g, wr.heap.size ≤ g → va.ownBlock ≠ some g from fun g hg e => by have := HF2.out.own.lt g e; omega)
          have HGA := Lib.hid (show ∀ b, va.ownBlock = some b → w.heap.size + 1 + 1 + 1 ≤ b from HF2.out.own.ge)
          have HGB := Lib.hid (show ∀ b, vb.ownBlock = some b → w.heap.size + 1 + 1 + 1 ≤ b from HF2.out.ws.1.ge)
          have HRO := Lib.hid (show OwnInts wr wo.heap.size tI (.slice A6 idx.length c6) (pRow A idx a) from ⟨HO.out, HIN.out⟩)
          have HLV : vs.length ≤ 1000 := by have := HF2.out.rows.1; simp [pRows] at this; omega
          have hadB : adB.block < w.heap.size := by have := World.block_lt_of_cell? w _ hcy0.out; rwa [block_add] at this
          have HS0 := Lib.hid (show ∀ W : World, Below (w.heap.size + 1 + 1) wr W → (W.cell? ⟨w.heap.size, 1, none⟩ = some (.slice (some adB) Bs.length c2) ∧ W.cell? (adB.add a) = some (.int .i64 y)) from fun W hW =>
            ⟨(HKX.out.below hW (by omega)).cell 1, by rw [hW.cell (by rw [block_add]; omega)]; exact q3⟩)
          have HT1 := Lib.hid (show pRows A idx (idx.take (j + 1)) = pRows A idx (idx.take j) ++ [pRow A idx a] from take_map HX.out)
          have HT2 := Lib.hid (show pWs Bs (idx.take (j + 1)) = pWs Bs (idx.take j) ++ [y] by
            unfold pWs
            rw [take_map HX.out]
            simp [List.getD, HY.out])
          have HSB := Lib.hid (show ∀ W : World, Below (w.heap.size + 1 + 1 + 1) wr W → (W.cell? ⟨w.heap.size, 1, none⟩ = some (.slice (some adB) Bs.length c2) ∧ W.cell? (adB.add a) = some (.int .i64 y)) ∧ (W.cell? ⟨w.heap.size + 1 + 1, 0, none⟩ = some va ∧ W.cell? ⟨w.heap.size + 1 + 1, 1, none⟩ = some vb) from fun W hW =>
            ⟨⟨(HKX.out.below hW (by omega)).cell 1, by rw [hW.cell (by rw [block_add]; omega)]; exact q3⟩, ⟨(HKP.out.below hW (by omega)).cell 0, (HKP.out.below hW (by omega)).cell 1⟩⟩)
          go_wp2_with fail
          refine AnyT.begin (k := 15) (S := fun b w' => (w'.cell? ⟨w.heap.size, 1, none⟩ = some (.slice (some adB) Bs.length c2) ∧ w'.cell? (adB.add a) = some (.int .i64 y)) ∧ (b = false → w'.cell? ⟨w.heap.size + 1 + 1, 0, none⟩ = some va ∧ w'.cell? ⟨w.heap.size + 1 + 1, 1, none⟩ = some vb)) (by kernel_rfl) ?_
          have hS : (fun (b : Bool) (w' : World) => (w'.cell? ⟨w.heap.size, 1, none⟩ = some (.slice (some adB) Bs.length c2) ∧ w'.cell? (adB.add a) = some (.int .i64 y)) ∧ (b = false → w'.cell? ⟨w.heap.size + 1 + 1, 0, none⟩ = some va ∧ w'.cell? ⟨w.heap.size + 1 + 1, 1, none⟩ = some vb)) false wr.drew := ⟨⟨q2, q3⟩, fun _ => ⟨q0, q1⟩⟩
          refine AnyT.take0 (i := 0) (v := ?_) rfl (by kernel_rfl) (by kernel_rfl) (by kernel_rfl) (by decide) (fun _ _ _ h => h) hS (Or.inl ⟨by rfl, ?_⟩) ?_
          rotate_left
          · rintro w' ⟨b, ⟨hw1, hw2⟩, -⟩; go_simp; try with_reducible rfl
          simp only [Act.put, List.setIfInBounds_toArray, List.set_cons_zero, List.set_cons_succ]
          refine AnyT.take1 (i := 1) (v := ?_) rfl (by kernel_rfl) (by kernel_rfl) (by kernel_rfl) (by decide) (by kernel_rfl) rfl (fun _ _ _ h => h) hS (Or.inl ⟨by rfl, ?_⟩) ?_
          rotate_left
          · intro w' hw'; obtain ⟨hw3, hw4⟩ := hw'.2 rfl; go_simp; try with_reducible rfl
          simp only [Act.put, List.setIfInBounds_toArray, List.set_cons_zero, List.set_cons_succ]
          refine AnyT.take0 (i := 2) (v := ?_) rfl (by kernel_rfl) (by kernel_rfl) (by kernel_rfl) (by decide) (fun _ _ _ h => h) hS (Or.inl ⟨by rfl, ?_⟩) ?_
          rotate_left
          · rintro w' ⟨b, ⟨hw1, hw2⟩, -⟩; go_simp; try with_reducible rfl
          simp only [Act.put, List.setIfInBounds_toArray, List.set_cons_zero, List.set_cons_succ]
          refine AnyT.take0 (i := 5) (v := ?_) rfl (by kernel_rfl) (by kernel_rfl) (by kernel_rfl) (by decide) (fun _ _ _ h => h) hS (Or.inl ⟨by rfl, ?_⟩) ?_
          rotate_left
          · rintro w' ⟨b, ⟨hw1, hw2⟩, -⟩; go_simp; try with_reducible rfl
          simp only [Act.put, List.setIfInBounds_toArray, List.set_cons_zero, List.set_cons_succ]
          refine AnyT.take1 (i := 6) (v := ?_) rfl (by kernel_rfl) (by kernel_rfl) (by kernel_rfl) (by decide) (by kernel_rfl) rfl (fun _ _ _ h => h) hS (Or.inl ⟨by rfl, ?_⟩) ?_
          rotate_left
          · intro w' hw'; obtain ⟨hw3, hw4⟩ := hw'.2 rfl; go_simp; try with_reducible rfl
          simp only [Act.put, List.setIfInBounds_toArray, List.set_cons_zero, List.set_cons_succ]
          refine AnyT.take0 (i := 7) (v := ?_) rfl (by kernel_rfl) (by kernel_rfl) (by kernel_rfl) (by decide) (fun _ _ _ h => h) hS (Or.inl ⟨by rfl, ?_⟩) ?_
          rotate_left
          · rintro w' ⟨b, ⟨hw1, hw2⟩, -⟩; go_simp; try with_reducible rfl
          simp only [Act.put, List.setIfInBounds_toArray, List.set_cons_zero, List.set_cons_succ]
          refine AnyT.take0 (i := 8) (v := ?_) rfl (by kernel_rfl) (by kernel_rfl) (by kernel_rfl) (by decide) (fun _ _ _ h => h) hS (Or.inl ⟨by rfl, ?_⟩) ?_
          rotate_left
          · rintro w' ⟨b, ⟨hw1, hw2⟩, -⟩; go_simp; try with_reducible rfl
          simp only [Act.put, List.setIfInBounds_toArray, List.set_cons_zero, List.set_cons_succ]
          refine AnyT.take0 (i := 9) (v := ?_) rfl (by kernel_rfl) (by kernel_rfl) (by kernel_rfl) (by decide) (fun _ _ _ h => h) hS (Or.inl ⟨by rfl, ?_⟩) ?_
          rotate_left
          · rintro w' ⟨b, ⟨hw1, hw2⟩, -⟩; go_simp; try with_reducible rfl
          simp only [Act.put, List.setIfInBounds_toArray, List.set_cons_zero, List.set_cons_succ]
          refine AnyT.take0 (i := 10) (v := ?_) rfl (by kernel_rfl) (by kernel_rfl) (by kernel_rfl) (by decide) (fun _ _ _ h => h) hS (Or.inl ⟨by rfl, ?_⟩) ?_
          rotate_left
          · rintro w' ⟨b, ⟨hw1, hw2⟩, -⟩; go_simp; try with_reducible rfl
          simp only [Act.put, List.setIfInBounds_toArray, List.set_cons_zero, List.set_cons_succ]
          refine AnyT.take0 (i := 11) (v := ?_) rfl (by kernel_rfl) (by kernel_rfl) (by kernel_rfl) (by decide) (fun _ _ _ h => h) hS (Or.inl ⟨by rfl, ?_⟩) ?_
          rotate_left
          · rintro w' ⟨b, ⟨hw1, hw2⟩, -⟩; go_simp; try with_reducible rfl
          simp only [Act.put, List.setIfInBounds_toArray, List.set_cons_zero, List.set_cons_succ]
          refine AnyT.go (rs := [3, 12]) (by kernel_rfl) (by simp) ?_
          refine AllT.cons rfl (fun K hK => ?_) (AllT.cons rfl (fun K hK => ?_) AllT.nil)
          · go_simp
            have hb1 : Below (w.heap.size + 1 + 1 + 1) wr (wr.drew.alloc (.cells #[.slice A6 idx.length c6] tL)) := ((Below.refl _ _).drew.alloc (Nat.le_refl _) _).mono hsz
            refine hK.out _ _ ⟨(HSB.out _ hb1).1, fun _ => (HSB.out _ hb1).2⟩ (fun hS => ?_)
            clear hK
            refine AnyT.go (rs := [4, 12]) (by kernel_rfl) (by simp) ?_
            refine AllT.cons rfl (fun K hK => ?_) (AllT.cons rfl (fun K hK => ?_) AllT.nil)
            · refine step_app1g T_row (B := w.heap.size + 1 + 1 + 1) (v := va) (vs := vs) (W := (wr.drew.alloc (.cells #[.slice A6 idx.length c6] tL))) (u := .slice A6 idx.length c6) (ad := ⟨wr.heap.size, 0, none⟩) (HF2.out.own.below ((Below.refl _ _).drew.alloc (Nat.le_refl _) _)) (by omega) (by simp; omega) (by rfl) rfl (by rfl) (by rfl) (by rfl) ((Blk.new wr.drew _ _).cell 0) ?_
              intro v6 w6 hown6 hgr6
              obtain ⟨A8, c8, hv8, -, -⟩ := hown6.cells.open_
              rw [show (vs ++ [Value.slice A6 idx.length c6]).length = vs.length + 1 from by simp] at hv8
              subst hv8
              have HT6 := Lib.hid (HTW.out.addA' (zs := pRow A idx a) (HB.out.trans ((((Below.refl _ _).drew.alloc (Nat.le_refl _) _) : Below wr.heap.size wr _).mono HB.out.size)) HF.out.lt (HRO.out.below ((Below.refl _ _).drew.alloc (Nat.le_refl _) _)) hown6 hgr6)
              have hb6 : Below (w.heap.size + 1 + 1 + 1) wr w6 := hgr6.below (((Below.refl _ _).drew.alloc (Nat.le_refl _) _).mono hsz) (by simp; omega) HGA.out
              refine hK.out _ _ ⟨(HSB.out _ hb6).1, fun _ => (HSB.out _ hb6).2⟩ (fun hS => ?_)
              clear hK
              try simp only [Act.put, List.setIfInBounds_toArray, List.set_cons_zero, List.set_cons_succ]
              refine AnyT.take0 (i := 14) (v := ?_) rfl (by kernel_rfl) (by kernel_rfl) (by kernel_rfl) (by decide) (fun _ _ _ h => h) hS (Or.inl ⟨by rfl, ?_⟩) ?_
              rotate_left
              · rintro w' ⟨b, ⟨hw1, hw2⟩, -⟩; go_simp; try with_reducible rfl
              try simp only [Act.put, List.setIfInBounds_toArray, List.set_cons_zero, List.set_cons_succ]
              refine AnyT.go (rs := [12]) (by kernel_rfl) (by simp) ?_
              refine AllT.cons rfl (fun K hK => ?_) AllT.nil
              go_simp
              have hb7 : Below (w.heap.size + 1 + 1 + 1) wr (w6.alloc (.cells #[.int .i64 y] tI)) := hb6.alloc (by have := hb6.size; omega) _
              refine hK.out _ _ ⟨(HSB.out _ hb7).1, fun _ => (HSB.out _ hb7).2⟩ (fun hS => ?_)
              clear hK
              refine AnyT.go (rs := [13]) (by kernel_rfl) (by simp) ?_
              refine AllT.cons rfl (fun K hK => ?_) AllT.nil
              refine step_app1g T_int (B := w.heap.size + 1 + 1 + 1) (v := vb) (vs := ints (pWs Bs (List.take j idx))) (W := w6.alloc (.cells #[.int .i64 y] tI)) (u := .int .i64 y) (ad := ⟨w6.heap.size, 0, none⟩) (HT6.out.ws.1.below (below1 w6 _)) (by simp [ints, pWs]; omega) (by have := hb6.size; simp; omega) (by rfl) rfl (by rfl) (by rfl) (by rfl) ((Blk.new w6 _ _).cell 0) ?_
              intro v9 w9 hown9 hgr9
              obtain ⟨A9, c9, hv9, -, -⟩ := hown9.cells.open_
              rw [show (ints (pWs Bs (List.take j idx)) ++ [Value.int .i64 y]).length = (ints (pWs Bs (List.take j idx))).length + 1 from by simp] at hv9
              subst hv9
              have HT9 := Lib.hid ((HT6.out.step (below1 w6 _)).addB HY64.out hown9 hgr9)
              have hb9 : Below (w.heap.size + 1 + 1 + 1) wr w9 := hgr9.below hb7 (by have := hb6.size; simp; omega) HGB.out
              refine hK.out _ _ ⟨(HSB.out _ hb9).1, fun _ => (HSB.out _ hb9).2⟩ (fun hS => ?_)
              clear hK
              try simp only [Act.put, List.setIfInBounds_toArray, List.set_cons_zero, List.set_cons_succ]
              have KP9 := Lib.hid (HKP.out.below hb9 (by omega))
              have e0 : w9.cell? ⟨w.heap.size + 1 + 1, 0, none⟩ = some va := KP9.out.cell 0
              have e1 : w9.cell? ⟨w.heap.size + 1 + 1, 1, none⟩ = some vb := KP9.out.cell 1
              have e2 : w9.frozen? ⟨w.heap.size + 1 + 1, 0, none⟩ = false := KP9.out.frozen 0
              have e3 : w9.frozen? ⟨w.heap.size + 1 + 1, 1, none⟩ = false := KP9.out.frozen 1
              refine AnyT.go (rs := [15]) (by kernel_rfl) (by simp) ?_
              refine AllT.cons rfl (fun K hK => ?_) AllT.nil
              go_simp
              have hb10 : Below (w.heap.size + 1 + 1) wr (w9.setCell ⟨w.heap.size + 1 + 1, 0, none⟩ (.slice A8 (vs.length + 1) c8)) := (hb9.mono (Nat.le_succ _)).setCell (p := ⟨w.heap.size + 1 + 1, 0, none⟩) (Nat.le_refl _) _
              refine hK.out _ _ ⟨HS0.out _ hb10, fun h => Bool.noConfusion (show true = false from h)⟩ (fun hS => ?_)
              clear hK
              try simp only [Act.put, List.setIfInBounds_toArray, List.set_cons_zero, List.set_cons_succ]
              refine AnyT.take0 (i := 16) (v := ?_) rfl (by kernel_rfl) (by kernel_rfl) (by kernel_rfl) (by decide) (fun _ _ _ h => h) hS (Or.inl ⟨by rfl, ?_⟩) ?_
              rotate_left
              · rintro w' ⟨b, ⟨hw1, hw2⟩, -⟩; go_simp; try with_reducible rfl
              try simp only [Act.put, List.setIfInBounds_toArray, List.set_cons_zero, List.set_cons_succ]
              refine AnyT.go (rs := [17]) (by kernel_rfl) (by simp) ?_
              refine AllT.cons rfl (fun K hK => ?_) AllT.nil
              go_simp
              have hb11 : Below (w.heap.size + 1 + 1) wr ((w9.setCell ⟨w.heap.size + 1 + 1, 0, none⟩ (.slice A8 (vs.length + 1) c8)).setCell ⟨w.heap.size + 1 + 1, 1, none⟩ (.slice A9 ((ints (pWs Bs (List.take j idx))).length + 1) c9)) := hb10.setCell (p := ⟨w.heap.size + 1 + 1, 1, none⟩) (Nat.le_refl _) _
              refine hK.out _ _ ⟨HS0.out _ hb11, fun h => Bool.noConfusion (show true = false from h)⟩ (fun hS => ?_)
              clear hK
              refine AnyT.done (by kernel_rfl) ?_ _
              have HFN := Lib.hid (HT9.out.close KP9.out (HBW.out.trans (hb9.mono (by omega))) (by omega))
              have KXN := Lib.hid (HKX.out.below hb11 (by omega))
              have KRN := Lib.hid (HKR.out.below hb11 (by omega))
              clear hb11 hb10 hb9 hS e0 e1 e2 e3
              go_wp2_with fail
              go_roundw
              case rel =>
                refine ⟨j + 1, (.slice A8 (vs.length + 1) c8), (.slice A9 ((ints (pWs Bs (List.take j idx))).length + 1) c9), vs ++ [.slice A6 idx.length c6], by omega, by go_num, ?_, KXN.out, KRN.out⟩
                rw [HT1.out, HT2.out]
                exact HFN.out
              case measure => simp [intOf]; omega
            · go_simp
              have hb2 : Below (w.heap.size + 1 + 1 + 1) wr ((wr.drew.alloc (.cells #[.slice A6 idx.length c6] tL)).alloc (.cells #[.int .i64 y] tI)) := (((Below.refl _ _).drew.alloc (Nat.le_refl _) _).alloc (by simp) _).mono hsz
              refine hK.out _ _ ⟨(HSB.out _ hb2).1, fun _ => (HSB.out _ hb2).2⟩ (fun hS => ?_)
              clear hK
              refine AnyT.go (rs := [4]) (by kernel_rfl) (by simp) ?_
              refine AllT.cons rfl (fun K hK => ?_) AllT.nil
              refine step_app1g T_row (B := w.heap.size + 1 + 1 + 1) (v := va) (vs := vs) (W := ((wr.drew.alloc (.cells #[.slice A6 idx.length c6] tL)).alloc (.cells #[.int .i64 y] tI))) (u := .slice A6 idx.length c6) (ad := ⟨wr.heap.size, 0, none⟩) (HF2.out.own.below (((Below.refl _ _).drew.alloc (Nat.le_refl _) _).alloc (by simp) _)) (by omega) (by simp; omega) (by rfl) rfl (by rfl) (by rfl) (by rfl) (((Blk.new wr.drew _ _).alloc _).cell 0) ?_
              intro v6 w6 hown6 hgr6
              obtain ⟨A8, c8, hv8, -, -⟩ := hown6.cells.open_
              rw [show (vs ++ [Value.slice A6 idx.length c6]).length = vs.length + 1 from by simp] at hv8
              subst hv8
              have HT6 := Lib.hid (HTW.out.addA' (zs := pRow A idx a) (HB.out.trans (((((Below.refl _ _).drew.alloc (Nat.le_refl _) _).alloc (by simp) _) : Below wr.heap.size wr _).mono HB.out.size)) HF.out.lt (HRO.out.below (((Below.refl _ _).drew.alloc (Nat.le_refl _) _).alloc (by simp) _)) hown6 hgr6)
              have hb6 : Below (w.heap.size + 1 + 1 + 1) wr w6 := hgr6.below ((((Below.refl _ _).drew.alloc (Nat.le_refl _) _).alloc (by simp) _).mono hsz) (by simp; omega) HGA.out
              refine hK.out _ _ ⟨(HSB.out _ hb6).1, fun _ => (HSB.out _ hb6).2⟩ (fun hS => ?_)
              clear hK
              try simp only [Act.put, List.setIfInBounds_toArray, List.set_cons_zero, List.set_cons_succ]
              refine AnyT.take0 (i := 14) (v := ?_) rfl (by kernel_rfl) (by kernel_rfl) (by kernel_rfl) (by decide) (fun _ _ _ h => h) hS (Or.inl ⟨by rfl, ?_⟩) ?_
              rotate_left
              · rintro w' ⟨b, ⟨hw1, hw2⟩, -⟩; go_simp; try with_reducible rfl
              try simp only [Act.put, List.setIfInBounds_toArray, List.set_cons_zero, List.set_cons_succ]
              refine AnyT.go (rs := [13]) (by kernel_rfl) (by simp) ?_
              refine AllT.cons rfl (fun K hK => ?_) AllT.nil
              refine step_app1g T_int (B := w.heap.size + 1 + 1 + 1) (v := vb) (vs := ints (pWs Bs (List.take j idx))) (W := w6) (u := .int .i64 y) (ad := ⟨wr.heap.size + 1, 0, none⟩) HT6.out.ws.1 (by simp [ints, pWs]; omega) (by have := hb6.size; omega) (by rfl) rfl (by rfl) (by rfl) (by rfl) (((Blk.new1 wr.drew _ _ _).grow hgr6 (HNA.out _ (by simp))).cell 0) ?_
              intro v9 w9 hown9 hgr9
              obtain ⟨A9, c9, hv9, -, -⟩ := hown9.cells.open_
              rw [show (ints (pWs Bs (List.take j idx)) ++ [Value.int .i64 y]).length = (ints (pWs Bs (List.take j idx))).length + 1 from by simp] at hv9
              subst hv9
              have HT9 := Lib.hid (HT6.out.addB HY64.out hown9 hgr9)
              have hb9 : Below (w.heap.size + 1 + 1 + 1) wr w9 := hgr9.below hb6 (by have := hb6.size; omega) HGB.out
              refine hK.out _ _ ⟨(HSB.out _ hb9).1, fun _ => (HSB.out _ hb9).2⟩ (fun hS => ?_)
              clear hK
              try simp only [Act.put, List.setIfInBounds_toArray, List.set_cons_zero, List.set_cons_succ]
              have KP9 := Lib.hid (HKP.out.below hb9 (by omega))
              have e0 : w9.cell? ⟨w.heap.size + 1 + 1, 0, none⟩ = some va := KP9.out.cell 0
              have e1 : w9.cell? ⟨w.heap.size + 1 + 1, 1, none⟩ = some vb := KP9.out.cell 1
              have e2 : w9.frozen? ⟨w.heap.size + 1 + 1, 0, none⟩ = false := KP9.out.frozen 0
              have e3 : w9.frozen? ⟨w.heap.size + 1 + 1, 1, none⟩ = false := KP9.out.frozen 1
              refine AnyT.go (rs := [15]) (by kernel_rfl) (by simp) ?_
              refine AllT.cons rfl (fun K hK => ?_) AllT.nil
              go_simp
              have hb10 : Below (w.heap.size + 1 + 1) wr (w9.setCell ⟨w.heap.size + 1 + 1, 0, none⟩ (.slice A8 (vs.length + 1) c8)) := (hb9.mono (Nat.le_succ _)).setCell (p := ⟨w.heap.size + 1 + 1, 0, none⟩) (Nat.le_refl _) _
              refine hK.out _ _ ⟨HS0.out _ hb10, fun h => Bool.noConfusion (show true = false from h)⟩ (fun hS => ?_)
              clear hK
              try simp only [Act.put, List.setIfInBounds_toArray, List.set_cons_zero, List.set_cons_succ]
              refine AnyT.take0 (i := 16) (v := ?_) rfl (by kernel_rfl) (by kernel_rfl) (by kernel_rfl) (by decide) (fun _ _ _ h => h) hS (Or.inl ⟨by rfl, ?_⟩) ?_
              rotate_left
              · rintro w' ⟨b, ⟨hw1, hw2⟩, -⟩; go_simp; try with_reducible rfl
              try simp only [Act.put, List.setIfInBounds_toArray, List.set_cons_zero, List.set_cons_succ]
              refine AnyT.go (rs := [17]) (by kernel_rfl) (by simp) ?_
              refine AllT.cons rfl (fun K hK => ?_) AllT.nil
              go_simp
              have hb11 : Below (w.heap.size + 1 + 1) wr ((w9.setCell ⟨w.heap.size + 1 + 1, 0, none⟩ (.slice A8 (vs.length + 1) c8)).setCell ⟨w.heap.size + 1 + 1, 1, none⟩ (.slice A9 ((ints (pWs Bs (List.take j idx))).length + 1) c9)) := hb10.setCell (p := ⟨w.heap.size + 1 + 1, 1, none⟩) (Nat.le_refl _) _
              refine hK.out _ _ ⟨HS0.out _ hb11, fun h => Bool.noConfusion (show true = false from h)⟩ (fun hS => ?_)
              clear hK
              refine AnyT.done (by kernel_rfl) ?_ _
              have HFN := Lib.hid (HT9.out.close KP9.out (HBW.out.trans (hb9.mono (by omega))) (by omega))
              have KXN := Lib.hid (HKX.out.below hb11 (by omega))
              have KRN := Lib.hid (HKR.out.below hb11 (by omega))
              clear hb11 hb10 hb9 hS e0 e1 e2 e3
              go_wp2_with fail
              go_roundw
              case rel =>
                refine ⟨j + 1, (.slice A8 (vs.length + 1) c8), (.slice A9 ((ints (pWs Bs (List.take j idx))).length + 1) c9), vs ++ [.slice A6 idx.length c6], by omega, by go_num, ?_, KXN.out, KRN.out⟩
                rw [HT1.out, HT2.out]
                exact HFN.out
              case measure => simp [intOf]; omega
          · go_simp
            have hb1 : Below (w.heap.size + 1 + 1 + 1) wr (wr.drew.alloc (.cells #[.int .i64 y] tI)) := ((Below.refl _ _).drew.alloc (Nat.le_refl _) _).mono hsz
            refine hK.out _ _ ⟨(HSB.out _ hb1).1, fun _ => (HSB.out _ hb1).2⟩ (fun hS => ?_)
            clear hK
            refine AnyT.go (rs := [3]) (by kernel_rfl) (by simp) ?_
            refine AllT.cons rfl (fun K hK => ?_) AllT.nil
            go_simp
            have hb2 : Below (w.heap.size + 1 + 1 + 1) wr ((wr.drew.alloc (.cells #[.int .i64 y] tI)).alloc (.cells #[.slice A6 idx.length c6] tL)) := (((Below.refl _ _).drew.alloc (Nat.le_refl _) _).alloc (by simp) _).mono hsz
            refine hK.out _ _ ⟨(HSB.out _ hb2).1, fun _ => (HSB.out _ hb2).2⟩ (fun hS => ?_)
            clear hK
            refine AnyT.go (rs := [4]) (by kernel_rfl) (by simp) ?_
            refine AllT.cons rfl (fun K hK => ?_) AllT.nil
            refine step_app1g T_row (B := w.heap.size + 1 + 1 + 1) (v := va) (vs := vs) (W := ((wr.drew.alloc (.cells #[.int .i64 y] tI)).alloc (.cells #[.slice A6 idx.length c6] tL))) (u := .slice A6 idx.length c6) (ad := ⟨wr.heap.size + 1, 0, none⟩) (HF2.out.own.below (((Below.refl _ _).drew.alloc (Nat.le_refl _) _).alloc (by simp) _)) (by omega) (by simp; omega) (by rfl) rfl (by rfl) (by rfl) (by rfl) ((Blk.new1 wr.drew _ _ _).cell 0) ?_
            intro v6 w6 hown6 hgr6
            obtain ⟨A8, c8, hv8, -, -⟩ := hown6.cells.open_
            rw [show (vs ++ [Value.slice A6 idx.length c6]).length = vs.length + 1 from by simp] at hv8
            subst hv8
            have HT6 := Lib.hid (HTW.out.addA' (zs := pRow A idx a) (HB.out.trans (((((Below.refl _ _).drew.alloc (Nat.le_refl _) _).alloc (by simp) _) : Below wr.heap.size wr _).mono HB.out.size)) HF.out.lt (HRO.out.below (((Below.refl _ _).drew.alloc (Nat.le_refl _) _).alloc (by simp) _)) hown6 hgr6)
            have hb6 : Below (w.heap.size + 1 + 1 + 1) wr w6 := hgr6.below ((((Below.refl _ _).drew.alloc (Nat.le_refl _) _).alloc (by simp) _).mono hsz) (by simp; omega) HGA.out
            refine hK.out _ _ ⟨(HSB.out _ hb6).1, fun _ => (HSB.out _ hb6).2⟩ (fun hS => ?_)
            clear hK
            try simp only [Act.put, List.setIfInBounds_toArray, List.set_cons_zero, List.set_cons_succ]
            refine AnyT.take0 (i := 14) (v := ?_) rfl (by kernel_rfl) (by kernel_rfl) (by kernel_rfl) (by decide) (fun _ _ _ h => h) hS (Or.inl ⟨by rfl, ?_⟩) ?_
            rotate_left
            · rintro w' ⟨b, ⟨hw1, hw2⟩, -⟩; go_simp; try with_reducible rfl
            try simp only [Act.put, List.setIfInBounds_toArray, List.set_cons_zero, List.set_cons_succ]
            refine AnyT.go (rs := [13]) (by kernel_rfl) (by simp) ?_
            refine AllT.cons rfl (fun K hK => ?_) AllT.nil
            refine step_app1g T_int (B := w.heap.size + 1 + 1 + 1) (v := vb) (vs := ints (pWs Bs (List.take j idx))) (W := w6) (u := .int .i64 y) (ad := ⟨wr.heap.size, 0, none⟩) HT6.out.ws.1 (by simp [ints, pWs]; omega) (by have := hb6.size; omega) (by rfl) rfl (by rfl) (by rfl) (by rfl) ((((Blk.new wr.drew _ _).alloc _).grow hgr6 (HNA.out _ (by simp))).cell 0) ?_
            intro v9 w9 hown9 hgr9
            obtain ⟨A9, c9, hv9, -, -⟩ := hown9.cells.open_
            rw [show (ints (pWs Bs (List.take j idx)) ++ [Value.int .i64 y]).length = (ints (pWs Bs (List.take j idx))).length + 1 from by simp] at hv9
            subst hv9
            have HT9 := Lib.hid (HT6.out.addB HY64.out hown9 hgr9)
            have hb9 : Below (w.heap.size + 1 + 1 + 1) wr w9 := hgr9.below hb6 (by have := hb6.size; omega) HGB.out
            refine hK.out _ _ ⟨(HSB.out _ hb9).1, fun _ => (HSB.out _ hb9).2⟩ (fun hS => ?_)
            clear hK
            try simp only [Act.put, List.setIfInBounds_toArray, List.set_cons_zero, List.set_cons_succ]
            have KP9 := Lib.hid (HKP.out.below hb9 (by omega))
            have e0 : w9.cell? ⟨w.heap.size + 1 + 1, 0, none⟩ = some va := KP9.out.cell 0
            have e1 : w9.cell? ⟨w.heap.size + 1 + 1, 1, none⟩ = some vb := KP9.out.cell 1
            have e2 : w9.frozen? ⟨w.heap.size + 1 + 1, 0, none⟩ = false := KP9.out.frozen 0
            have e3 : w9.frozen? ⟨w.heap.size + 1 + 1, 1, none⟩ = false := KP9.out.frozen 1
            refine AnyT.go (rs := [15]) (by kernel_rfl) (by simp) ?_
            refine AllT.cons rfl (fun K hK => ?_) AllT.nil
            go_simp
            have hb10 : Below (w.heap.size + 1 + 1) wr (w9.setCell ⟨w.heap.size + 1 + 1, 0, none⟩ (.slice A8 (vs.length + 1) c8)) := (hb9.mono (Nat.le_succ _)).setCell (p := ⟨w.heap.size + 1 + 1, 0, none⟩) (Nat.le_refl _) _
            refine hK.out _ _ ⟨HS0.out _ hb10, fun h => Bool.noConfusion (show true = false from h)⟩ (fun hS => ?_)
            clear hK
            try simp only [Act.put, List.setIfInBounds_toArray, List.set_cons_zero, List.set_cons_succ]
            refine AnyT.take0 (i := 16) (v := ?_) rfl (by kernel_rfl) (by kernel_rfl) (by kernel_rfl) (by decide) (fun _ _ _ h => h) hS (Or.inl ⟨by rfl, ?_⟩) ?_
            rotate_left
            · rintro w' ⟨b, ⟨hw1, hw2⟩, -⟩; go_simp; try with_reducible rfl
            try simp only [Act.put, List.setIfInBounds_toArray, List.set_cons_zero, List.set_cons_succ]
            refine AnyT.go (rs := [17]) (by kernel_rfl) (by simp) ?_
            refine AllT.cons rfl (fun K hK => ?_) AllT.nil
            go_simp
            have hb11 : Below (w.heap.size + 1 + 1) wr ((w9.setCell ⟨w.heap.size + 1 + 1, 0, none⟩ (.slice A8 (vs.length + 1) c8)).setCell ⟨w.heap.size + 1 + 1, 1, none⟩ (.slice A9 ((ints (pWs Bs (List.take j idx))).length + 1) c9)) := hb10.setCell (p := ⟨w.heap.size + 1 + 1, 1, none⟩) (Nat.le_refl _) _
            refine hK.out _ _ ⟨HS0.out _ hb11, fun h => Bool.noConfusion (show true = false from h)⟩ (fun hS => ?_)
            clear hK
            refine AnyT.done (by kernel_rfl) ?_ _
            have HFN := Lib.hid (HT9.out.close KP9.out (HBW.out.trans (hb9.mono (by omega))) (by omega))
            have KXN := Lib.hid (HKX.out.below hb11 (by omega))
            have KRN := Lib.hid (HKR.out.below hb11 (by omega))
            clear hb11 hb10 hb9 hS e0 e1 e2 e3
            go_wp2_with fail
            go_roundw
            case rel =>
              refine ⟨j + 1, (.slice A8 (vs.length + 1) c8), (.slice A9 ((ints (pWs Bs (List.take j idx))).length + 1) c9), vs ++ [.slice A6 idx.length c6], by omega, by go_num, ?_, KXN.out, KRN.out⟩
              rw [HT1.out, HT2.out]
              exact HFN.out
            case measure => simp [intOf]; omega
    · have : j = idx.length := by omega
      subst this
      rw [List.take_length] at HF
      obtain ⟨A7, c7, hv7, -, -⟩ := HF.out.own.cells.open_
      have hvl : vs.length = idx.length := by have := HF.out.rows.1; simpa [pRows] using this
      rw [hvl] at hv7
      subst hv7
      obtain ⟨A9, c9, hv9, -, -⟩ := HF.out.ws.1.cells.open_
      rw [show (ints (pWs Bs idx)).length = idx.length from by simp [ints, pWs]] at hv9
      subst hv9
      have e0 : wr.cell? ⟨w.heap.size + 1 + 1, 0, none⟩ = some (.slice A7 idx.length c7) := HF.out.blk.cell 0
      have e1 : wr.cell? ⟨w.heap.size + 1 + 1, 1, none⟩ = some (.slice A9 idx.length c9) := HF.out.blk.cell 1
      have f0 : wr.cell? ⟨w.heap.size + 1, 0, none⟩ = some (.slice none 0 0) := K1.out.cell 0
      have f1 : wr.cell? ⟨w.heap.size + 1, 1, none⟩ = some (.slice none 0 0) := K1.out.cell 1
      have f2 := K1.out.frozen 0
      have f3 := K1.out.frozen 1
      have HTAB := Lib.hid HF.out.tab
      clear hvl
      go_wp2_with fail
      have c0 := Chg.refl (w.heap.size + 1) (w.heap.size + 1 + 1) wr
      have c1' := c0.setCell (p := ⟨w.heap.size + 1, 0, none⟩) (Nat.le_refl _) (by simp) (.slice A7 idx.length c7)
      have c2' := c1'.setCell (p := ⟨w.heap.size + 1, 1, none⟩) (Nat.le_refl _) (by simp) (.slice A9 idx.length c9)
      have hsb := HF.out.below.size
      refine bodyPost_ret (v := .agg #[.slice A7 idx.length c7, .slice A9 idx.length c9]) (by simp [results, Tryz.results162, go_sem, f0, f1]) rfl ⟨_, rfl, (HTAB.out.kept c2' (.inr (by omega))).mono (by omega) c2'.size, c2'.below HF.out.below (by omega) hsb⟩
end Go.Proofs.YtdjhfeaimmpmhaaGreat

