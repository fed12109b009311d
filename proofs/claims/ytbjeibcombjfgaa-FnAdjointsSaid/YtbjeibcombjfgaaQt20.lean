/- Plain: repeated tableaus: the order is kept at least, once is the tableau. For lists. No walk. | append(s, make([]int64, k)...) at an owned list. No program in sight but for the types. | Walks: l01Own, l01Own2, l09Own of the reference. | Walks: allStages, l10Backwards. | Walk: l10Permute of the reference. -/
import Derived.Test.YtbjeibcombjfgaaQt12
import Derived.Test.YtbjeibcombjfgaaRows
import Derived.Test.YtbjeibcombjfgaaQt3
import Derived.Lib.AppendZerosOnto
import Derived.Test.YtbjeibcombjfgaaQt13
import Derived.Deep.RegionHeld3
import Derived.Test.YtbjeibcombjfgaaQt4
set_option linter.unusedVariables false
set_option linter.unusedSimpArgs false
namespace Go.Proofs.Ytbjeibcombjfgaa
open Go.RowKit

theorem sclT_one {A : List (List Int)} {B : List Int} {s : Nat} (h : SqT A B s) : sclT 1 A = A ∧ scl 1 B = B := by
  refine tab_ext (h.scl 1) h (fun i k hi hk => ?_) fun i hi => ?_
  · rw [fT_scl 1 (by rw [h.la]; exact hi), Int.mul_one]
  · rw [fB_scl, Int.mul_one]
theorem rpT_order {A : List (List Int)} {B : List Int} {s : Nat} (h : SqT A B s) {k : Nat} {f : Int} (hk : ((k : Int) + 1) * f % 10007 = 1) :
    agZ (chT A B) EX ≤ agZ (chT (rpT (sclT f A) (scl f B) k).1 (rpT (sclT f A) (scl f B) k).2) EX := by
  rw [chT_rp (h.scl f) k, chT_scl h f]
  exact ord_rep (chr_chF _ _ _) hk
theorem rpT_len {A : List (List Int)} {B : List Int} {s : Nat} (h : SqT A B s) (f : Int) (k : Nat) : (rpT (sclT f A) (scl f B) k).2.length = (k + 1) * s := ((h.scl f).rp k).lb
/-- adjoints have the same order -/
theorem ad_order {A : List (List Int)} {B : List Int} {s : Nat} (h : SqT A B s) : agZ (chT (adA A B) (adB B)) EX = agZ (chT A B) EX := by
  rw [chT_ad h]
  exact ord_adj (chr_chF _ _ _)
end Go.Proofs.Ytbjeibcombjfgaa

set_option maxRecDepth 100000
set_option linter.unusedVariables false
set_option linter.unusedSimpArgs false
namespace Go.Proofs.Ytbjeibcombjfgaa
open Go.RowKit

theorem zeroCells_int (k : Nat) : Builtin.zeroCells (Value.cells (.int .i64 0)) k = (List.replicate k (Value.int .i64 0)).toArray := by
  unfold Builtin.zeroCells
  apply Array.ext
  · simp [Value.cells]
  · intro i h1 h2
    simp [Value.cells, Nat.mod_one]

theorem own_grown (W : World) {B : Nat} (hB : B ≤ W.heap.size) (e : TypeId) (xs : List Value) (rest : Array Value) (cap : Nat) (h : xs.length ≤ cap) (hc : cap ≤ maxLen) (hr : rest.size = cap - xs.length) :
    Own (W.drew.alloc (.cells (xs.toArray ++ rest) e)) B e (.slice (some ⟨W.heap.size, 0, none⟩) xs.length cap) xs := by
  refine ⟨by simp, .inr ⟨W.heap.size, cap, _, rfl, hB, heap_alloc_new W.drew _, h, hc, ?_, ?_⟩⟩
  · simp only [Array.size_append, List.size_toArray, hr]
    omega
  · simp only [Array.toList_append, Nat.mul_one]
    exact List.take_left

set_option maxHeartbeats 1000000 in
/-- the run of append with k zeros -/
theorem run_appZ (W : World) (B : Nat) (ty : TypeId) (v : Value) (vs : List Value) (k : Nat) (hown : Own W B tI v vs) (h0 : 0 < k) (hn : vs.length + k ≤ 1000000) (hB : B ≤ W.heap.size) :
    ∃ v' w', (Builtin.append_ #[25, 3] ty #[v, .int .i64 (k : Int)]).run Try.prog W = .ok v' w' ∧ Own w' B tI v' (vs ++ List.replicate k (.int .i64 0)) ∧ Grow W w' v v' := by
  obtain ⟨i, hi, hz, h1, h2⟩ := info_parts T_int.info
  have hrl : (vs ++ List.replicate k (Value.int .i64 0)).length = vs.length + k := by simp
  rcases hown.cases with ⟨rfl, rfl⟩ | ⟨g, cap, cur, rfl, hBg, hgl, hg, hnc, hcm, hcs, htake⟩
  · have hr := Go.Lib.run_append_nil_zeros (P := Try.prog) W 25 3 ty tI i (.int .i64 0) .i64 .i64 T_int.under Try.underlying3 hi hz k h0 (by rw [h1]; omega) (by omega) (by rw [h2]; simp at hn; omega)
    have hge := grownCap_ge W k 0 tI
    have hcm := grownCap_le_maxLen W k 0 tI (by simp only [maxLen]; simp at hn; omega)
    rw [zeroCells_int] at hr
    have ho := own_grown W hB tI (List.replicate k (Value.int .i64 0)) (Builtin.zeroCells (Value.cells (.int .i64 0)) (grownCap W k 0 tI - k)) (grownCap W k 0 tI) (by simpa using hge) hcm (by rw [size_zeroCells]; simp [Value.cells])
    rw [List.length_replicate] at ho
    refine ⟨_, _, hr, by simpa using ho, ⟨rfl, rfl, rfl, by simp, fun b hb _ => heap_alloc_old W.drew _ hb⟩, .inr ⟨_, rfl, Nat.le_refl _⟩⟩
  · by_cases hroom : vs.length + k ≤ cap
    · have hst := run_storeCells_at Try.prog g vs.length tI (List.replicate k (Value.int .i64 0)) 0 cur W hg (by simp; omega) (by intro u hu; obtain ⟨-, rfl⟩ := List.mem_replicate.1 hu; rfl)
      simp only [Nat.add_zero] at hst
      have hw : IntKind.i64.wrap (k : Int) = k := by rw [IntKind.wrap_i64]; omega
      have h48i : ¬ (281474976710656 < (k : Int) * (i.bytes : Int)) := by rw [h2]; omega
      have hneg : ¬ ((k : Int) < 0) := by omega
      have hk0 : ¬ k = 0 := by omega
      have hns : ¬ (k * i.size = 0) := by rw [h1]; omega
      have hz2 : Builtin.zeroCells (Value.cells (.int .i64 0)) k = (List.replicate k (Value.int .i64 0)).toArray := zeroCells_int k
      have hr : (Builtin.append_ #[25, 3] ty #[.slice (some ⟨g, 0, none⟩) vs.length cap, .int .i64 (k : Int)]).run Try.prog W = .ok (.slice (some ⟨g, 0, none⟩) (vs.length + k) cap) (W.setRow g (cur.toList.take vs.length ++ List.replicate k (Value.int .i64 0) ++ cur.toList.drop (vs.length + (List.replicate k (Value.int .i64 0)).length)).toArray) := by
        simp only [Value.cells] at hz2
        simp [Builtin.append_, run_underlying T_int.under, run_underlying Try.underlying3, sizeOf, typeInfo, zeroValue, hi, hz, asInt, asIntOf, hw, hneg, hns, hk0, h48i, hroom, Value.cells, hz2, h1, Addr.add_lit, hst]
      refine ⟨_, _, hr, ?_, ⟨rfl, rfl, rfl, by simp, fun b _ hb => setRow_other W g b _ (fun e => hb (by simp [Value.ownBlock, e]))⟩, .inl rfl⟩
      refine ⟨by simp, .inr ⟨g, cap, _, ?_, hBg, setRow_heap W g cur _ tI _ hg, by rw [hrl]; exact hroom, hcm, ?_, ?_⟩⟩
      · rw [hrl]
      · simp only [List.size_toArray, List.length_append, List.length_take, List.length_drop, Array.length_toList, List.length_replicate]
        omega
      · rw [htake, Nat.mul_one]
        exact List.take_left
    · have hfc : (Builtin.firstCells i.size vs.length (.slice (some ⟨g, 0, none⟩) vs.length cap)).run Try.prog W.drew = .ok vs.toArray W.drew :=
        run_firstCells_some (P := Try.prog) W.drew i.size vs.length ⟨g, 0, none⟩ vs.length cap vs (by rw [h1]; simp) (fun j u hu => World.ownsRow.cells hown (g := g) rfl j u hu)
      have hr := Go.Lib.run_append_grow_zeros (P := Try.prog) W 25 3 ty tI i (.int .i64 0) .i64 .i64 T_int.under Try.underlying3 hi hz (some ⟨g, 0, none⟩) vs.length cap vs hfc k h0 (by rw [h1]; omega) (by omega) (by omega) (by rw [h2]; omega) (by rw [h2]; exact growslice_fits (by omega) (by omega))
      have hge := grownCap_ge W (vs.length + k) cap tI
      have hcm2 := grownCap_le_maxLen W (vs.length + k) cap tI (by simp only [maxLen]; omega)
      rw [zeroCells_int] at hr
      have ho := own_grown W hB tI (vs ++ List.replicate k (Value.int .i64 0)) (Builtin.zeroCells (Value.cells (.int .i64 0)) (grownCap W (vs.length + k) cap tI - (vs.length + k))) (grownCap W (vs.length + k) cap tI) (by rw [hrl]; exact hge) hcm2 (by rw [size_zeroCells, hrl]; simp [Value.cells])
      rw [hrl] at ho
      refine ⟨_, _, hr, ?_, ⟨rfl, rfl, rfl, by simp, fun b hb _ => heap_alloc_old W.drew _ hb⟩, .inr ⟨_, rfl, Nat.le_refl _⟩⟩
      rw [show vs.toArray ++ (List.replicate k (Value.int .i64 0)).toArray = (vs ++ List.replicate k (Value.int .i64 0)).toArray from by simp]
      exact ho

/-- append with k zeros, met in a region that draws -/
theorem step_appZ {ops : Array Oper} {o : Oper} {a : Act} {K : Act → World → Prop} {Q : Exit → Act → World → Prop} {E : Prop} {s x : Operand}
    {B : Nat} {v : Value} {vs : List Value} {W : World} {k : Nat}
    (hown : Own W B tI v vs) (h0 : 0 < k) (hn : vs.length + k ≤ 1000000) (hB : B ≤ W.heap.size)
    (hgd : o.guard = none) (ho : o.op = .call { callee := .builtin .append, args := #[s, x], argTypes := #[25, 3] }) (hs : a.eval s = v)
    (hx : a.eval x = .int .i64 (k : Int))
    (h : ∀ v' w', Own w' B tI v' (vs ++ List.replicate k (.int .i64 0)) → Grow W w' v v' → K (a.put o.dst v') w') :
    if Region.wanted o (yielded ops a.tmps) = true then Oper.wp Try.prog o a W K Q else E := by
  have hw : Region.wanted o (yielded ops a.tmps) = true := by simp [Region.wanted, hgd]
  rw [if_pos hw]
  obtain ⟨v', w', hrun, r1, r2⟩ := run_appZ W B o.type v vs k hown h0 hn hB
  unfold Oper.wp execOp
  simp only [ho, resolve, invoke, builtin, Sem.run_bind, Sem.run_pure, Result.andThen_ok, List.map_toArray, List.map_cons, List.map_nil, hs, hx, hrun]
  exact h v' w' r1 r2

/-- the run of append of a list -/
theorem run_appN {P : Program} {t e : TypeId} {z : Value} {bytes : Nat} {B : Nat} {v : Value} {vs : List Value} {W : World} {y : Value} {us : List Value}
    (T : ElemT P t e z bytes) (ty : TypeId) (hown : Own W B e v vs) (hy : Cells W y us) (hlen : vs.length + us.length < 1099511627776) (hB : B ≤ W.heap.size) (hu : ∀ u ∈ us, u.oneCell' = true) :
    ∃ v' w', (Builtin.append_ #[t, t] ty #[v, y]).run P W = .ok v' w' ∧ Own w' B e v' (vs ++ us) ∧ Grow W w' v v' := by
  obtain ⟨i, hi, hz, h1, h2⟩ := info_parts T.info
  have hby := T.small
  obtain ⟨A, c, rfl, hy1, hy2, hy3⟩ := hy
  cases A with
  | none =>
    have hus : us = [] := by
      cases us with
      | nil => rfl
      | cons u us => obtain ⟨ad, h, _⟩ := hy3 0 u rfl; cases h
    subst hus
    have hrun : (Builtin.append_ #[t, t] ty #[v, .slice none 0 c]).run P W = .ok v W := by
      rcases hown.cases with ⟨rfl, rfl⟩ | ⟨g, cap, cur, rfl, _, _, _, hnc, _⟩
      · simp [Builtin.append_, run_underlying T.under, sizeOf, typeInfo, hi, Builtin.lenOf, Builtin.firstCells]
      · simp [Builtin.append_, run_underlying T.under, sizeOf, typeInfo, hi, Builtin.lenOf, Builtin.firstCells, hnc, storeCells]
    exact ⟨v, W, hrun, by simpa using hown, World.grownBy.refl W _, .inl rfl⟩
  | some ad =>
    obtain ⟨v', w', hrun, r1, r2, _, r3⟩ := run_append_own_at (P := P) W B t ty e i z 1 bytes T.under hi hz h1 h2 (by rw [T.one]; rfl) (by omega) v vs.length vs hown ad us.length c us (by simp)
      (fun j u' hj => by obtain ⟨ad', h, hc⟩ := hy3 j u' hj; injection h with h; subst h; exact hc) hu (by simp only [maxLen]; omega) (by have := Nat.mul_le_mul_left (vs.length + us.length) hby; omega) hB
    refine ⟨v', w', hrun, ?_, r2, ?_⟩
    · unfold Own; simpa using r1
    · rcases r3 with r3 | r3
      · exact .inl r3
      · exact .inr ⟨_, r3, by simp⟩

/-- append of a list, met in a region that draws -/
theorem step_appN {P : Program} {ops : Array Oper} {o : Oper} {a : Act} {K : Act → World → Prop} {Q : Exit → Act → World → Prop} {E : Prop} {s x : Operand} {t : TypeId}
    {e : TypeId} {z : Value} {bytes : Nat} {B : Nat} {v : Value} {vs : List Value} {W : World} {y : Value} {us : List Value}
    (T : ElemT P t e z bytes) (hown : Own W B e v vs) (hy : Cells W y us) (hlen : vs.length + us.length < 1099511627776) (hB : B ≤ W.heap.size) (hu : ∀ u ∈ us, u.oneCell' = true)
    (hgd : o.guard = none) (ho : o.op = .call { callee := .builtin .append, args := #[s, x], argTypes := #[t, t] }) (hs : a.eval s = v) (hx : a.eval x = y)
    (h : ∀ v' w', Own w' B e v' (vs ++ us) → Grow W w' v v' → K (a.put o.dst v') w') :
    if Region.wanted o (yielded ops a.tmps) = true then Oper.wp P o a W K Q else E := by
  have hw : Region.wanted o (yielded ops a.tmps) = true := by simp [Region.wanted, hgd]
  rw [if_pos hw]
  obtain ⟨v', w', hrun, r1, r2⟩ := run_appN T o.type hown hy hlen hB hu
  unfold Oper.wp execOp
  simp only [ho, resolve, invoke, builtin, Sem.run_bind, Sem.run_pure, Result.andThen_ok, List.map_toArray, List.map_cons, List.map_nil, hs, hx, hrun]
  exact h v' w' r1 r2

/-- make, met in a region that draws -/
theorem step_mk {P : Program} {ops : Array Oper} {o : Oper} {a : Act} {K : Act → World → Prop} {Q : Exit → Act → World → Prop} {E : Prop} {t : TypeId} {l c : Operand}
    {e : TypeId} {z : Value} {bytes : Nat} (T : ElemT P t e z bytes) (n : Nat) (hn : n < 1099511627776) {W : World}
    (hgd : o.guard = none) (ho : o.op = .makeSlice t l c) (hl : a.eval l = .int .i64 (n : Int)) (hc : a.eval c = .int .i64 (n : Int))
    (h : ∀ w', Own w' W.heap.size e (.slice (some ⟨W.heap.size, 0, none⟩) n n) (List.replicate n z) → Below W.heap.size W w' → W.heap.size < w'.heap.size → K (a.put o.dst (.slice (some ⟨W.heap.size, 0, none⟩) n n)) w') :
    if Region.wanted o (yielded ops a.tmps) = true then Oper.wp P o a W K Q else E := by
  have hw : Region.wanted o (yielded ops a.tmps) = true := by simp [Region.wanted, hgd]
  rw [if_pos hw]
  have hrun := run_make T n hn W
  unfold Oper.wp execOp
  simp only [ho, hl, hc, hrun, Sem.run_bind, Result.andThen_ok]
  exact h _ (own_made W e z n (by simp only [maxLen]; omega)) ((Below.refl _ _).alloc (Nat.le_refl _) _) (by simp)
end Go.Proofs.Ytbjeibcombjfgaa

set_option maxRecDepth 100000
set_option linter.unusedVariables false
set_option linter.unusedSimpArgs false
namespace Go.Proofs.Ytbjeibcombjfgaa
open Go.RowKit

theorem ints_oneC (zs : List Int) : ∀ u ∈ ints zs, u.oneCell' = true := by
  intro u hu
  obtain ⟨z, _, rfl⟩ := List.mem_map.1 hu
  rfl

set_option maxHeartbeats 1000000 in
theorem s_l01Own (w : World) (v : Value) (zs : List Int) (ha : Ints w v zs) (hn : zs.length ≤ 4294967296) :
    Calls Try.prog 125 #[v] w fun e w' => ∃ r, e = .returned r ∧ OwnInts w' w.heap.size tI r zs ∧ Below w.heap.size w w' := by
  obtain ⟨A, c, rfl, l1, l2, h3⟩ := ha.open_
  have HA := Lib.hid ha
  clear h3 ha
  have OL := Lib.hid (own_lit w tI [] (by simp [maxLen]))
  have B1 := Lib.hid (below1 w (.cells #[] tI))
  go_enter Try.func125, Try.ntmps125
  go_wp2_with (at_builtin; refine wpList_appN T_int OL.out (HA.out.below B1.out).1 (by rw [ints_len]; simp; omega) B1.out.size (ints_oneC _) rfl (by rfl) (by rfl) (by rfl) ?_; intro v1 w2 hown1 hgr1)
  go_ret
  exact ⟨_, rfl, ⟨by simpa using hown1, HA.out.2⟩, hgr1.below B1.out (by simp) OL.out.ge⟩

set_option maxHeartbeats 1000000 in
theorem s_l01Own2 (w : World) (v : Value) (A : List (List Int)) (ha : Rows w v A) (hn : A.length ≤ 1000) (hl : ∀ zs ∈ A, zs.length ≤ 4294967296) :
    Calls Try.prog 126 #[v] w fun e w' => ∃ r, e = .returned r ∧ OR w' w.heap.size w'.heap.size tL tI r A ∧ Below w.heap.size w w' := by
  obtain ⟨A1, c1, rfl, l1, l2, h3⟩ := ha.open_
  have H3 := Lib.hid h3
  have HL := Lib.hid hl
  clear h3 ha hl
  have OL := Lib.hid (show Two (w.alloc (.cells #[] tL)) w.heap.size (.slice (some ⟨w.heap.size, 0, none⟩) 0 0) (.slice none 0 0) [] [] [] from ⟨own_lit w tL [] (by simp [maxLen]), RowsOwn.nil _ _ _ _, OwnInts.nil _ _ _, fun k u hu => by simp at hu⟩)
  go_enter Try.func126, Try.ntmps126
  go_wp2_with fail
  go_loopw [3, 4] (fun o i wr => ∃ (j : Nat) (vs : List Value), j ≤ A.length ∧ i = .int .i64 j ∧ Two wr w.heap.size o (.slice none 0 0) vs (A.take j) [] ∧ Below w.heap.size w wr) (fun _ i _ => A.length - (intOf i).toNat)
  case atStart => exact ⟨0, [], Nat.zero_le _, rfl, OL.out, below1 _ _⟩
  case round =>
    obtain ⟨j, vs, hj, rfl, ht, hb⟩ := hrel
    clear OL
    have HT := Lib.hid ht
    have HB := Lib.hid hb
    have hvl : vs.length ≤ 1000 := by have := ht.rows.1; rw [List.length_take] at this; omega
    clear ht hb
    by_cases hlt : j < A.length
    · obtain ⟨ad, u, zs, rfl, hz, hu, hc0⟩ := H3.out j hlt
      have hc : wr.cell? (ad.add j) = some u := by
        rw [HB.out.cell (by rw [block_add]; have := World.block_lt_of_cell? w _ hc0; rwa [block_add] at this)]; exact hc0
      have HU := Lib.hid (hu.below HB.out)
      have hzl := HL.out zs (List.mem_of_getElem? hz)
      have HS := Lib.hid (show A.take (j + 1) = A.take j ++ [zs] by rw [List.take_add_one, hz]; simp)
      have hji : (j : Int) < (A.length : Int) := by omega
      clear hz hu hc0
      go_wp2_with (first
        | (go_at_call 125; refine (s_l01Own _ _ zs (by exact HU.out) hzl).mono ?_; rintro e w5 ⟨r5, rfl, ho5, hb5⟩; obtain ⟨A5, c5, hv5, -, -, -⟩ := ho5.ints.open_; subst hv5)
        | (at_builtin; refine wpList_app1 T_row (HT.out.own.below hb5) (by omega) (Nat.le_trans HB.out.size hb5.size) (by rfl) rfl (by rfl) (by rfl) (by rfl) ?_; intro v1 w1 hown1 hgr1))
      go_roundw
      case rel =>
        refine ⟨j + 1, vs ++ [.slice A5 zs.length c5], by omega, by go_num, ?_, hgr1.below (HB.out.trans (hb5.mono HB.out.size)) (Nat.le_trans HB.out.size hb5.size) HT.out.own.ge⟩
        rw [HS.out]
        exact HT.out.addA' hb5 HB.out.size ho5 hown1 hgr1
      case measure => simp [intOf]; omega
    · have : j = A.length := by omega
      subst this
      rw [List.take_length] at HT
      go_wp2_with fail
      go_ret
      exact ⟨_, rfl, ⟨vs, HT.out.own, HT.out.own.lt, HT.out.rows⟩, HB.out⟩

set_option maxHeartbeats 2000000 in
theorem s_l09Own (w : World) (v : Value) (A : List (List Int)) (Bs : List Int) (ha : TabArg w v A Bs) (hT : NumTab A Bs) :
    Calls Try.prog 72 #[v] w fun e w' => ∃ r, e = .returned r ∧ OT w' w.heap.size w'.heap.size r A Bs ∧ Below w.heap.size w w' := by
  obtain ⟨va, vb, rfl, hA, hB⟩ := ha
  have HA := Lib.hid hA
  have HB := Lib.hid hB
  obtain ⟨Aa, ca, rfl, -, -, -⟩ := hA.open_
  obtain ⟨Ab, cb, rfl, -, -, -⟩ := hB.open_
  have B0 := Lib.hid (below2 w (.cells #[.slice Aa A.length ca, .slice Ab Bs.length cb] 27) (.cells #[.slice none 0 0, .slice none 0 0] 27))
  have K0 := Lib.hid ((Blk.new w #[.slice Aa A.length ca, .slice Ab Bs.length cb] 27).alloc (.cells #[.slice none 0 0, .slice none 0 0] 27))
  have K1 := Lib.hid (Blk.new1 w (.cells #[.slice Aa A.length ca, .slice Ab Bs.length cb] 27) #[.slice none 0 0, .slice none 0 0] 27)
  have hla := hT.la
  have hlb := hT.lb
  have HT := Lib.hid hT
  clear hA hB hT
  go_enter Try.func72, Try.ntmps72
  go_wp2_with fail
  have hs1 : ((w.alloc (.cells #[.slice Aa A.length ca, .slice Ab Bs.length cb] 27)).alloc (.cells #[.slice none 0 0, .slice none 0 0] 27)).heap.size = w.heap.size + 1 + 1 := by simp
  generalize ((w.alloc (.cells #[.slice Aa A.length ca, .slice Ab Bs.length cb] 27)).alloc (.cells #[.slice none 0 0, .slice none 0 0] 27)) = w1 at B0 K0 K1 hs1 ⊢
  have HS1 := Lib.hid hs1
  clear hs1
  have g0 : w1.cell? ⟨w.heap.size, 0, none⟩ = some (.slice Aa A.length ca) := K0.out.cell 0
  have g1 : w1.cell? ⟨w.heap.size, 1, none⟩ = some (.slice Ab Bs.length cb) := K0.out.cell 1
  go_region_held3 (fun w' => w'.cell? ⟨w.heap.size, 0, none⟩ = some (.slice Aa A.length ca) ∧ w'.cell? ⟨w.heap.size, 1, none⟩ = some (.slice Ab Bs.length cb)) ((go_split_ands; refine ⟨?_, ?_⟩ <;> (first
      | (rw [hb6.cell (by have h1 := K0.out.lt; have h5 := hb5.size; simp at h5 ⊢; omega)]; assumption)
      | (rw [hb5.cell (by have h1 := K0.out.lt; simp; omega)]; assumption)
      | go_keep)))
    (first
      | (go_at_call 126; refine (s_l01Own2 _ _ A (by exact HA.out.below B0.out.drew) hla (fun zs hz => by have := (HT.out.rows zs hz).2; omega)).mono ?_; rintro e w5 ⟨v5, rfl, ho5, hb5⟩; obtain ⟨A5, c5, hv5, -, -, -⟩ := ho5.rows.open_; subst hv5)
      | (go_at_call 125; refine (s_l01Own _ _ Bs (by exact HB.out.below (B0.out.trans ((below_of_drew hb5).mono B0.out.size))) (by omega)).mono ?_; rintro e w6 ⟨v6, rfl, ho6, hb6⟩; obtain ⟨A6, c6, hv6, -, -, -⟩ := ho6.ints.open_; subst hv6; have X6 := K1.out.below ((below_of_drew hb5).trans (hb6.mono hb5.size)) K1.out.lt; have f0 : w6.cell? ⟨w.heap.size + 1, 0, none⟩ = some (.slice none 0 0) := X6.cell 0; have f1 : w6.cell? ⟨w.heap.size + 1, 1, none⟩ = some (.slice none 0 0) := X6.cell 1; have f2 := X6.frozen 0; have f3 := X6.frozen 1))
  go_wp2_with fail
  have B6 : Below w.heap.size w w6 := B0.out.trans (((below_of_drew hb5).trans (hb6.mono hb5.size)).mono B0.out.size)
  have hd5 : w1.heap.size ≤ w5.heap.size := hb5.size
  have hz1 := HS1.out
  have c0 := Chg.refl (w.heap.size + 1) (w.heap.size + 1 + 1) w6
  have c1' := c0.setCell (p := ⟨w.heap.size + 1, 0, none⟩) (Nat.le_refl _) (by simp) (.slice A5 A.length c5)
  have c2' := c1'.setCell (p := ⟨w.heap.size + 1, 1, none⟩) (Nat.le_refl _) (by simp) (.slice A6 Bs.length c6)
  have hot : OT w6 w1.heap.size w6.heap.size (.agg #[.slice A5 A.length c5, .slice A6 Bs.length c6]) A Bs := OT.of_M (M := w5.heap.size) hd5 hb6.size ((show OR w5 w1.heap.size w5.heap.size tL tI _ A from ho5).below hb6) (OI.of ho6)
  refine bodyPost_ret (v := .agg #[.slice A5 A.length c5, .slice A6 Bs.length c6]) (by simp [results, Try.results72, go_sem, f0, f1]) rfl ⟨_, rfl, ?_, c2'.below B6 (by omega) B6.size⟩
  exact (hot.kept c2' (.inr (by omega))).mono (by omega) c2'.size
end Go.Proofs.Ytbjeibcombjfgaa

set_option linter.unusedVariables false
set_option linter.unusedSimpArgs false
namespace Go.Proofs.Ytbjeibcombjfgaa
open Go.RowKit

/-- 0, 1, .. n - 1 -/
def upTo (n : Nat) : List Int := (List.range n).map fun (i : Nat) => (i : Int)
theorem upTo_len (n : Nat) : (upTo n).length = n := by simp [upTo]
theorem upTo_succ (n : Nat) : upTo (n + 1) = upTo n ++ [(n : Int)] := by simp [upTo, List.range_succ]
theorem upTo_in (n : Nat) (h : n ≤ 1000000) : ∀ z ∈ upTo n, In64 z := by
  intro z hz
  obtain ⟨i, hi, rfl⟩ := List.mem_map.1 hz
  have := List.mem_range.1 hi
  unfold In64
  omega
/-- n - 1, .. 1, 0: the first j of them -/
def downTo (n j : Nat) : List Int := (List.range j).map fun (i : Nat) => ((n - 1 - i : Nat) : Int)
theorem downTo_len (n j : Nat) : (downTo n j).length = j := by simp [downTo]
theorem downTo_succ (n j : Nat) : downTo n (j + 1) = downTo n j ++ [((n - 1 - j : Nat) : Int)] := by simp [downTo, List.range_succ]
theorem downTo_in (n j : Nat) (h : n ≤ 1000000) : ∀ z ∈ downTo n j, In64 z := by
  intro z hz
  obtain ⟨i, hi, rfl⟩ := List.mem_map.1 hz
  unfold In64
  omega

set_option maxHeartbeats 1000000 in
theorem s_l10Backwards (w : World) (n : Nat) (hn : n ≤ 1000) :
    Calls Try.prog 77 #[.int .i64 (n : Int)] w fun e w' => ∃ r, e = .returned r ∧ OwnInts w' w.heap.size tI r (downTo n n) ∧ Below w.heap.size w w' := by
  have OL := Lib.hid (own_lit w tI [] (by simp [maxLen]))
  go_enter Try.func77, Try.ntmps77
  go_wp2_with fail
  go_loopw [3, 4] (fun o i wr => ∃ j : Nat, j ≤ n ∧ i = .int .i64 ((n : Int) - 1 - (j : Int)) ∧ Own wr w.heap.size tI o (ints (downTo n j)) ∧ Below w.heap.size w wr) (fun _ i _ => (intOf i + 1).toNat)
  case atStart => exact ⟨0, Nat.zero_le _, by simp, by simpa [downTo, ints] using OL.out, (Below.refl _ _).alloc (Nat.le_refl _) _⟩
  case round =>
    obtain ⟨j, hj, rfl, hown, hb⟩ := hrel
    clear OL
    have HO := Lib.hid hown
    have HB := Lib.hid hb
    clear hown hb
    by_cases hlt : j < n
    · have hge : 0 ≤ (n : Int) - 1 - (j : Int) := by omega
      go_wp2_with (at_builtin; refine wpList_app1 T_int HO.out (by rw [ints_len, downTo_len]; omega) HB.out.size (by rfl) rfl (by rfl) (by rfl) (by rfl) ?_; intro v1 w1 hown1 hgr1)
      go_roundw
      case rel =>
        refine ⟨j + 1, by omega, by congr 1; omega, ?_, hgr1.below HB.out HB.out.size HO.out.ge⟩
        have e : ((n - 1 - j : Nat) : Int) = (n : Int) - 1 - (j : Int) := by omega
        rw [downTo_succ, e]
        simpa [ints] using hown1
      case measure => simp [intOf]; omega
    · have : j = n := by omega
      subst this
      have hneg : ¬ (0 : Int) ≤ (j : Int) - 1 - (j : Int) := by omega
      go_wp2_with fail
      go_ret
      exact ⟨_, rfl, ⟨HO.out, downTo_in _ _ (by omega)⟩, HB.out⟩

set_option maxHeartbeats 1000000 in
theorem im_allStages (w : World) (v : Value) (A : List (List Int)) (Bs : List Int) (ha : TabArg w v A Bs) (hn : Bs.length ≤ 1000) :
    Calls Try.prog 128 #[v] w fun e w' => ∃ r, e = .returned r ∧ OwnInts w' w.heap.size tI r (upTo Bs.length) ∧ Below w.heap.size w w' := by
  obtain ⟨Aa, ca, Ab, cb, rfl⟩ := ha.open_
  clear ha
  have OL := Lib.hid (own_lit (w.alloc (.cells #[.slice Aa A.length ca, .slice Ab Bs.length cb] 27)) tI [] (by simp [maxLen]))
  have B0 := Lib.hid (below2 w (.cells #[.slice Aa A.length ca, .slice Ab Bs.length cb] 27) (.cells #[] tI))
  go_enter Try.func128, Try.ntmps128
  go_wp2_with fail
  go_loopw [3, 9] (fun o i wr => ∃ j : Nat, j ≤ Bs.length ∧ i = .int .i64 (j : Int) ∧ Own wr w.heap.size tI o (ints (upTo j)) ∧ Below w.heap.size w wr) (fun _ i _ => Bs.length - (intOf i).toNat)
  case atStart => exact ⟨0, Nat.zero_le _, rfl, (by have h := OL.out.mono (B' := w.heap.size) (by simp); simpa [upTo, ints] using h), B0.out⟩
  case round =>
    obtain ⟨j, hj, rfl, hown, hb⟩ := hrel
    clear OL
    have HO := Lib.hid hown
    have HB := Lib.hid hb
    clear hown hb
    by_cases hlt : j < Bs.length
    · go_wp2_with (at_builtin; refine wpList_app1 T_int HO.out (by rw [ints_len, upTo_len]; omega) HB.out.size (by rfl) rfl (by rfl) (by rfl) (by rfl) ?_; intro v1 w1 hown1 hgr1)
      go_roundw
      case rel =>
        refine ⟨j + 1, by omega, by go_num, ?_, hgr1.below HB.out HB.out.size HO.out.ge⟩
        rw [upTo_succ]
        simpa [ints] using hown1
      case measure => simp [intOf]; omega
    · have : j = Bs.length := by omega
      subst this
      go_wp2_with fail
      go_ret
      exact ⟨_, rfl, ⟨HO.out, upTo_in _ (by omega)⟩, HB.out⟩
end Go.Proofs.Ytbjeibcombjfgaa

set_option linter.unusedVariables false
set_option linter.unusedSimpArgs false
namespace Go.Proofs.Ytbjeibcombjfgaa
open Go.RowKit

def casts (idx : List Nat) : List Int := idx.map fun (a : Nat) => (a : Int)
theorem casts_len (idx : List Nat) : (casts idx).length = idx.length := by simp [casts]
theorem casts_get {idx : List Nat} {i : Nat} {z : Int} (h : (casts idx)[i]? = some z) : ∃ a, idx[i]? = some a ∧ z = (a : Int) := by
  unfold casts at h
  rw [List.getElem?_map] at h
  cases hx : idx[i]? with
  | none => rw [hx] at h; cases h
  | some a => rw [hx] at h; exact ⟨a, rfl, by simpa using h.symm⟩
def pRow (A : List (List Int)) (idx : List Nat) (a : Nat) : List Int := idx.map fun b => (A.getD a []).getD b 0
def pRows (A : List (List Int)) (idx jdx : List Nat) : List (List Int) := jdx.map (pRow A idx)
def pWs (Bs : List Int) (jdx : List Nat) : List Int := jdx.map fun a => Bs.getD a 0
theorem take_map {α β : Type} {f : α → β} {l : List α} {j : Nat} {x : α} (h : l[j]? = some x) : (l.take (j + 1)).map f = (l.take j).map f ++ [f x] := by
  rw [List.take_add_one, h]; simp

set_option maxRecDepth 100000 in
set_option maxHeartbeats 2000000 in
theorem s_l10Permute (w : World) (v vo : Value) (A : List (List Int)) (Bs : List Int) (idx : List Nat) (ha : TabArg w v A Bs) (ho : Ints w vo (casts idx)) (hn : idx.length ≤ 1000) (hi : ∀ a ∈ idx, a < A.length ∧ a < Bs.length) (hsq : ∀ zs ∈ A, zs.length = A.length) :
    Calls Try.prog 75 #[v, vo] w fun e w' => ∃ r, e = .returned r ∧ OT w' w.heap.size w'.heap.size r (pRows A idx idx) (pWs Bs idx) ∧ Below w.heap.size w w' := by
  obtain ⟨va, vb, rfl, hA, hB⟩ := ha
  obtain ⟨A1, c1, rfl, l1, l2, h3⟩ := hA.open_
  obtain ⟨A2, c2, rfl, m1, m2, g3⟩ := hB.open_
  obtain ⟨A4, c4, rfl, n1, n2, o3⟩ := ho.open_
  rw [casts_len] at n1 o3 ⊢
  have H3 := Lib.hid h3
  have G3 := Lib.hid g3
  have O3 := Lib.hid o3
  have HI := Lib.hid hi
  have HSQ := Lib.hid hsq
  clear hA hB ho h3 g3 o3 hi hsq
  go_enter Try.func75, Try.ntmps75
  go_wp2_with fail
  have HF := Lib.hid (show Fill2 w (((w.alloc (.cells #[.slice A1 A.length c1, .slice A2 Bs.length c2] 27)).alloc (.cells #[.slice none 0 0, .slice none 0 0] 27)).alloc (.cells #[.slice none 0 0, .slice none 0 0] 27)) (w.heap.size + 1 + 1) (.slice none 0 0) (.slice none 0 0) [] [] [] from
    ⟨Blk.new2 _ _ _ _ _, Own.nil _ _ _, RowsOwn.nil _ _ _ _, OwnInts.nil _ _ _, fun k u hu => by simp at hu, below3 _ _ _ _⟩)
  have K0 := Lib.hid (((Blk.new w #[.slice A1 A.length c1, .slice A2 Bs.length c2] 27).alloc (.cells #[.slice none 0 0, .slice none 0 0] 27)).alloc (.cells #[.slice none 0 0, .slice none 0 0] 27))
  have K1 := Lib.hid ((Blk.new1 w (.cells #[.slice A1 A.length c1, .slice A2 Bs.length c2] 27) #[.slice none 0 0, .slice none 0 0] 27).alloc (.cells #[.slice none 0 0, .slice none 0 0] 27))
  generalize (((w.alloc (.cells #[.slice A1 A.length c1, .slice A2 Bs.length c2] 27)).alloc (.cells #[.slice none 0 0, .slice none 0 0] 27)).alloc (.cells #[.slice none 0 0, .slice none 0 0] 27)) = w3 at HF K0 K1 ⊢
  go_loopw [6] (fun i wr => ∃ (j : Nat) (va vb : Value) (vs : List Value), j ≤ idx.length ∧ i = .int .i64 j ∧ Fill2 w wr (w.heap.size + 1 + 1) va vb vs (pRows A idx (idx.take j)) (pWs Bs (idx.take j)) ∧ Blk wr w.heap.size 27 #[.slice A1 A.length c1, .slice A2 Bs.length c2] ∧ Blk wr (w.heap.size + 1) 27 #[.slice none 0 0, .slice none 0 0]) (fun i _ => idx.length - (intOf i).toNat)
  case atStart => exact ⟨0, _, _, [], Nat.zero_le _, rfl, HF.out, K0.out, K1.out⟩
  case round =>
    obtain ⟨j, va, vb, vs, hj, rfl, hfill, hk0, hk1⟩ := hrel
    clear HF K0 K1
    have HF := Lib.hid hfill
    have K0 := Lib.hid hk0
    have K1 := Lib.hid hk1
    clear hfill hk0 hk1
    by_cases hlt : j < idx.length
    · obtain ⟨ado, z, rfl, hz, -, hcz⟩ := O3.out j hlt
      obtain ⟨a, hidx, rfl⟩ := casts_get hz
      have hab := HI.out a (List.mem_of_getElem? hidx)
      obtain ⟨adA, u, zs, rfl, hzs, hu, hcu⟩ := H3.out a hab.1
      have hzl := HSQ.out zs (List.mem_of_getElem? hzs)
      obtain ⟨A5, c5, rfl, p1, p2, hu3⟩ := hu.open_
      rw [hzl] at hcu p1 hu3
      have U3 := Lib.hid hu3
      have CZ := Lib.hid hcz
      have CU := Lib.hid hcu
      have HX := Lib.hid hidx
      have HZS := Lib.hid hzs
      have ha1 : (a : Int) < (A.length : Int) := by omega
      have ha2 : a < A.length := hab.1
      have hb1 : (a : Int) < (Bs.length : Int) := by omega
      have hb2 : a < Bs.length := hab.2
      have hj1 : (j : Int) < (idx.length : Int) := by omega
      clear hz hidx hab hzs hu hcu hcz hu3 hzl
      have OL := Lib.hid (own_lit wr tI [] (by simp [maxLen]))
      go_wp2_with fail
      obtain ⟨wo, rfl⟩ : ∃ wo : World, wo = wr := ⟨_, rfl⟩
      go_loopw [7, 8] (fun o k wi => ∃ m : Nat, m ≤ idx.length ∧ k = .int .i64 m ∧ Own wi wo.heap.size tI o (ints (pRow A (idx.take m) a)) ∧ Below wo.heap.size wo wi) (fun _ k _ => idx.length - (intOf k).toNat)
      case atStart => exact ⟨0, Nat.zero_le _, rfl, by simpa [pRow, ints] using OL.out, below1 _ _⟩
      case round =>
        obtain ⟨m, hm, rfl, hown, hb⟩ := hrel
        clear OL
        have HO := Lib.hid hown
        have HB := Lib.hid hb
        have HW := Lib.hid (HF.out.below.trans (hb.mono HF.out.below.size))
        clear hown hb
        have far : ∀ (ad : Addr) (k : Nat) (x : Value), w.cell? (ad.add k) = some x → wr.cell? (ad.add k) = some x := fun ad k x hx => by
          rw [HW.out.cell (by rw [block_add]; have := World.block_lt_of_cell? w _ hx; rwa [block_add] at this)]; exact hx
        have FAR := Lib.hid far
        clear far
        by_cases hlt2 : m < idx.length
        · obtain ⟨ado', z', he, hz', -, hcz'⟩ := O3.out m hlt2
          simp only [Option.some.injEq] at he
          subst he
          obtain ⟨b, hidb, rfl⟩ := casts_get hz'
          have hbb := HI.out b (List.mem_of_getElem? hidb)
          obtain ⟨ad5, x, rfl, hzx, hx64, hcx⟩ := U3.out b hbb.1
          have d1 := FAR.out _ _ _ CZ.out
          have d2 := FAR.out _ _ _ CU.out
          have d3 := FAR.out _ _ _ hcz'
          have d4 := FAR.out _ _ _ hcx
          have d5 : wr.cell? ⟨w.heap.size, 0, none⟩ = some (.slice (some adA) A.length c1) := (K0.out.below HB.out K0.out.lt).cell 0
          have hm1 : (m : Int) < (idx.length : Int) := by omega
          have hbl1 : (b : Int) < (A.length : Int) := by omega
          have hbl2 : b < A.length := hbb.1
          have HPR := Lib.hid (show pRow A (idx.take (m + 1)) a = pRow A (idx.take m) a ++ [x] by
            unfold pRow
            rw [take_map hidb]
            congr 2
            simp [List.getD, HZS.out, hzx])
          clear hz' hidb hbb hzx hcz' hcx
          go_wp2_with fail
          go_region_law (refine step_app1 T_int (B := wo.heap.size) (W := wr.drew) (by exact HO.out) (by simp [ints, pRow]; omega) (by exact HB.out.size) (by rfl) rfl (by rfl) (by rfl) (by rfl) ?_; intro v1 w1 hown1 hgr1)
          all_goals
            go_wp2_with fail
            go_roundw
            case rel =>
              refine ⟨m + 1, by omega, by go_num, ?_, hgr1.below HB.out.drew HB.out.size HO.out.ge⟩
              rw [HPR.out]
              simpa [ints] using hown1
            case measure => simp [intOf]; omega
        · have : m = idx.length := by omega
          subst this
          rw [List.take_length] at HO
          have HIN := Lib.hid (show ∀ z ∈ pRow A idx a, In64 z from fun z hz => by
            obtain ⟨b, hb, rfl⟩ := List.mem_map.1 hz
            obtain ⟨-, x, -, hzx, hx64, -⟩ := U3.out b (HI.out b hb).1
            simpa [List.getD, HZS.out, hzx] using hx64)
          obtain ⟨A6, c6, hv6, -, -, -⟩ := (show Ints wr _ (pRow A idx a) from ⟨HO.out.cells, HIN.out⟩).open_
          rw [show (pRow A idx a).length = idx.length from by simp [pRow]] at hv6
          subst hv6
          have HF2 := Lib.hid (HF.out.step HB.out)
          have q0 : wr.cell? ⟨w.heap.size + 1 + 1, 0, none⟩ = some va := HF2.out.blk.cell 0
          go_wp2_with (at_builtin; refine wpList_app1 T_row (B := w.heap.size + 1 + 1 + 1) (v := va) (vs := vs) HF2.out.own (by have := HF2.out.rows.1; simp [pRows] at this; omega) (by have := HF2.out.lt; omega) (by rfl) rfl (by rfl) (by rfl) (by rfl) ?_; intro v1 w1 hown1 hgr1; obtain ⟨A8, c8, hv8, -, -⟩ := hown1.cells.open_; subst hv8; have q6 := ((HF2.out.blk.grow hgr1 HF2.out.npA).both (u := va) rfl).1; have q7 := ((HF2.out.blk.grow hgr1 HF2.out.npA).both (u := va) rfl).2)
          obtain ⟨adB, y, rfl, hy, hy64, hcy⟩ := G3.out a hb2
          have hp : w.heap.size ≤ w.heap.size + 1 + 1 := by omega
          have HA2 := Lib.hid (HF.out.nextA' (zs := pRow A idx a) hp HB.out ⟨HO.out, HIN.out⟩ hown1 hgr1)
          have KA := Lib.hid (((K0.out.below HB.out K0.out.lt).grow hgr1 (fun e => by have := HF.out.own.ge _ e; omega)).far (p := ⟨w.heap.size + 1 + 1, 0, none⟩) (by simp; omega) (.slice A8 (vs ++ [Value.slice A6 idx.length c6]).length c8))
          have KB := Lib.hid (((K1.out.below HB.out K1.out.lt).grow hgr1 (fun e => by have := HF.out.own.ge _ e; omega)).far (p := ⟨w.heap.size + 1 + 1, 0, none⟩) (by simp) (.slice A8 (vs ++ [Value.slice A6 idx.length c6]).length c8))
          simp only [List.length_append, List.length_singleton] at HA2 KA KB
          clear hown1 hgr1 q0 q6 q7 HO HF2 K0 K1 hlt2
          generalize (w1.setCell ⟨w.heap.size + 1 + 1, 0, none⟩ (.slice A8 (vs.length + 1) c8)) = w2 at HA2 KA KB ⊢
          have HW2 := Lib.hid HA2.out.below
          have far2 : ∀ (ad : Addr) (k : Nat) (x : Value), w.cell? (ad.add k) = some x → w2.cell? (ad.add k) = some x := fun ad k x hx => by
            rw [HW2.out.cell (by rw [block_add]; have := World.block_lt_of_cell? w _ hx; rwa [block_add] at this)]; exact hx
          have r0 : w2.cell? ⟨w.heap.size + 1 + 1, 1, none⟩ = some vb := HA2.out.blk.cell 1
          have r0a : ∀ o, (w2.alloc o).cell? ⟨w.heap.size + 1 + 1, 1, none⟩ = some vb := fun o => (HA2.out.blk.alloc o).cell 1
          have r1 := far2 _ _ _ CZ.out
          have r2 : w2.cell? ⟨w.heap.size, 1, none⟩ = some (.slice (some adB) Bs.length c2) := KA.out.cell 1
          have r3 := far2 _ _ _ hcy
          have HY := Lib.hid hy
          have HY64 := Lib.hid hy64
          clear far2 hcy hy hy64
          go_wp2_with fail
          go_region_law (refine step_app1 T_int (B := w.heap.size + 1 + 1 + 1) (v := vb) (W := w2.drew) (by exact HA2.out.ws.1) (by simp [ints, pWs]; omega) (by have := HA2.out.lt; show _ ≤ w2.heap.size; omega) (by rfl) rfl (by rfl) (by rfl) (by rfl) ?_; intro v9 w9 hown9 hgr9; obtain ⟨A9, c9, hv9, -, -⟩ := hown9.cells.open_; subst hv9; have q6 : w9.cell? ⟨w.heap.size + 1 + 1, 1, none⟩ = some vb := ((HA2.out.step ((Below.refl _ _).drew)).blk.grow hgr9 HA2.out.npB).cell 1; have q7 := ((HA2.out.step ((Below.refl _ _).drew)).blk.grow hgr9 HA2.out.npB).frozen 1)
          all_goals
            have HB2 := Lib.hid ((HA2.out.step ((Below.refl _ _).drew)).nextB hp HY64.out hown9 hgr9)
            have KA2 := Lib.hid (((KA.out.below ((Below.refl _ _).drew) KA.out.lt).grow hgr9 (fun e => by have := HA2.out.ws.1.ge _ e; omega)).far (p := ⟨w.heap.size + 1 + 1, 1, none⟩) (by simp; omega) (.slice A9 (ints (pWs Bs (List.take j idx)) ++ [Value.int .i64 y]).length c9))
            have KB2 := Lib.hid (((KB.out.below ((Below.refl _ _).drew) KB.out.lt).grow hgr9 (fun e => by have := HA2.out.ws.1.ge _ e; omega)).far (p := ⟨w.heap.size + 1 + 1, 1, none⟩) (by simp) (.slice A9 (ints (pWs Bs (List.take j idx)) ++ [Value.int .i64 y]).length c9))
            have HT1 := Lib.hid (show pRows A idx (idx.take (j + 1)) = pRows A idx (idx.take j) ++ [pRow A idx a] from take_map HX.out)
            have HT2 := Lib.hid (show pWs Bs (idx.take (j + 1)) = pWs Bs (idx.take j) ++ [y] by
              unfold pWs
              rw [take_map HX.out]
              simp [List.getD, HY.out])
            clear hown9 hgr9 q6 q7 r0 r0a r1 r2 r3
            go_wp2_with fail
            go_roundw
            case rel =>
              simp only [List.length_append, List.length_singleton] at HB2 KA2 KB2
              refine ⟨j + 1, .slice A8 (vs.length + 1) c8, .slice A9 ((ints (pWs Bs (List.take j idx))).length + 1) c9, vs ++ [.slice A6 idx.length c6], by omega, by go_num, ?_, KA2.out, KB2.out⟩
              rw [HT1.out, HT2.out]
              exact HB2.out
            case measure => simp [intOf]; omega
    · have : j = idx.length := by omega
      subst this
      rw [List.take_length] at HF
      obtain ⟨A7, c7, hv7, -, -⟩ := HF.out.own.cells.open_
      have hvl : vs.length = idx.length := by have := HF.out.rows.1; simpa [pRows] using this
      rw [hvl] at hv7
      subst hv7
      obtain ⟨A9, c9, hv9, -, -⟩ := HF.out.ws.1.cells.open_
      rw [show (ints (pWs Bs idx)).length = idx.length from by simp [ints, pWs]] at hv9
      subst hv9
      have e0 : wr.cell? ⟨w.heap.size + 1 + 1, 0, none⟩ = some (.slice A7 idx.length c7) := HF.out.blk.cell 0
      have e1 : wr.cell? ⟨w.heap.size + 1 + 1, 1, none⟩ = some (.slice A9 idx.length c9) := HF.out.blk.cell 1
      have f0 : wr.cell? ⟨w.heap.size + 1, 0, none⟩ = some (.slice none 0 0) := K1.out.cell 0
      have f1 : wr.cell? ⟨w.heap.size + 1, 1, none⟩ = some (.slice none 0 0) := K1.out.cell 1
      have f2 := K1.out.frozen 0
      have f3 := K1.out.frozen 1
      have HTAB := Lib.hid HF.out.tab
      clear hvl
      go_wp2_with fail
      have c0 := Chg.refl (w.heap.size + 1) (w.heap.size + 1 + 1) wr
      have c1' := c0.setCell (p := ⟨w.heap.size + 1, 0, none⟩) (Nat.le_refl _) (by simp) (.slice A7 idx.length c7)
      have c2' := c1'.setCell (p := ⟨w.heap.size + 1, 1, none⟩) (Nat.le_refl _) (by simp) (.slice A9 idx.length c9)
      have hsb := HF.out.below.size
      refine bodyPost_ret (v := .agg #[.slice A7 idx.length c7, .slice A9 idx.length c9]) (by simp [results, Try.results75, go_sem, f0, f1]) rfl ⟨_, rfl, (HTAB.out.kept c2' (.inr (by omega))).mono (by omega) c2'.size, c2'.below HF.out.below (by omega) hsb⟩
end Go.Proofs.Ytbjeibcombjfgaa

