/- Walks of the reference: l13Spoil, DrawFieldText. -/
import Derived.Test.YtnnfjjadehgmeaaGreatDoorFt12
import Derived.Test.YtnnfjjadehgmeaaGreatDoorFt13
set_option maxRecDepth 100000
set_option linter.unusedVariables false
set_option linter.unusedSimpArgs false
namespace Go.Proofs.YtnnfjjadehgmeaaGreatDoor
open Go.RowKit

/-- a list of lists of monomials that can be read in every world where only blocks of fields have turned -/
def MRS (w : World) (u : Value) (pss : List (List Mono)) : Prop := ∀ W : World, (∀ b : Nat, (∀ (cs : Array Value) (fz : Nat × Nat), w.heap[b]? ≠ some (Obj.cells cs tFq fz)) → W.heap[b]? = w.heap[b]?) → MRows W u pss
theorem bt_not {w : World} {e : TypeId} {v : Value} (h : BT w e v) (he : e ≠ tFq) : ∀ b, v.ownBlock = some b → ∀ (cs : Array Value) (fz : Nat × Nat), w.heap[b]? ≠ some (Obj.cells cs tFq fz) := fun b hb cs fz e' => by
  rcases h with h | ⟨g, cur, fz', h1, h2⟩
  · rw [h] at hb; cases hb
  · rw [h1] at hb
    injection hb with hb
    subst hb
    rw [h2] at e'
    injection e' with e'
    injection e' with _ e3
    exact he e3
theorem mrs_of {w : World} {B : Nat} {u : Value} {vs : List Value} {pss : List (List Mono)} (hown : Own w B tMs u vs) (hlen : vs.length = pss.length) (hat : ∀ (k : Nat) (v : Value) (ms : List Mono), vs[k]? = some v → pss[k]? = some ms → ∃ B' C', OMo w B' C' v ms) : MRS w u pss := fun W hW => by
  refine ⟨vs, (hown.of_block fun b hb => hW b (bt_not hown.bt (by decide) b hb)).cells, hlen, fun k v ms hv hm => ?_⟩
  obtain ⟨B', C', us, h⟩ := hat k v ms hv hm
  have h' : OMd W B' C' v us ms := ⟨h.own.of_block fun b hb => hW b (bt_not (OwnK.bt h.own) (by decide) b hb), h.lt, ⟨h.rows.1, fun k u zs hu hz => (by
    obtain ⟨a, b⟩ := h.rows.2.1 k u zs hu hz
    exact (show OI W B' C' tI u zs from ⟨⟨a.1.of_block fun b' hb => hW b' (bt_not a.1.bt (by decide) b' hb), a.2⟩, b⟩)), h.rows.2.2⟩, h.in_⟩
  exact h'.monos
theorem PFd.mrs {w : World} {B C : Nat} {u : Value} {vs : List Value} {ivs : List (Nat × Nat)} {pss : List (List Mono)} (h : PFd w B C u vs ivs pss) : MRS w u pss :=
  mrs_of h.own h.len fun k v ms hv hm => by
    have hk := (List.getElem?_eq_some_iff.1 hm).1
    obtain ⟨-, -, c⟩ := h.at_ k v ms _ hv hm (List.getElem?_eq_getElem (by rw [h.ilen]; exact hk))
    exact ⟨_, _, c⟩
theorem MRS.set_ {w : World} {u : Value} {pss : List (List Mono)} {g : Nat} {cs : Array Value} (h : MRS w u pss) (hk : Blk w g tFq cs) (i : Nat) (a : Value) : MRS (w.setCell ⟨g, i, none⟩ a) u pss := fun W hW =>
  h W fun b hb => by
    have hne : b ≠ g := fun e => hb cs (0, 0) (by rw [e]; exact hk)
    have e1 := Below.heap_setCell w ⟨g, i, none⟩ a b hne
    rw [← e1]
    exact hW b (fun cs' fz' e => hb cs' fz' (by rw [← e1]; exact e))
/-- the end: the field is copied into the result's block -/
theorem MRS.fin {w : World} {u : Value} {pss : List (List Mono)} {g : Nat} {cs : Array Value} (h : MRS w u pss) (hk : Blk w g tFq cs) (a b : Value) : MRS ((w.setCell ⟨g, 0, none⟩ a).setCell ⟨g, 1, none⟩ b) u pss :=
  (h.set_ hk 0 a).set_ (hk.set_ 0 a) 1 b
/-- what a spoilt field may be -/
def SpR (w : World) (v : Value) : Prop := ∃ (n : Int) (pss : List (List Mono)), (∃ vp, v = .agg #[.int .i64 n, vp] ∧ In64 n ∧ MRS w vp pss) ∧ (∀ ms ∈ pss, ms.length ≤ 4) ∧ (∀ ms ∈ pss, ∀ m ∈ ms, m.2.length ≤ 3)
theorem ints_setS (n : Nat) : (List.replicate n (Value.int .i64 0)).set 0 (.int .i64 1) = ints ((List.replicate n (0 : Int)).set 0 1) := by
  rw [ints, List.map_set, List.map_replicate]
set_option maxHeartbeats 1000000 in
theorem s_l13OneR (w : World) (n : Nat) (hn1 : 1 ≤ n) (hn : n ≤ 3) :
    Calls Tryz.prog 54 #[.int .i64 (n : Nat), .int .i64 0] w fun e w' => ∃ A c zs, e = .returned (.slice A n c) ∧ zs.length = n ∧ OwnInts w' w.heap.size tI (.slice A n c) zs ∧ Below w.heap.size w w' := by
  have hki : (0 : Int) < (n : Int) := by omega
  go_enter Tryz.func54, Tryz.ntmps54
  go_wp2_with (at_make; refine wpList_mk rfl _ _ _ rfl _ _ _ T_int n _ rfl rfl rfl (by omega) _ ?_; intro w1 hown hb hs1; obtain ⟨c0, c1, c2, c3, -, -, c6, -⟩ := Own.storeAt hown (k := 0) (by rw [List.length_replicate]; omega) (.int .i64 1); have HOWN := Lib.hid c6; clear c6; have HB1 := Lib.hid hb; clear hown hb)
  go_ret
  refine ⟨_, _, (List.replicate n (0 : Int)).set 0 1, rfl, by simp, ⟨by rw [← ints_setS]; exact HOWN.out, fun z hz => ?_⟩, HB1.out.setCell (Nat.le_refl _) _⟩
  rcases List.mem_or_eq_of_mem_set hz with h1 | rfl
  · rw [(List.mem_replicate.1 h1).2]; unfold In64; omega
  · unfold In64; omega
/-- a list of one monomial that is typed -/
theorem omo_lit {w : World} {v : Value} {f : Int} {zs : List Int} {B : Nat} (hv : OwnInts w B tI v zs) (hB : B ≤ w.heap.size) (hf : In64 f) : OMo (w.alloc (.cells #[.int .i64 f, v] tM)) B (w.alloc (.cells #[.int .i64 f, v] tM)).heap.size (.slice (some ⟨w.heap.size, 0, none⟩) 1 1) [(f, zs)] := by
  refine ⟨[v], ?_, fun b hb => ?_, ?_, fun m hm => by rw [List.mem_singleton.1 hm]; exact hf⟩
  · exact (OwnK.lit w tM 2 [cellM v (f, zs)] (by intro c hc; simp at hc; subst hc; rfl) (by simp [maxLen]) #[.int .i64 f, v] rfl).mono hB
  · simp [Value.ownBlock] at hb; subst hb; simp
  · exact (RowsOwn.nil _ _ _ _).snoc (OI.of (hv.below (below1 w _))) (fun k u' hu => by simp at hu)
/-- part 0 replaced -/
theorem mrs_set {w : World} {B C g n cu : Nat} {vs : List Value} {ivs : List (Nat × Nat)} {pss : List (List Mono)} {v' : Value} {ms' : List Mono} {B' C' : Nat} (h : PFd w B C (.slice (some ⟨g, 0, none⟩) n cu) vs ivs pss) (hn : 0 < vs.length) (hm : OMo w B' C' v' ms') (hg : C' ≤ g ∨ g < B') :
    MRS (w.setCell ⟨g, 0, none⟩ v') (.slice (some ⟨g, 0, none⟩) n cu) (pss.set 0 ms') := by
  obtain ⟨u0, -, -, -, -, -, hown, -⟩ := h.own.storeAt (k := 0) hn v'
  have hb : ∀ b, b ≠ g → (w.setCell ⟨g, 0, none⟩ v').heap[b]? = w.heap[b]? := fun b hb => Below.heap_setCell w ⟨g, 0, none⟩ v' b hb
  refine mrs_of hown (by rw [List.length_set, List.length_set]; exact h.len) fun k v ms hv hms => ?_
  by_cases hk : k = 0
  · subst hk
    rw [List.getElem?_set_self hn] at hv
    rw [List.getElem?_set_self (by rw [← h.len]; exact hn)] at hms
    injection hv with hv
    injection hms with hms
    subst hv hms
    exact ⟨B', C', hm.agree fun b h1 h2 => hb b (by omega)⟩
  · rw [List.getElem?_set_ne (fun e => hk e.symm)] at hv hms
    have hk2 := (List.getElem?_eq_some_iff.1 hms).1
    have hi : ivs[k]? = some (ivs[k]'(by rw [h.ilen]; exact hk2)) := List.getElem?_eq_getElem _
    obtain ⟨a, b, c⟩ := h.at_ k v ms _ hv hms hi
    have ho := h.out k _ g hi rfl
    exact ⟨_, _, c.agree fun b h1 h2 => hb b (by omega)⟩
theorem bt_notT {w : World} {e t : TypeId} {v : Value} (h : BT w e v) (he : e ≠ t) {g : Nat} {cs : Array Value} {fz : Nat × Nat} (hg : w.heap[g]? = some (Obj.cells cs t fz)) : ∀ b, v.ownBlock = some b → b ≠ g := fun b hb e' => by
  subst e'
  rcases h with h | ⟨g', cur, fz', h1, h2⟩
  · rw [h] at hb; cases hb
  · rw [h1] at hb
    injection hb with hb
    subst hb
    rw [hg] at h2
    injection h2 with e'
    injection e' with _ e3
    exact he e3.symm
theorem omd_setT {w : World} {B C g : Nat} {v u : Value} {us : List Value} {ms : List Mono} {cs : Array Value} {fz : Nat × Nat} (h : OMd w B C v us ms) (hg : w.heap[g]? = some (Obj.cells cs tMs fz)) : OMd (w.setCell ⟨g, 0, none⟩ u) B C v us ms :=
  ⟨h.own.of_block fun b hb => Below.heap_setCell w ⟨g, 0, none⟩ u b (bt_notT (OwnK.bt h.own) (by decide) hg b hb), h.lt, ⟨h.rows.1, fun k u' zs hu hz => (by
    obtain ⟨a, b⟩ := h.rows.2.1 k u' zs hu hz
    exact (show OI _ B C tI u' zs from ⟨⟨a.1.of_block fun b' hb => Below.heap_setCell w ⟨g, 0, none⟩ u b' (bt_notT a.1.bt (by decide) hg b' hb), a.2⟩, b⟩)), h.rows.2.2⟩, h.in_⟩
/-- part 0 grown, then replaced -/
theorem mrs_set2 {w w8 : World} {B C g n cu : Nat} {vs : List Value} {ivs : List (Nat × Nat)} {pss : List (List Mono)} {v0 v' : Value} {ms' : List Mono} {iv0 : Nat × Nat} {B' C' : Nat} (h : PFd w B C (.slice (some ⟨g, 0, none⟩) n cu) vs ivs pss) (hC : C ≤ w.heap.size) (hn : 0 < vs.length) (hi : ivs[0]? = some iv0) (hgr : w.grownBy w8 v0.ownBlock) (hv0 : ∀ b, v0.ownBlock = some b → iv0.1 ≤ b ∧ b < iv0.2)
    (hmg : ∀ u0 : Value, OMo (w8.setCell ⟨g, 0, none⟩ u0) B' C' v' ms') :
    MRS (w8.setCell ⟨g, 0, none⟩ v') (.slice (some ⟨g, 0, none⟩) n cu) (pss.set 0 ms') := by
  have hgl := h.lt g rfl
  have ho0 := h.out 0 iv0 g hi rfl
  have hown8 : Own w8 B tMs (.slice (some ⟨g, 0, none⟩) n cu) vs := h.own.of_block fun b hb => by
    have e : g = b := by simpa [Value.ownBlock] using hb
    subst e
    exact hgr.block g (by omega) (fun e => by have := hv0 g e.symm; omega)
  obtain ⟨u0, -, -, -, -, -, hown, -⟩ := hown8.storeAt (k := 0) hn v'
  have hb : ∀ b, b ≠ g → (w8.setCell ⟨g, 0, none⟩ v').heap[b]? = w8.heap[b]? := fun b hb => Below.heap_setCell w8 ⟨g, 0, none⟩ v' b hb
  refine mrs_of hown (by rw [List.length_set, List.length_set]; exact h.len) fun k v ms hv hms => ?_
  by_cases hk : k = 0
  · subst hk
    rw [List.getElem?_set_self hn] at hv
    rw [List.getElem?_set_self (by rw [← h.len]; exact hn)] at hms
    injection hv with hv
    injection hms with hms
    subst hv hms
    exact ⟨B', C', hmg _⟩
  · rw [List.getElem?_set_ne (fun e => hk e.symm)] at hv hms
    have hk2 := (List.getElem?_eq_some_iff.1 hms).1
    have hik : ivs[k]? = some (ivs[k]'(by rw [h.ilen]; exact hk2)) := List.getElem?_eq_getElem _
    obtain ⟨a, b, c⟩ := h.at_ k v ms _ hv hms hik
    have ho := h.out k _ g hik rfl
    have hord := h.ord 0 k iv0 _ (by omega) hi hik
    exact ⟨_, _, c.agree fun b' h1 h2 => (hb b' (by omega)).trans (hgr.block b' (by omega) (fun e => by have := hv0 b' e.symm; omega))⟩
set_option maxHeartbeats 16000000 in
theorem s_l13Spoil (w : World) (B p : Nat) (h : Src w B tSc p) :
    Calls Tryz.prog 28 #[at0 p] w fun e w' => ∃ v, e = .returned v ∧ SpR w' v ∧ w.grownBy w' (some p) := by
  have hpl := h.lt
  obtain ⟨w1, hw1⟩ : ∃ w1, w1 = w.alloc (.cells #[.int .i64 0, .slice none 0 0] tFq) := ⟨_, rfl⟩
  have HG1 := Lib.hid (show w.grownBy w1 (some p) by rw [hw1]; exact gof (below1 w _))
  have HS1 := Lib.hid (show Src w1 B tSc p by rw [hw1]; exact h.below (below1 w _))
  have K01 := Lib.hid (show Blk w1 w.heap.size tFq #[.int .i64 0, .slice none 0 0] by rw [hw1]; exact Blk.new _ _ _)
  have HZ1 := Lib.hid (show w1.heap.size = w.heap.size + 1 by rw [hw1]; simp)
  have HN := Lib.hid (s_l13Draw w1 B p HS1.out)
  clear h
  go_enter Tryz.func28, Tryz.ntmps28
  go_upto_region 1 with fail
  first | rw [← hw1] | skip
  clear hw1
  go_upto_region 2 with (go_at_call 35; go_loud (refine HN.out.mono ?_; rintro e w2 ⟨u, n, pss, rfl, hn1, hn3, hpl3, hps, hfd, hg, hs⟩; obtain ⟨Au, cu, hu0⟩ : ∃ Au cu, u = .slice Au n cu := (by obtain ⟨vs0, ivs0, hf0⟩ := hfd.2; obtain ⟨A0, c0, h0, -⟩ := hf0.own.cells.open_; exact ⟨A0, c0, by rw [h0, hf0.len, hpl3]⟩); subst hu0; have HFD := Lib.hid hfd; have HPS := Lib.hid hps; have HG2 := Lib.hid (gtrans HG1.out hg); have HS2 := Lib.hid hs; have K02 := Lib.hid (K01.out.of_grown hg (by omega)); have HZ2 := Lib.hid hg.size; clear hfd hps hg hs))
  obtain ⟨w3, hw3⟩ : ∃ w3, w3 = w2.alloc (.cells #[.int .i64 (n : Nat), .slice Au n cu] tFq) := ⟨_, rfl⟩
  obtain ⟨q, hq⟩ : ∃ q, q = w2.heap.size := ⟨_, rfl⟩
  have hwq : w.heap.size < q := by rw [hq]; exact K02.out.lt
  have K1 := Lib.hid (show Blk w3 q tFq #[.int .i64 (n : Nat), .slice Au n cu] by rw [hw3, hq]; exact Blk.new _ _ _)
  have K0 := Lib.hid (show Blk w3 w.heap.size tFq #[.int .i64 0, .slice none 0 0] by rw [hw3]; exact K02.out.alloc _)
  have HG3 := Lib.hid (show w.grownBy w3 (some p) by rw [hw3]; exact gtrans HG2.out (gof (below1 w2 _)))
  have HS3 := Lib.hid (show Src w3 B tSc p by rw [hw3]; exact HS2.out.below (below1 w2 _))
  have HF3 := Lib.hid (show PF w3 (w.heap.size + 1) q (.slice Au n cu) pss by rw [hw3, hq, ← HZ1.out]; exact (HFD.out.below (below1 w2 _)).2)
  have HZ3 := Lib.hid (show q + 1 ≤ w3.heap.size by rw [hw3, hq]; simp)
  rw [← hw3, ← hq]
  clear hw3 hq K02 HG2 HS2 HFD HN HG1 HS1 K01 HZ1 HZ2
  have HN := Lib.hid (s_l01Next w3 B p 40 HS3.out (by omega) (by omega))
  go_upto_region 3 with (go_at_call 36; go_loud (refine HN.out.mono ?_; rintro e w4 ⟨x, rfl, x0, x1, hg, hs⟩; have L1 := Lib.hid (K1.out.of_grown hg (by omega)); have L0 := Lib.hid (K0.out.of_grown hg (by omega)); have LF := Lib.hid (HF3.out.agree (Same.of_grown hg (by have := HZ3.out; omega) (by omega))); have LG := Lib.hid (gtrans HG3.out hg); have LS := Lib.hid hs; have LZ := Lib.hid (Nat.le_trans HZ3.out hg.size); clear hg hs))
  clear HN K1 K0 HG3 HS3 HF3 HZ3
  obtain ⟨vs, ivs, hfd⟩ := LF.out
  have HF := Lib.hid hfd
  have hvl : vs.length = n := by rw [hfd.len]; exact hpl3
  have HVL := Lib.hid hvl
  have HPL := Lib.hid hpl3
  have HM4 := Lib.hid hfd.mrs
  have k0 : w4.cell? ⟨q, 0, none⟩ = some (.int .i64 (n : Nat)) := L1.out.cell 0
  have k1 : w4.cell? ⟨q, 1, none⟩ = some (.slice Au n cu) := L1.out.cell 1
  have kf0 := L1.out.frozen 0
  have kf1 := L1.out.frozen 1
  have f0 : w4.cell? ⟨w.heap.size, 0, none⟩ = some (.int .i64 0) := L0.out.cell 0
  have f1 : w4.cell? ⟨w.heap.size, 1, none⟩ = some (.slice none 0 0) := L0.out.cell 1
  have f2 := L0.out.frozen 0
  have f3 := L0.out.frozen 1
  have hsz := LG.out.size
  clear hfd hvl hpl3 LF
  by_cases x3 : 3 < x
  · have e0 : (x == 0) = false := by simp; omega
    have e1 : (x == 1) = false := by simp; omega
    have e2 : (x == 2) = false := by simp; omega
    have e3 : (x == 3) = false := by simp; omega
    clear x0 x1 x3
    go_wp2_with fail
    have HMZ := HM4.out.fin L0.out (.int .i64 (n : Nat)) (.slice Au n cu)
    exact bodyPost_ret (v := .agg #[.int .i64 ((n : Nat) : Int), .slice Au n cu]) (by simp [results, Tryz.results28, go_sem, f0, f1]) rfl ⟨_, rfl, ⟨_, pss, ⟨_, rfl, by unfold In64; omega, HMZ⟩, fun ms hm => by have := (HPS.out ms hm).1; omega, fun ms hm m hm' => by have := ((HPS.out ms hm).2 m hm').2.1; omega⟩, gthen (gthen LG.out (gset w4 w.heap.size 0 _) (by rintro b ⟨⟩; exact Nat.le_refl _)) (gset _ w.heap.size 1 _) (by rintro b ⟨⟩; exact Nat.le_refl _)⟩
  · by_cases hx0 : x = 0
    · have e0 : (x == 0) = true := by simp [hx0]
      clear x0 x1 x3 hx0
      have hwn : wrap64 ((n : Int) + 1) = (n : Int) + 1 := w64_dr _ (by omega)
      have HL := Lib.hid (lit_keep w4 p [0, (n : Int) + 1, -1, 4] (by intro z hz; simp at hz; unfold In64; omega) (by simp) (by omega))
      have HSL := Lib.hid (LS.out.below (below1 w4 (.cells (ints [0, (n : Int) + 1, -1, 4]).toArray tI)))
      have HPK := Lib.hid (s_l01Pick _ B p _ [0, (n : Int) + 1, -1, 4] HSL.out HL.out (by simp) (by simp))
      clear HL HSL
      go_wp2_with (go_at_call 53; go_loud (refine HPK.out.mono ?_; rintro e w5 ⟨y, rfl, hy, hg, hs⟩; have hg5 := gtrans (gof (r := some p) (below1 w4 (.cells (ints [0, (n : Int) + 1, -1, 4]).toArray tI))) hg; have M1 := Lib.hid (L1.out.of_grown hg5 (by omega)); have M0 := Lib.hid (L0.out.of_grown hg5 (by omega)); have MF := Lib.hid (HF.out.agree (Same.of_grown hg5 (by have := LZ.out; omega) (by omega))); have MG := Lib.hid (gtrans LG.out hg5); have HY := Lib.hid (show In64 y by simp at hy; unfold In64; omega); have a0 : w5.cell? ⟨q, 0, none⟩ = some (.int .i64 (n : Nat)) := M1.out.cell 0; have a1 : w5.cell? ⟨q, 1, none⟩ = some (.slice Au n cu) := M1.out.cell 1; have af0 := M1.out.frozen 0; have b0 : w5.cell? ⟨w.heap.size, 0, none⟩ = some (.int .i64 0) := M0.out.cell 0; have b1 : w5.cell? ⟨w.heap.size, 1, none⟩ = some (.slice none 0 0) := M0.out.cell 1; have b2 := M0.out.frozen 0; have b3 := M0.out.frozen 1; clear hy hg hs hg5))
      have hq0 : w.heap.size ≠ q := by omega
      have K0 := M0.out.far (p := ⟨q, 0, none⟩) (by simp; omega) (.int .i64 y)
      have HMZ := (MF.out.mrs.set_ M1.out 0 (.int .i64 y)).fin K0 (.int .i64 y) (.slice Au n cu)
      exact bodyPost_ret (v := .agg #[.int .i64 y, .slice Au n cu]) (by simp [results, Tryz.results28, go_sem, b0, b1]) rfl ⟨_, rfl, ⟨_, pss, ⟨_, rfl, HY.out, HMZ⟩, fun ms hm => by have := (HPS.out ms hm).1; omega, fun ms hm m hm' => by have := ((HPS.out ms hm).2 m hm').2.1; omega⟩, gthen (gthen (gthen MG.out (gset w5 q 0 _) (by rintro b ⟨⟩; omega)) (gset _ w.heap.size 0 _) (by rintro b ⟨⟩; exact Nat.le_refl _)) (gset _ w.heap.size 1 _) (by rintro b ⟨⟩; exact Nat.le_refl _)⟩
    · by_cases hx3 : x = 3
      · have e0 : (x == 0) = false := by simp; omega
        have e1 : (x == 1) = false := by simp; omega
        have e2 : (x == 2) = false := by simp; omega
        have e3 : (x == 3) = true := by simp [hx3]
        clear x0 x1 x3 hx0 hx3
        have hq0 : w.heap.size ≠ q := by omega
        have hpu : (Value.slice Au n cu).ownBlock ≠ some q := fun e => by have h1 := HF.out.lt _ e; omega
        have h0u : (Value.slice Au n cu).ownBlock ≠ some w.heap.size := fun e => by have h1 := HF.out.own.ge _ e; omega
        have HB5 := Lib.hid (below1 w4 (.cells #[] tM))
        have HM5 := Lib.hid (show OMo (w4.alloc (.cells #[] tM)) w4.heap.size (w4.alloc (.cells #[] tM)).heap.size (.slice (some ⟨w4.heap.size, 0, none⟩) 0 0) [] from ⟨[], (OMd.newP w4).mono (Nat.le_refl _) (by simp)⟩)
        have HS5 := Lib.hid (show (w4.alloc (.cells #[] tM)).heap.size = w4.heap.size + 1 by simp)
        go_wp2_with (at_builtin; go_loud ((rw [← HS5.out]); refine wpList_app1 T_mrsP (W := w4.alloc (.cells #[] tM)) (B := w.heap.size + 1) (v := .slice Au n cu) (vs := vs) (HF.out.own.below HB5.out) (by have := HVL.out; omega) (by have := LZ.out; simp; omega) (by rfl) rfl (by rfl) (by rfl) (by rfl) ?_; intro v6 w6 hown6 hgr6; obtain ⟨A6, c6, hv6, -⟩ := hown6.cells.open_; rw [List.length_append, List.length_singleton, HVL.out] at hv6; subst hv6; have hp6 := HF.out.step (by have := LZ.out; omega) HB5.out HM5.out (Below.refl _ _) hown6 hgr6; have HP6 := Lib.hid hp6; have M1 := Lib.hid ((L1.out.below HB5.out L1.out.lt).growP hgr6 hpu); have M0 := Lib.hid ((L0.out.below HB5.out L0.out.lt).growP hgr6 h0u); have MG := Lib.hid (gthen (gtrans LG.out (gof HB5.out)) hgr6.1 (fun b hb => by have h1 := HF.out.own.ge _ hb; omega)); have a0 : w6.cell? ⟨q, 0, none⟩ = some (.int .i64 (n : Nat)) := M1.out.cell 0; have a1 : w6.cell? ⟨q, 1, none⟩ = some (.slice Au n cu) := M1.out.cell 1; have af1 := M1.out.frozen 1; have b0 : w6.cell? ⟨w.heap.size, 0, none⟩ = some (.int .i64 0) := M0.out.cell 0; have b1 : w6.cell? ⟨w.heap.size, 1, none⟩ = some (.slice none 0 0) := M0.out.cell 1; have b2 := M0.out.frozen 0; have b3 := M0.out.frozen 1; clear hown6 hgr6 hp6))
        have K0 := M0.out.far (p := ⟨q, 1, none⟩) (by simp; omega) (.slice A6 (n + 1) c6)
        have HMZ := (HP6.out.mrs.set_ M1.out 1 (.slice A6 (n + 1) c6)).fin K0 (.int .i64 (n : Nat)) (.slice A6 (n + 1) c6)
        exact bodyPost_ret (v := .agg #[.int .i64 ((n : Nat) : Int), .slice A6 (n + 1) c6]) (by simp [results, Tryz.results28, go_sem, b0, b1]) rfl ⟨_, rfl, ⟨_, pss ++ [[]], ⟨_, rfl, by unfold In64; omega, HMZ⟩, fun ms hm => by
            rcases List.mem_append.1 hm with hm | hm
            · have := (HPS.out ms hm).1; omega
            · rw [List.mem_singleton.1 hm]; simp, fun ms hm m hm' => by
            rcases List.mem_append.1 hm with hm | hm
            · have := ((HPS.out ms hm).2 m hm').2.1; omega
            · rw [List.mem_singleton.1 hm] at hm'; simp at hm'⟩, gthen (gthen (gthen MG.out (gset w6 q 1 _) (by rintro b ⟨⟩; omega)) (gset _ w.heap.size 0 _) (by rintro b ⟨⟩; exact Nat.le_refl _)) (gset _ w.heap.size 1 _) (by rintro b ⟨⟩; exact Nat.le_refl _)⟩
      · have e0 : (x == 0) = false := by simp; omega
        have hq0 : w.heap.size ≠ q := by omega
        have hvp : 0 < vs.length := by have := HVL.out; omega
        obtain ⟨g, hAu⟩ : ∃ g, Au = some ⟨g, 0, none⟩ := by
          rcases HF.out.own.cases with ⟨-, he⟩ | ⟨g, cap, cur, he, -⟩
          · rw [he] at hvp; simp at hvp
          · simp only [Value.slice.injEq] at he
            exact ⟨g, he.1⟩
        subst hAu
        have hgB : w.heap.size + 1 ≤ g := HF.out.own.ge g rfl
        have hgC : g < q := HF.out.lt g rfl
        obtain ⟨v0, hv0, hg0, hgf, -, -, -, -⟩ := HF.out.own.storeAt (k := 0) hvp (.int .i64 0)
        have hni : (0 : Int) < (n : Int) := by omega
        by_cases hx2 : x = 2
        · have e1 : (x == 1) = false := by simp; omega
          have e2 : (x == 2) = true := by simp [hx2]
          clear x0 x1 x3 hx0 hx3 hx2
          obtain ⟨E, hE⟩ : ∃ E, E = w4.heap.size := ⟨_, rfl⟩
          have hqE : q < E := by have := LZ.out; omega
          have hnn : n ≤ 3 := hn3
          go_upto_region 9 with (at_make; refine wpList_mk rfl _ _ _ rfl _ _ _ T_int n _ rfl rfl rfl (by omega) _ ?_; intro w5 hown hb hs1; have HP := Lib.hid (show OwnInts w5 E tI _ (List.replicate n 0) from by rw [hE]; exact ⟨by rw [show ints (List.replicate n (0 : Int)) = List.replicate n (Value.int .i64 0) by simp [ints]]; exact hown, fun z hz => by rw [(List.mem_replicate.1 hz).2]; unfold In64; omega⟩); have HB5 := Lib.hid hb; clear hown hb)
          rw [← hE] at HP ⊢
          have hE5 : E ≤ w5.heap.size := by rw [hE]; exact HB5.out.size
          have HEX := Lib.hid hE
          have HL := Lib.hid (lit_keep w5 p [4, -1, 1099511627776] (by intro z hz; simp at hz; unfold In64; omega) (by simp) (by omega))
          have HSL := Lib.hid ((LS.out.below HB5.out).below (below1 w5 (.cells (ints [4, -1, 1099511627776]).toArray tI)))
          have HPK := Lib.hid (s_l01Pick _ B p _ [4, -1, 1099511627776] HSL.out HL.out (by simp) (by simp))
          clear hE HL HSL k0 k1 kf0 kf1 f0 f1 f2 f3 hg0 hgf
          go_upto_region 10 with (go_at_call 53; go_loud (refine HPK.out.mono ?_; rintro e w6 ⟨y, rfl, hy, hg, hs⟩; have hg56 := gtrans (gof (r := some p) (below1 w5 (.cells (ints [4, -1, 1099511627776]).toArray tI))) hg; have hg6 := gtrans (gof (r := some p) HB5.out) hg56; have HG6 := Lib.hid hg6; have hy64 : In64 y := (by simp at hy; unfold In64; omega); obtain ⟨hu0', hfr, ho2, hg2⟩ := (HP.out.of_grown hg56 (by omega)).setAt (k := 0) (z := y) (by rw [List.length_replicate]; omega) hy64; obtain ⟨y0, hy0⟩ := hu0'; have HO2 := Lib.hid ho2; have HG2 := Lib.hid hg2; clear ho2 hg2 hg hs hy hg6 hg56 hy64))
          obtain ⟨w7, hw7⟩ : ∃ w7, w7 = w6.setCell ⟨E, 0, none⟩ (.int .i64 y) := ⟨_, rfl⟩
          have hg7 : w4.grownBy w7 (some p) := by rw [hw7]; exact gthen HG6.out HG2.out (by rintro b ⟨⟩; rw [HEX.out]; exact Nat.le_refl _)
          have NP := Lib.hid (show OwnInts w7 E tI (.slice (some ⟨E, 0, none⟩) n n) ((List.replicate n 0).set 0 y) by rw [hw7]; exact HO2.out)
          rw [← hw7]
          have M1 := Lib.hid (L1.out.of_grown hg7 (by omega))
          have M0 := Lib.hid (L0.out.of_grown hg7 (by omega))
          have MF := Lib.hid (HF.out.agree (Same.of_grown hg7 (by have := LZ.out; omega) (by omega)))
          have MG := Lib.hid (gtrans LG.out hg7)
          have hE7 : E ≤ w7.heap.size := by rw [HEX.out]; exact hg7.size
          clear hw7 hg7 HO2 HG2 HG6 HP HPK HB5 hy0 hfr
          obtain ⟨w8, hw8⟩ : ∃ w8, w8 = w7.alloc (.cells #[.int .i64 1, .slice (some ⟨E, 0, none⟩) n n] tM) := ⟨_, rfl⟩
          have N1 := Lib.hid (show Blk w8 q tFq #[.int .i64 (n : Nat), .slice (some ⟨g, 0, none⟩) n cu] by rw [hw8]; exact M1.out.alloc _)
          have N0 := Lib.hid (show Blk w8 w.heap.size tFq #[.int .i64 0, .slice none 0 0] by rw [hw8]; exact M0.out.alloc _)
          have NF := Lib.hid (show PFd w8 (w.heap.size + 1) q _ vs ivs pss by rw [hw8]; exact MF.out.agree (Same.of_below (below1 w7 _) (by omega)))
          have NM := Lib.hid (show OMo w8 E w8.heap.size (.slice (some ⟨w7.heap.size, 0, none⟩) 1 1) [(1, (List.replicate n 0).set 0 y)] by rw [hw8]; exact omo_lit NP.out hE7 (by unfold In64; omega))
          have NG := Lib.hid (show w.grownBy w8 (some p) by rw [hw8]; exact gtrans MG.out (gof (below1 w7 _)))
          obtain ⟨v1, -, hg0, hgf, -, -, -, -⟩ := NF.out.own.storeAt (k := 0) hvp (.int .i64 0)
          have k1 : w7.cell? ⟨q, 1, none⟩ = some (.slice (some ⟨g, 0, none⟩) n cu) := M1.out.cell 1
          have b0 : w8.cell? ⟨q, 0, none⟩ = some (.int .i64 (n : Nat)) := N1.out.cell 0
          have b1 : w8.cell? ⟨q, 1, none⟩ = some (.slice (some ⟨g, 0, none⟩) n cu) := N1.out.cell 1
          have c0 : w8.cell? ⟨w.heap.size, 0, none⟩ = some (.int .i64 0) := N0.out.cell 0
          have c1 : w8.cell? ⟨w.heap.size, 1, none⟩ = some (.slice none 0 0) := N0.out.cell 1
          have c2 := N0.out.frozen 0
          have c3 := N0.out.frozen 1
          have hgq : g ≠ q := by omega
          have hgr : g ≠ w.heap.size := by omega
          rw [hw8] at hg0 hgf b0 b1 c0 c1 c2 c3
          go_wp2_with fail
          rw [← hw8]
          have d0 : w8.cell? ⟨w.heap.size, 0, none⟩ = some (.int .i64 0) := N0.out.cell 0
          have d1 : w8.cell? ⟨w.heap.size, 1, none⟩ = some (.slice none 0 0) := N0.out.cell 1
          have K0 := N0.out.far (p := ⟨g, 0, none⟩) (by simp; omega) (.slice (some ⟨w7.heap.size, 0, none⟩) 1 1)
          have HMZ := (mrs_set NF.out hvp NM.out (.inr (by omega))).fin K0 (.int .i64 (n : Nat)) (.slice (some ⟨g, 0, none⟩) n cu)
          exact bodyPost_ret (v := .agg #[.int .i64 ((n : Nat) : Int), .slice (some ⟨g, 0, none⟩) n cu]) (by simp [results, Tryz.results28, go_sem, d0, d1, hgr]) rfl ⟨_, rfl, ⟨_, _, ⟨_, rfl, by unfold In64; omega, HMZ⟩, fun ms hm => by
            rcases List.mem_or_eq_of_mem_set hm with hm | rfl
            · have := (HPS.out ms hm).1; omega
            · simp, fun ms hm m hm' => by
            rcases List.mem_or_eq_of_mem_set hm with hm | rfl
            · have := ((HPS.out ms hm).2 m hm').2.1; omega
            · rw [List.mem_singleton.1 hm']; simp; omega⟩, gthen (gthen (gthen NG.out (gset w8 g 0 _) (by rintro b ⟨⟩; omega)) (gset _ w.heap.size 0 _) (by rintro b ⟨⟩; exact Nat.le_refl _)) (gset _ w.heap.size 1 _) (by rintro b ⟨⟩; exact Nat.le_refl _)⟩
        · have hx1 : x = 1 := by omega
          have e1 : (x == 1) = true := by simp [hx1]
          have hnN : 0 < n := by omega
          clear x0 x1 x3 hx0 hx3 hx2 hx1
          obtain ⟨ms0, hms0⟩ : ∃ ms0, pss[0]? = some ms0 := ⟨_, List.getElem?_eq_getElem (by rw [HPL.out]; omega)⟩
          obtain ⟨iv0, hiv0⟩ : ∃ iv, ivs[0]? = some iv := ⟨_, List.getElem?_eq_getElem (by rw [HF.out.ilen, HPL.out]; omega)⟩
          obtain ⟨hi1, hi2, us0, hd0⟩ := HF.out.at_ 0 v0 ms0 iv0 hv0 hms0 hiv0
          obtain ⟨A0, cc0, hv00, -⟩ := hd0.open_
          subst hv00
          have hout := HF.out.out 0 iv0 g hiv0 rfl
          have hl0 : ms0.length ≤ 3 := (HPS.out ms0 (List.mem_of_getElem? hms0)).1
          have HD0 := Lib.hid hd0
          have HMS0 := Lib.hid hms0
          have HIV0 := Lib.hid hiv0
          have HIV := Lib.hid (And.intro hi1 hi2)
          have HOUT := Lib.hid hout
          have HG0 := Lib.hid hg0
          have QQ := Lib.hid (show ∀ W, w4.grownBy W (some p) → (W.cell? ⟨q, 0, none⟩ = some (.int .i64 (n : Nat)) ∧ W.cell? ⟨q, 1, none⟩ = some (.slice (some ⟨g, 0, none⟩) n cu)) ∧ W.cell? ⟨g, 0, none⟩ = some (.slice A0 ms0.length cc0) from fun W hg => by
            have hb := L1.out.of_grown hg (by omega)
            have hbl : W.heap[g]? = w4.heap[g]? := hg.block g (by have := LZ.out; omega) (fun e => by injection e with e; omega)
            refine ⟨⟨hb.cell 0, hb.cell 1⟩, ?_⟩
            rw [← HG0.out]
            unfold World.cell?
            simp only [hbl])
          have HL := Lib.hid (lit_keep w4.drew p [0, 10007, 1] (by intro z hz; simp at hz; unfold In64; omega) (by simp) (by show p < w4.heap.size; omega))
          have HSL := Lib.hid ((LS.out.below (Below.refl w4.heap.size w4).drew).below (below1 w4.drew (.cells (ints [0, 10007, 1]).toArray tI)))
          have HPK := Lib.hid (s_l01Pick _ B p _ [0, 10007, 1] HSL.out HL.out (by simp) (by simp))
          have HGD := Lib.hid (show w4.grownBy (w4.drew.alloc (.cells (ints [0, 10007, 1]).toArray tI)) (some p) from gof ((Below.refl w4.heap.size w4).drew.trans (below1 w4.drew _)))
          clear HL HSL hd0 hms0 hi1 hi2 hout k0 k1 kf0 kf1 f0 f1 f2 f3 hg0 hiv0
          go_upto_region 6 with fail
          refine AnyT.begin (k := 16) (S := fun b w' => (w'.cell? ⟨q, 0, none⟩ = some (.int .i64 (n : Nat)) ∧ w'.cell? ⟨q, 1, none⟩ = some (.slice (some ⟨g, 0, none⟩) n cu)) ∧ (b = false → w'.cell? ⟨g, 0, none⟩ = some (.slice A0 ms0.length cc0))) (by kernel_rfl) ?_
          have hS : (fun (b : Bool) (w' : World) => (w'.cell? ⟨q, 0, none⟩ = some (.int .i64 (n : Nat)) ∧ w'.cell? ⟨q, 1, none⟩ = some (.slice (some ⟨g, 0, none⟩) n cu)) ∧ (b = false → w'.cell? ⟨g, 0, none⟩ = some (.slice A0 ms0.length cc0))) false w4.drew := ⟨(QQ.out w4 (World.grownBy.refl _ _)).1, fun _ => (QQ.out w4 (World.grownBy.refl _ _)).2⟩
          refine AnyT.take0 (i := 0) (v := ?_) rfl (by kernel_rfl) (by kernel_rfl) (by kernel_rfl) (by decide) (fun _ _ _ h => h) hS (Or.inl ⟨by first | kernel_rfl | rfl, ?_⟩) ?_
          rotate_left
          · rintro w' ⟨b, hw'⟩; obtain ⟨hw1, -⟩ := hw'; (try (obtain ⟨hw1, hw2⟩ := hw1)); (try (obtain ⟨hw2, hw3⟩ := hw2)); (try (obtain ⟨hw3, hw4⟩ := hw3)); go_simp; try with_reducible rfl
          try simp only [Act.put, List.setIfInBounds_toArray, List.set_cons_zero, List.set_cons_succ]
          refine AnyT.take0 (i := 1) (v := ?_) rfl (by kernel_rfl) (by kernel_rfl) (by kernel_rfl) (by decide) (fun _ _ _ h => h) hS (Or.inl ⟨by first | kernel_rfl | rfl, ?_⟩) ?_
          rotate_left
          · rintro w' ⟨b, hw'⟩; obtain ⟨hw1, -⟩ := hw'; (try (obtain ⟨hw1, hw2⟩ := hw1)); (try (obtain ⟨hw2, hw3⟩ := hw2)); (try (obtain ⟨hw3, hw4⟩ := hw3)); go_simp; try with_reducible rfl
          try simp only [Act.put, List.setIfInBounds_toArray, List.set_cons_zero, List.set_cons_succ]
          refine AnyT.take0 (i := 2) (v := ?_) rfl (by kernel_rfl) (by kernel_rfl) (by kernel_rfl) (by decide) (fun _ _ _ h => h) hS (Or.inl ⟨by first | kernel_rfl | rfl, ?_⟩) ?_
          rotate_left
          · rintro w' ⟨b, hw'⟩; obtain ⟨hw1, -⟩ := hw'; (try (obtain ⟨hw1, hw2⟩ := hw1)); (try (obtain ⟨hw2, hw3⟩ := hw2)); (try (obtain ⟨hw3, hw4⟩ := hw3)); go_simp; try with_reducible rfl
          try simp only [Act.put, List.setIfInBounds_toArray, List.set_cons_zero, List.set_cons_succ]
          refine AnyT.take0 (i := 3) (v := ?_) rfl (by kernel_rfl) (by kernel_rfl) (by kernel_rfl) (by decide) (fun _ _ _ h => h) hS (Or.inl ⟨by first | kernel_rfl | rfl, ?_⟩) ?_
          rotate_left
          · rintro w' ⟨b, hw'⟩; obtain ⟨hw1, -⟩ := hw'; (try (obtain ⟨hw1, hw2⟩ := hw1)); (try (obtain ⟨hw2, hw3⟩ := hw2)); (try (obtain ⟨hw3, hw4⟩ := hw3)); go_simp; try with_reducible rfl
          try simp only [Act.put, List.setIfInBounds_toArray, List.set_cons_zero, List.set_cons_succ]
          refine AnyT.take0 (i := 4) (v := ?_) rfl (by kernel_rfl) (by kernel_rfl) (by kernel_rfl) (by decide) (fun _ _ _ h => h) hS (Or.inl ⟨by first | kernel_rfl | rfl, ?_⟩) ?_
          rotate_left
          · intro w' hw'; clear hw'; go_simp; try with_reducible rfl
          try simp only [Act.put, List.setIfInBounds_toArray, List.set_cons_zero, List.set_cons_succ]
          refine AnyT.take1 (i := 5) (v := ?_) rfl (by kernel_rfl) (by kernel_rfl) (by kernel_rfl) (by decide) (by kernel_rfl) rfl (fun _ _ _ h => h) hS (Or.inl ⟨by first | kernel_rfl | rfl, ?_⟩) ?_
          rotate_left
          · intro w' hw'; have hw3 := hw'.2 rfl; go_simp; try with_reducible rfl
          try simp only [Act.put, List.setIfInBounds_toArray, List.set_cons_zero, List.set_cons_succ]
          refine AnyT.take0 (i := 6) (v := ?_) rfl (by kernel_rfl) (by kernel_rfl) (by kernel_rfl) (by decide) (fun _ _ _ h => h) hS (Or.inl ⟨by first | kernel_rfl | rfl, ?_⟩) ?_
          rotate_left
          · intro w' hw'; clear hw'; go_simp; try with_reducible rfl
          try simp only [Act.put, List.setIfInBounds_toArray, List.set_cons_zero, List.set_cons_succ]
          refine AnyT.take0 (i := 9) (v := ?_) rfl (by kernel_rfl) (by kernel_rfl) (by kernel_rfl) (by decide) (fun _ _ _ h => h) hS (Or.inl ⟨by first | kernel_rfl | rfl, ?_⟩) ?_
          rotate_left
          · rintro w' ⟨b, hw'⟩; obtain ⟨hw1, -⟩ := hw'; (try (obtain ⟨hw1, hw2⟩ := hw1)); (try (obtain ⟨hw2, hw3⟩ := hw2)); (try (obtain ⟨hw3, hw4⟩ := hw3)); go_simp; try with_reducible rfl
          try simp only [Act.put, List.setIfInBounds_toArray, List.set_cons_zero, List.set_cons_succ]
          refine AnyT.take0 (i := 10) (v := ?_) rfl (by kernel_rfl) (by kernel_rfl) (by kernel_rfl) (by decide) (fun _ _ _ h => h) hS (Or.inl ⟨by first | kernel_rfl | rfl, ?_⟩) ?_
          rotate_left
          · rintro w' ⟨b, hw'⟩; obtain ⟨hw1, -⟩ := hw'; (try (obtain ⟨hw1, hw2⟩ := hw1)); (try (obtain ⟨hw2, hw3⟩ := hw2)); (try (obtain ⟨hw3, hw4⟩ := hw3)); go_simp; try with_reducible rfl
          try simp only [Act.put, List.setIfInBounds_toArray, List.set_cons_zero, List.set_cons_succ]
          refine AnyT.go (rs := [7]) (by kernel_rfl) (by simp) ?_
          refine AllT.cons rfl (fun K hK => ?_) AllT.nil
          go_simp
          refine hK.out _ _ ⟨(QQ.out _ HGD.out).1, fun _ => (QQ.out _ HGD.out).2⟩ (fun hS => ?_)
          clear hK
          try simp only [Act.put, List.setIfInBounds_toArray, List.set_cons_zero, List.set_cons_succ]
          refine AnyT.go (rs := [8]) (by kernel_rfl) (by simp) ?_
          refine AllT.cons rfl (fun K hK => ?_) AllT.nil
          go_simp
          refine HPK.out.mono ?_
          rintro e w5 ⟨y, rfl, hy, hg, hs⟩
          have HG5 := Lib.hid (gtrans HGD.out hg)
          have HY := Lib.hid (show In64 y by simp at hy; unfold In64; omega)
          refine hK.out _ _ ⟨(QQ.out _ HG5.out).1, fun _ => (QQ.out _ HG5.out).2⟩ (fun hS => ?_)
          clear hK hy hg hs
          try simp only [Act.put, List.setIfInBounds_toArray, List.set_cons_zero, List.set_cons_succ]
          refine AnyT.go (rs := [11]) (by kernel_rfl) (by simp) ?_
          refine AllT.cons rfl (fun K hK => ?_) AllT.nil
          go_simp
          refine (s_l13OneR w5 n hn1 hn3).mono ?_
          rintro e w6 ⟨A6, c6, zs, rfl, hzl, ho6, hb6⟩
          have HG6 := Lib.hid (gtrans HG5.out (gof hb6))
          have HZL := Lib.hid hzl
          have HO6 := Lib.hid ho6
          have HB6 := Lib.hid hb6
          refine hK.out _ _ ⟨(QQ.out _ HG6.out).1, fun _ => (QQ.out _ HG6.out).2⟩ (fun hS => ?_)
          clear hK hzl ho6 hb6
          try simp only [Act.put, List.setIfInBounds_toArray, List.set_cons_zero, List.set_cons_succ]
          refine AnyT.take0 (i := 12) (v := ?_) rfl (by kernel_rfl) (by kernel_rfl) (by kernel_rfl) (by decide) (fun _ _ _ h => h) hS (Or.inl ⟨by first | kernel_rfl | rfl, ?_⟩) ?_
          rotate_left
          · intro w' hw'; clear hw'; go_simp; try with_reducible rfl
          try simp only [Act.put, List.setIfInBounds_toArray, List.set_cons_zero, List.set_cons_succ]
          refine AnyT.go (rs := [13]) (by kernel_rfl) (by simp) ?_
          refine AllT.cons rfl (fun K hK => ?_) AllT.nil
          go_simp
          have HG7 := Lib.hid (gtrans HG6.out (gof (below1 w6 (.cells #[.int .i64 y, .slice A6 n c6] tM))))
          refine hK.out _ _ ⟨(QQ.out _ HG7.out).1, fun _ => (QQ.out _ HG7.out).2⟩ (fun hS => ?_)
          clear hK
          try simp only [Act.put, List.setIfInBounds_toArray, List.set_cons_zero, List.set_cons_succ]
          have HW7 := Lib.hid (show p < iv0.1 by have := HIV.out.1; omega)
          have HS7 := Lib.hid (show iv0.2 ≤ w4.heap.size by have := HIV.out.2; have := LZ.out; omega)
          have HD7 := Lib.hid ((HD0.out.agree (Same.of_grown HG7.out HS7.out HW7.out)).mono HIV.out.1 (Nat.le_refl _))
          have hs7 := HG7.out.size
          have HS74 := Lib.hid (show iv0.2 ≤ (w6.alloc (.cells #[.int .i64 y, .slice A6 n c6] tM)).heap.size from Nat.le_trans HS7.out hs7)
          have HIL := Lib.hid (HF.out.le)
          refine AnyT.go (rs := [14]) (by kernel_rfl) (by simp) ?_
          refine AllT.cons rfl (fun K hK => ?_) AllT.nil
          refine step_app1K T_monoP (B := w.heap.size + 1) (v := .slice A0 ms0.length cc0) (css := List.zipWith cellM us0 ms0) (W := w6.alloc (.cells #[.int .i64 y, .slice A6 n c6] tM)) (c := cellM (.slice A6 n c6) (y, zs)) (ad := ⟨w6.heap.size, 0, none⟩) HD7.out.own (by rw [HD7.out.zlen]; omega) (by have h1 := HIV.out; have h2 := LZ.out; omega) rfl (by intro u hu; simp [cellM] at hu; rcases hu with rfl | rfl <;> rfl) (lit_cells w6 tM (cellM (.slice A6 n c6) (y, zs)) #[.int .i64 y, .slice A6 n c6] rfl) rfl (by rfl) (by rfl) (by rfl) ?_
          intro v8 w8 hown8 hgr8
          obtain ⟨A8, c8, hv8, -⟩ := OwnK.open_ hown8
          rw [List.length_append, List.length_singleton, HD7.out.zlen] at hv8
          subst hv8
          have hs5 := HG5.out.size
          have hu7 : OwnInts (w6.alloc (.cells #[.int .i64 y, .slice A6 n c6] tM)) (w.heap.size + 1) tI (.slice A6 n c6) zs := (HO6.out.below (below1 w6 _)).mono (by have := LZ.out; omega)
          have hap : ∀ (k : Nat) (x : Value), us0[k]? = some x → Apart x (.slice A6 n c6) := fun k x hx => by
            have hz : (ms0.map (·.2))[k]? = some ((ms0.map (·.2))[k]'(by rw [← HD0.out.rows.1]; exact (List.getElem?_eq_some_iff.1 hx).1)) := List.getElem?_eq_getElem _
            have ho := HD0.out.rows.2.1 k x _ hx hz
            exact apart_of_lt (B := w4.heap.size) (fun b hb => Nat.lt_of_lt_of_le (ho.2 b hb) HS7.out) (fun b hb => Nat.le_trans hs5 (HO6.out.1.ge b hb))
          have hd8 := HD7.out.pushP' (m := (y, zs)) HS74.out (Below.refl _ _) hu7 hap HY.out hown8 hgr8
          have hv0r : ∀ b, (Value.slice A0 ms0.length cc0).ownBlock = some b → iv0.1 ≤ b ∧ b < iv0.2 := fun b hb => ⟨HD0.out.own.ge b hb, HD0.out.lt b hb⟩
          have HF7 := Lib.hid (HF.out.agree (Same.of_grown HG7.out (by have := LZ.out; omega) (by omega)))
          have P1 := Lib.hid ((L1.out.of_grown HG7.out (by omega)).growP hgr8 (fun e => by have h1 := hv0r _ e; have h2 := HIV.out.2; omega))
          have P0 := Lib.hid ((L0.out.of_grown HG7.out (by omega)).growP hgr8 (fun e => by have h1 := hv0r _ e; have h2 := HIV.out.1; omega))
          have hgb : w8.heap[g]? = (w6.alloc (.cells #[.int .i64 y, .slice A6 n c6] tM)).heap[g]? := hgr8.1.block g (by have := LZ.out; omega) (fun e => by have h1 := hv0r _ e.symm; have h2 := HOUT.out; omega)
          have PO := Lib.hid (HF7.out.own.of_block (w' := w8) (fun b hb => by
            have e : g = b := by simpa [Value.ownBlock] using hb
            rw [← e]
            exact hgb))
          obtain ⟨v9, hv9, hgc, hgf8, -, -, -, -⟩ := PO.out.storeAt (k := 0) hvp (.int .i64 0)
          have hgc8 : w8.cell? ⟨g, 0, none⟩ = some (.slice A0 ms0.length cc0) := by
            rw [hgc]; exact congrArg some (Option.some.inj (hv9.symm.trans hv0))
          have HD8 := Lib.hid hd8
          have HGB := Lib.hid (show ∃ cs fz, w8.heap[g]? = some (Obj.cells cs tMs fz) from by
            rcases PO.out.bt with h0 | ⟨g', cur, fz, h1, h2⟩
            · simp [Value.ownBlock] at h0
            · have e : g = g' := by simpa [Value.ownBlock] using h1
              rw [← e] at h2
              exact ⟨_, _, h2⟩)
          have HGR8 := Lib.hid hgr8
          have P1c0 := P1.out.cell 0
          have HV0R := Lib.hid hv0r
          refine hK.out _ _ ⟨⟨P1.out.cell 0, P1.out.cell 1⟩, fun _ => hgc8⟩ (fun hS => ?_)
          clear hK hd8 hown8 hgr8 hap hu7 hgb hgc hv9 hv0r P1c0
          try simp only [Act.put, List.setIfInBounds_toArray, List.set_cons_zero, List.set_cons_succ]
          refine AnyT.take0 (i := 15) (v := ?_) rfl (by kernel_rfl) (by kernel_rfl) (by kernel_rfl) (by decide) (fun _ _ _ h => h) hS (Or.inl ⟨by first | kernel_rfl | rfl, ?_⟩) ?_
          rotate_left
          · intro w' hw'; clear hw'; go_simp; try with_reducible rfl
          try simp only [Act.put, List.setIfInBounds_toArray, List.set_cons_zero, List.set_cons_succ]
          refine AnyT.go (rs := [16]) (by kernel_rfl) (by simp) ?_
          refine AllT.cons rfl (fun K hK => ?_) AllT.nil
          go_simp
          have hgq : g ≠ q := by omega
          have hgr' : g ≠ w.heap.size := by omega
          have R1 := Lib.hid (P1.out.far (p := ⟨g, 0, none⟩) (by simp; omega) (.slice A8 (ms0.length + 1) c8))
          have R0 := Lib.hid (P0.out.far (p := ⟨g, 0, none⟩) (by simp; omega) (.slice A8 (ms0.length + 1) c8))
          refine hK.out _ _ ⟨⟨R1.out.cell 0, R1.out.cell 1⟩, fun e => by cases e⟩ (fun hS => ?_)
          clear hK hS
          have b0 := R1.out.cell 0
          have b1 := R1.out.cell 1
          have d0 := R0.out.cell 0
          have d1 := R0.out.cell 1
          have d2 := R0.out.frozen 0
          have d3 := R0.out.frozen 1
          have HZZ := Lib.hid (show w.grownBy (w8.setCell ⟨g, 0, none⟩ (.slice A8 (ms0.length + 1) c8)) (some p) from gthen (gthen (gtrans LG.out HG7.out) HGR8.out.1 (fun b hb => by have h1 := HV0R.out _ hb; have h2 := HIV.out.1; omega)) (gset w8 g 0 _) (by rintro b ⟨⟩; omega))
          have HMS := Lib.hid (mrs_set2 (v0 := .slice A0 ms0.length cc0) (v' := .slice A8 (ms0.length + 1) c8) (ms' := ms0 ++ [(y, zs)]) HF7.out (by have := HG7.out.size; have := LZ.out; omega) hvp HIV0.out HGR8.out.1 HV0R.out (fun u0 => ⟨_, omd_setT HD8.out HGB.out.choose_spec.choose_spec⟩))
          refine AnyT.done (by kernel_rfl) ?_ _
          generalize w8.setCell ⟨g, 0, none⟩ (.slice A8 (ms0.length + 1) c8) = wz at R1 R0 HZZ HMS b0 b1 d0 d1 d2 d3 ⊢
          clear hgc8 hgf8
          go_wp2_with fail
          have HMZ := HMS.out.fin R0.out (.int .i64 (n : Nat)) (.slice (some ⟨g, 0, none⟩) n cu)
          exact bodyPost_ret (v := .agg #[.int .i64 ((n : Nat) : Int), .slice (some ⟨g, 0, none⟩) n cu]) (by simp [results, Tryz.results28, go_sem, d0, d1]) rfl ⟨_, rfl, ⟨_, _, ⟨_, rfl, by unfold In64; omega, HMZ⟩, fun ms hm => by
            rcases List.mem_or_eq_of_mem_set hm with hm | rfl
            · have := (HPS.out ms hm).1; omega
            · rw [List.length_append, List.length_singleton]; omega, fun ms hm m hm' => by
            rcases List.mem_or_eq_of_mem_set hm with hm | rfl
            · have := ((HPS.out ms hm).2 m hm').2.1; omega
            · rcases List.mem_append.1 hm' with h1 | h1
              · have := ((HPS.out ms0 (List.mem_of_getElem? HMS0.out)).2 m h1).2.1; omega
              · rw [List.mem_singleton.1 h1]; have := HZL.out; show zs.length ≤ 3; omega⟩, gthen (gthen HZZ.out (gset wz w.heap.size 0 _) (by rintro b ⟨⟩; exact Nat.le_refl _)) (gset _ w.heap.size 1 _) (by rintro b ⟨⟩; exact Nat.le_refl _)⟩
set_option maxHeartbeats 4000000 in
theorem s_DrawFieldText (w : World) (A : Option Addr) (N c : Nat) (hb : ByB w w.heap.size A N) (hN : N ≤ 4096) :
    Calls Tryz.prog 11 #[.slice A N c] w fun e w' => ∃ v n pss, e = .returned v ∧ FieldArg w' v n pss ∧ (∀ ms ∈ pss, ms.length ≤ 4) ∧ (∀ ms ∈ pss, ∀ m ∈ ms, m.2.length ≤ 3) ∧ Below w.heap.size w w' := by
  obtain ⟨w1, hw1⟩ : ∃ w1, w1 = w.alloc (.cells #[.int .i64 0, .slice none 0 0] tFq) := ⟨_, rfl⟩
  have HB1 := Lib.hid (show Below w.heap.size w w1 by rw [hw1]; exact below1 w _)
  have K01 := Lib.hid (show Blk w1 w.heap.size tFq #[.int .i64 0, .slice none 0 0] by rw [hw1]; exact Blk.new _ _ _)
  have hby : ByB w1 w1.heap.size A N := fun k hk => by
    obtain ⟨ad, z, rfl, a1, a2, z0, z1, hc⟩ := hb k hk
    refine ⟨ad, z, rfl, Nat.lt_of_lt_of_le a1 HB1.out.size, Nat.lt_of_lt_of_le a2 HB1.out.size, z0, z1, ?_⟩
    rw [HB1.out.cell (by rw [block_add]; exact a2)]
    exact hc
  have HFR := Lib.hid (s_l01From w1 A N c hby hN)
  clear hb hby
  go_enter Tryz.func11, Tryz.ntmps11
  go_upto_region 1 with fail
  first | rw [← hw1] | skip
  clear hw1
  go_wp2_with (first
    | (go_at_call 29; go_loud (refine HFR.out.mono ?_; rintro e w2 ⟨p, rfl, hs2, hb2⟩; have HS2 := Lib.hid hs2; have HB2 := Lib.hid (HB1.out.trans (hb2.mono HB1.out.size)); have K02 := Lib.hid (K01.out.below hb2 K01.out.lt); have hpg := hs2.ge; have hpl := hs2.lt; have hkl := K01.out.lt; clear hs2 hb2))
    | (go_at_call 28; go_loud (refine (s_l13Spoil w2 _ p HS2.out).mono ?_; rintro e w3 ⟨v, rfl, ⟨n, pss, ⟨vp, rfl, hn64, hm⟩, hl1, hl2⟩, hg⟩; obtain ⟨vs0, hc0, -, -⟩ := hm w3 (fun _ _ => rfl); obtain ⟨A0, cc0, hv0, -⟩ := hc0.open_; subst hv0; have HM := Lib.hid hm; have HN := Lib.hid hn64; have HL1 := Lib.hid hl1; have HL2 := Lib.hid hl2; have K03 := Lib.hid (K02.out.of_grown hg (by omega)); have HB3 := Lib.hid (HB2.out.grown hg HB2.out.size (fun k e => by injection e with e; have := HB1.out.size; omega)); have f0 := K03.out.cell 0; have f1 := K03.out.cell 1; have f2 := K03.out.frozen 0; have f3 := K03.out.frozen 1; clear hg hm hn64 hl1 hl2 hc0)))
  have HMZ := HM.out.fin K03.out (.int .i64 n) (.slice A0 vs0.length cc0)
  have c0 := Chg.refl w.heap.size (w.heap.size + 1) w3
  have c1' := c0.setCell (p := ⟨w.heap.size, 0, none⟩) (Nat.le_refl _) (by simp) (.int .i64 n)
  have c2' := c1'.setCell (p := ⟨w.heap.size, 1, none⟩) (Nat.le_refl _) (by simp) (.slice A0 vs0.length cc0)
  have hsz := c2'.size
  have hsb := HB3.out.size
  exact bodyPost_ret (v := .agg #[.int .i64 n, .slice A0 vs0.length cc0]) (by simp [results, Tryz.results11, go_sem, f0, f1]) rfl ⟨_, n, pss, rfl, ⟨_, rfl, HN.out, HMZ _ (fun _ _ => rfl)⟩, HL1.out, HL2.out, c2'.below HB3.out (Nat.le_refl _) (by omega)⟩
end Go.Proofs.YtnnfjjadehgmeaaGreatDoor

