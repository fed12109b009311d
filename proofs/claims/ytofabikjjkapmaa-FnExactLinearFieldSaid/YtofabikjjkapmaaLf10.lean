/- Walks of the reference: l13One, l13Put ahead of all. | Walk: LinearField of the program. | Walks of the reference: l13Linear, LinearField. -/
import Derived.Test.YtofabikjjkapmaaLf9
import Derived.Test.YtofabikjjkapmaaLf6
import Derived.Deep.CutRange
import Derived.Deep.CutBlock
import Derived.Deep.DeepCutAuto
set_option maxRecDepth 100000
set_option linter.unusedVariables false
set_option linter.unusedSimpArgs false
namespace Go.Proofs.Ytofabikjjkapmaa
open Go.RowKit Go.Sort Go.Shelf

theorem ints_unit (n i : Nat) (hi : i < n) : (List.replicate n (Value.int .i64 0)).set i (.int .i64 1) = ints (unitV n i) := by
  apply List.ext_getElem
  · simp [ints, unitV]
  · intro j h1 h2
    simp only [ints, unitV, List.getElem_map, List.getElem_range, List.getElem_set, List.getElem_replicate]
    by_cases h : i = j
    · subst h; simp
    · rw [if_neg h, if_neg (fun e => h e.symm)]
theorem unitV_in (n i : Nat) : ∀ z ∈ unitV n i, In64 z := by
  intro z hz
  unfold unitV at hz
  obtain ⟨k, -, rfl⟩ := List.mem_map.1 hz
  unfold In64
  split <;> omega
set_option maxHeartbeats 1000000 in
theorem s_l13One (w : World) (n k : Nat) (hk : k < n) (hn : n ≤ 1000) :
    Calls Try.prog 43 #[.int .i64 (n : Nat), .int .i64 (k : Nat)] w fun e w' => ∃ r, e = .returned r ∧ OwnInts w' w.heap.size tI r (unitV n k) ∧ Below w.heap.size w w' := by
  have hki : (k : Int) < (n : Int) := by omega
  go_enter Try.func43, Try.ntmps43
  go_wp2_with (at_make; refine wpList_mk rfl _ _ _ rfl _ _ _ T_int n _ rfl rfl rfl (by omega) _ ?_; intro w1 hown hb hs1; obtain ⟨c0, c1, c2, c3, -, -, c6, -⟩ := Own.storeAt hown (k := k) (by simpa using hk) (.int .i64 1); have HOWN := Lib.hid c6; clear c6; have HB1 := Lib.hid hb; clear hown hb)
  go_ret
  exact ⟨_, rfl, ⟨by rw [← ints_unit n k hk]; exact HOWN.out, unitV_in n k⟩, HB1.out.setCell (Nat.le_refl _) _⟩
theorem OMd.push' {W W6 W7 : World} {B C : Nat} {v v' u : Value} {us : List Value} {ms : List Mono} {m : Mono} (h : OMd W B C v us ms) (hC : C ≤ W.heap.size) (h6 : Below W.heap.size W W6) (hu : OwnInts W6 B tI u m.2) (hap : ∀ (k : Nat) (x : Value), us[k]? = some x → Apart x u) (hm : In64 m.1)
    (hn : OwnK W7 B tM 2 v' (List.zipWith cellM us ms ++ [cellM u m])) (hg : Grow W6 W7 v v') : OMd W7 B W7.heap.size v' (us ++ [u]) (ms ++ [m]) := by
  have s6 := h6.size
  have s7 := hg.1.size
  have hbt : BT W6 tM v := (OwnK.below h.own h6).bt
  refine ⟨by rw [List.zipWith_append h.len]; exact hn, fun b hb => OwnK.lt hn b hb, ?_, fun x hx => ?_⟩
  · rw [List.map_append]
    have hr := (h.rows.below h6).other hg.1 (fun k x hx => by
      have hz : (ms.map (·.2))[k]? = some ((ms.map (·.2))[k]'(by rw [← h.rows.1]; exact (List.getElem?_eq_some_iff.1 hx).1)) := List.getElem?_eq_getElem _
      exact (((h.rows.below h6).2.1 k x _ hx hz).1.1.bt).ne hbt (by decide))
    have hu7 : OwnInts W7 B tI u m.2 := hu.kept hg.1 (hu.1.bt.ne hbt (by decide))
    exact (hr.mono (Nat.le_refl _) (by omega)).snoc (OI.of hu7) hap
  · rcases List.mem_append.1 hx with hx | hx
    · exact h.in_ x hx
    · rw [List.mem_singleton.1 hx]; exact hm
theorem OMd.push {W W6 W7 : World} {B C : Nat} {v v' u : Value} {us : List Value} {ms : List Mono} {m : Mono} (h : OMd W B C v us ms) (hC : C ≤ W.heap.size) (hB : B ≤ W.heap.size) (h6 : Below W.heap.size W W6) (hu : OwnInts W6 W.heap.size tI u m.2) (hm : In64 m.1)
    (hn : OwnK W7 B tM 2 v' (List.zipWith cellM us ms ++ [cellM u m])) (hg : Grow W6 W7 v v') : OMd W7 B W7.heap.size v' (us ++ [u]) (ms ++ [m]) :=
  h.push' hC h6 (hu.mono hB) (fun k x hx => by
    have hz : (ms.map (·.2))[k]? = some ((ms.map (·.2))[k]'(by rw [← h.rows.1]; exact (List.getElem?_eq_some_iff.1 hx).1)) := List.getElem?_eq_getElem _
    have ho := h.rows.2.1 k x _ hx hz
    exact apart_of_lt (B := W.heap.size) (fun b hb => Nat.lt_of_lt_of_le (ho.2 b hb) hC) (fun b hb => hu.1.ge b hb)) hm hn hg
/-- put ahead of all -/
def putF (f : Int) (p : List Int) (ms : List Mono) : List Mono := if f = 0 then ms else (f, p) :: ms
def preF (f : Int) (p : List Int) : List Mono := if f = 0 then [] else [(f, p)]
theorem putF_eq (f : Int) (p : List Int) (ms : List Mono) : putF f p ms = preF f p ++ ms := by unfold putF preF; split <;> rfl
/-- what is put after j rounds -/
def outF (f : Int) (p : List Int) (ms : List Mono) (j : Nat) : List Mono := if j = 0 then [] else preF f p ++ ms.take j
theorem oi_setCell {w : World} {B : Nat} {e : TypeId} {v : Value} {zs : List Int} (h : OwnInts w B e v zs) {p : Addr} (hp : p.block < B) (u : Value) : OwnInts (w.setCell p u) B e v zs := ⟨h.1.of_block fun b hb => Below.heap_setCell w p u b (by have := h.1.ge b hb; omega), h.2⟩
theorem outF_len (f : Int) (p : List Int) (ms : List Mono) (j : Nat) : (outF f p ms j).length ≤ ms.length + 1 := by
  unfold outF
  split
  · simp
  · have h1 : (preF f p).length ≤ 1 := by unfold preF; split <;> simp
    have h2 : (ms.take j).length ≤ ms.length := by rw [List.length_take]; omega
    rw [List.length_append]
    omega
theorem outF_go {f : Int} {p : List Int} {ms : List Mono} {j : Nat} {m : Mono} (hm : ms[j]? = some m) (h : decide (f = 0 ∨ 0 < j) = true) : outF f p ms (j + 1) = outF f p ms j ++ [m] := by
  have h1 := of_decide_eq_true h
  unfold outF
  rw [if_neg (by omega), List.take_add_one, hm, Option.toList_some]
  by_cases hj : j = 0
  · subst hj
    have : f = 0 := by omega
    simp [preF, this]
  · rw [if_neg hj, List.append_assoc]
theorem outF_first {f : Int} {p : List Int} {ms : List Mono} {j : Nat} {m : Mono} (hm : ms[j]? = some m) (h : decide (f = 0 ∨ 0 < j) = false) : j = 0 ∧ f ≠ 0 ∧ outF f p ms j = [] ∧ outF f p ms (j + 1) = [(f, p)] ++ [m] := by
  have h1 := of_decide_eq_false h
  have hj : j = 0 := by omega
  subst hj
  have hf : f ≠ 0 := by omega
  refine ⟨rfl, hf, rfl, ?_⟩
  unfold outF
  rw [if_neg (by omega), List.take_add_one, hm]
  simp [preF, hf]

set_option maxHeartbeats 8000000 in
theorem s_l13PutF (w : World) (v vp : Value) (ms : List Mono) (f : Int) (p : List Int) (hv : Monos w v ms) (hp : Ints w vp p) (hf : In64 f) (hl : ms.length ≤ 1000) (hpl : p.length ≤ 1000) (hms : ∀ m ∈ ms, lessL p m.2 = true ∧ m.2 ≠ p ∧ m.1 ≠ 0 ∧ m.2.length ≤ 1000) :
    Calls Try.prog 42 #[v, .int .i64 f, vp] w fun e w' => ∃ r, e = .returned r ∧ OMo w' w.heap.size w'.heap.size r (putF f p ms) ∧ Below w.heap.size w w' := by
  obtain ⟨A, c, rfl, l1, l2, h3⟩ := hv.open_
  obtain ⟨Ap, cp, rfl, -, -, -⟩ := hp.open_
  have H3 := Lib.hid h3
  have HP := Lib.hid hp
  have HMS := Lib.hid hms
  have HF := Lib.hid hf
  have OL := Lib.hid (show OMd (w.alloc (.cells #[] tM)) w.heap.size (w.alloc (.cells #[] tM)).heap.size (.slice (some ⟨w.heap.size, 0, none⟩) 0 0) [] [] from
    ⟨OwnK.lit w tM 2 [] (fun c hc => by simp at hc) (by simp [maxLen]) #[] rfl, fun b hb => by simp [Value.ownBlock] at hb; subst hb; simp, RowsOwn.nil _ _ _ _, fun m hm => by simp at hm⟩)
  have HB0 := Lib.hid (below1 w (.cells #[] tM))
  clear hv hp h3 hms hf
  obtain ⟨d0, hd0⟩ : ∃ d0, d0 = decide (f = 0) := ⟨_, rfl⟩
  have hfe : (f == 0) = d0 := by rw [hd0]; by_cases h : f = 0 <;> simp [h]
  go_enter Try.func42, Try.ntmps42
  go_wp2_with fail
  generalize (w.alloc (.cells #[] tM)) = w4 at OL HB0 ⊢
  go_loopw [7, 8, 9] (fun o d i wr => ∃ (j : Nat) (us : List Value), j ≤ ms.length ∧ i = .int .i64 j ∧ (∃ dd, d = .bool dd ∧ Hid (dd = decide (f = 0 ∨ 0 < j))) ∧ OMd wr w.heap.size wr.heap.size o us (outF f p ms j) ∧ Below w.heap.size w wr) (fun _ _ i _ => ms.length - (intOf i).toNat)
  case atStart => exact ⟨0, [], Nat.zero_le _, rfl, ⟨_, rfl, Lib.hid (by simp)⟩, OL.out, HB0.out⟩
  case round =>
    obtain ⟨j, us, hj, rfl, ⟨dd, rfl, HDD⟩, ho, hb⟩ := hrel
    clear OL HB0
    have HO := Lib.hid ho
    have HB := Lib.hid hb
    obtain ⟨Ao, co, hv, -⟩ := ho.open_
    subst hv
    by_cases hlt : j < ms.length
    · obtain ⟨b, o, m, u, hA, hm, hmi, hu, hc0, hc1⟩ := H3.out j hlt
      subst hA
      have k0 : wr.cell? ⟨b, o + j * 2, none⟩ = some (.int .i64 m.1) := (HB.out.cell (World.block_lt_of_cell? w _ hc0)).trans hc0
      have k1 : wr.cell? ⟨b, o + j * 2 + 1, none⟩ = some u := (HB.out.cell (World.block_lt_of_cell? w _ hc1)).trans hc1
      obtain ⟨Au, cu, rfl, -, -, -⟩ := hu.open_
      have HU := Lib.hid (hu.below HB.out)
      have HM := Lib.hid hm
      have HMI := Lib.hid hmi
      obtain ⟨hm1, hm2, hm3, hm4⟩ := HMS.out m (List.mem_of_getElem? hm)
      have HM1 := Lib.hid hm1
      have HM2 := Lib.hid hm2
      have HM3 := Lib.hid hm3
      have hji : (j : Int) < (ms.length : Int) := by omega
      have hbl := World.block_lt_of_cell? w _ hc0
      have HBL := Lib.hid (show b < wr.heap.size from Nat.lt_of_lt_of_le hbl HB.out.size)
      clear hc0 hc1 hu hm hmi hm1 hm2 hm3 hbl ho hb hfe
      go_upto_region 5 with fail
      go_cut [10] from 14 to 66 (fun x wx => ∃ q A5 c5, x = .pointer (some ⟨q, 0, none⟩) ∧ wr.heap.size ≤ q ∧ Blk wx q tM #[.int .i64 m.1, .slice A5 m.2.length c5] ∧ OwnInts wx wr.heap.size tI (.slice A5 m.2.length c5) m.2 ∧ Below wr.heap.size wr wx)
      case first =>
        have k0a : ∀ x, (wr.alloc x).cell? ⟨b, o + j * 2, none⟩ = some (.int .i64 m.1) := fun x => by rw [World.cell?_alloc_old wr x _ (Nat.ne_of_lt HBL.out)]; exact k0
        have k1a : ∀ x, (wr.alloc x).cell? ⟨b, o + j * 2 + 1, none⟩ = some (.slice Au m.2.length cu) := fun x => by rw [World.cell?_alloc_old wr x _ (Nat.ne_of_lt HBL.out)]; exact k1
        go_region_law ((go_simp; go_at_call 69; refine (s_l01Own _ _ m.2 (by first | exact HU.out | exact (HU.out.below (below1 wr _).drew)) (by omega)).mono ?_; rintro e w5 ⟨r5, rfl, ho5, hb5⟩; obtain ⟨A5, c5, hv5, -, -, -⟩ := ho5.ints.open_; subst hv5; have hw5 : Below wr.heap.size wr w5 := (by first | exact below_of_drew hb5 | exact ((below1 wr _).trans ((below_of_drew hb5).mono (by simp)))); have hi5 : OwnInts w5 wr.heap.size tI (.slice A5 m.2.length c5) m.2 := ho5.mono (by simp); have q5 : w5.cell? ⟨b, o + j * 2, none⟩ = some (.int .i64 m.1) := (hw5.cell HBL.out).trans k0; have q5a : ∀ x, (w5.alloc x).cell? ⟨b, o + j * 2, none⟩ = some (.int .i64 m.1) := (fun x => by rw [World.cell?_alloc_old w5 x _ (Nat.ne_of_lt (Nat.lt_of_lt_of_le HBL.out hw5.size))]; exact q5); (first | (have K5 : Blk w5 wr.heap.size tM #[.int .i64 0, .slice none 0 0] := (Blk.new wr _ _).below (below_of_drew hb5) (by simp); have q6 := K5.cell 0; have q7 := K5.cell 1; have q8 := K5.frozen 0; have q9 := K5.frozen 1) | skip)))
        all_goals (go_wp2_with fail)
        all_goals go_meet
        all_goals first
          | exact ⟨_, A5, c5, rfl, hw5.size, Blk.new w5 _ _, hi5.below (below1 w5 _), hw5.trans ((below1 w5 _).mono hw5.size)⟩
          | exact ⟨_, A5, c5, rfl, Nat.le_refl _, (K5.set_ 0 (.int .i64 m.1)).set_ 1 (.slice A5 m.2.length c5), (oi_setCell (oi_setCell ho5 (by simp) _) (by simp) _).mono (by simp), (hw5.setCell (Nat.le_refl _) _).setCell (Nat.le_refl _) _⟩
          | trace_state
      case rest =>
        obtain ⟨q, A5, c5, rfl, hq, hblk, hi5, hb5⟩ := hcut
        have HQ := Lib.hid hq
        have HI5 := Lib.hid hi5
        have HBK := Lib.hid hblk
        have HB5 := Lib.hid hb5
        have HPC := Lib.hid (HP.out.below (HB.out.trans (hb5.mono HB.out.size)))
        have k0 : wc.cell? ⟨q, 0, none⟩ = some (.int .i64 m.1) := hblk.cell 0
        have k1 : wc.cell? ⟨q, 1, none⟩ = some (.slice A5 m.2.length c5) := hblk.cell 1
        have hne : (m.1 != 0) = true := by simpa using HM3.out
        clear hq hblk hi5 hb5 k0 k1
        have k0 : ∀ n, (wc.drewN n).cell? ⟨q, 0, none⟩ = some (.int .i64 m.1) := fun n => HBK.out.cell 0
        have k1 : ∀ n, (wc.drewN n).cell? ⟨q, 1, none⟩ = some (.slice A5 m.2.length c5) := fun n => HBK.out.cell 1
        have k0' : wc.cell? ⟨q, 0, none⟩ = some (.int .i64 m.1) := HBK.out.cell 0
        have k1' : wc.cell? ⟨q, 1, none⟩ = some (.slice A5 m.2.length c5) := HBK.out.cell 1
        cases dd with
        | true =>
          have HNX := Lib.hid (outF_go (p := p) HM.out HDD.out.symm)
          obtain ⟨L, hL⟩ : ∃ L, L = (outF f p ms j).length := ⟨_, rfl⟩
          have HL := Lib.hid hL
          have hLl : L ≤ 1001 := by have h1 := outF_len f p ms j; omega
          rw [← hL] at HO ⊢
          clear hL
          have HOC := Lib.hid (HO.out.agree (Same.of_below HB5.out (Nat.le_refl _)))
          go_wp2_with (at_builtin; go_loud (refine wpList_app1K T_mono (B := w.heap.size) (W := wc.alloc (.cells #[.int .i64 m.1, .slice A5 m.2.length c5] tMn)) (c := [.int .i64 m.1, .slice A5 m.2.length c5]) (css := List.zipWith cellM us (outF f p ms j)) (OwnK.below HOC.out.own (below1 wc _)) (by rw [HOC.out.zlen, ← HL.out]; omega) (by have := HB.out.size; have := HB5.out.size; simp; omega) rfl (by intro u hu; simp at hu; rcases hu with rfl | rfl <;> rfl) (lit_cells _ _ _ _ rfl) (by rfl) rfl (by rfl) (by rfl) ?_; intro v6 w6 hown6 hgr6; have HN6 := Lib.hid hown6; have HG6 := Lib.hid hgr6; clear hown6 hgr6))
          have hsb := HB.out.size
          have hs5 := HB5.out.size
          have hba := below1 wc (.cells #[.int .i64 m.1, .slice A5 m.2.length c5] tMn)
          have hb6 := HB5.out.trans (hba.mono HB5.out.size)
          have hd6 := HO.out.push (Nat.le_refl _) hsb hb6 (HI5.out.below hba) HMI.out HN6.out HG6.out
          have hbw := HG6.out.below (HB.out.trans (hb6.mono hsb)) (Nat.le_trans hsb hb6.size) (fun b hb => HO.out.own.ge b hb)
          rw [← HNX.out] at hd6
          go_roundw
          case rel => exact ⟨j + 1, _, by omega, by go_num, ⟨_, rfl, Lib.hid (by simp)⟩, hd6, hbw⟩
          case measure => simp [intOf]; omega
        | false =>
          obtain ⟨hj0, hf0, hO0, hO1⟩ := outF_first (p := p) HM.out HDD.out.symm
          have HO0 := Lib.hid hO0
          have HO1 := Lib.hid hO1
          have HJ0 := Lib.hid hj0
          have HF0 := Lib.hid hf0
          rw [hO0] at HO ⊢
          have HSM := Lib.hid (fun W (h : Below wr.heap.size wr W) (h1 : Ints W (.slice A5 m.2.length c5) m.2) => (s_l01Same W _ (.slice Ap p.length cp) m.2 p h1 (HP.out.below (HB.out.trans (h.mono HB.out.size)))))
          have HLS := Lib.hid (fun W (h : Below wr.heap.size wr W) (h1 : Ints W (.slice A5 m.2.length c5) m.2) => (s_l01Less W (.slice Ap p.length cp) _ p m.2 (HP.out.below (HB.out.trans (h.mono HB.out.size))) h1))
          clear hj0 hf0 hO0 hO1
          go_wp2_with (first
            | (go_at_call 70; go_loud (refine (HSM.out _ HB5.out HI5.out.ints).mono ?_; rintro e w1 ⟨rfl, n1, rfl⟩; rw [decide_eq_false HM2.out]))
            | (go_at_call 56; go_loud (refine (HLS.out _ (below_drewN HB5.out n1) (HI5.out.ints.drewN n1)).mono ?_; rintro e w1 ⟨rfl, n2, rfl⟩; rw [HM1.out]))
            | (go_at_call 69; go_loud (refine (s_l01Own _ _ p (HP.out.below (HB.out.trans ((below_drewN HB5.out (n1 + n2)).mono HB.out.size))) (by omega)).mono ?_; rintro e w7 ⟨r7, rfl, ho7, hb7⟩; obtain ⟨A7, c7, hv7, -, -, -⟩ := ho7.ints.open_; subst hv7; have HO7 := Lib.hid (show OwnInts w7 wc.heap.size tI (.slice A7 p.length c7) p from ho7); have HB7 := Lib.hid (show Below wc.heap.size wc w7 from below_of_drewN hb7); clear ho7 hb7))
            | (at_builtin; (refine wpList_app1K T_mono (B := w.heap.size) (W := w7.alloc (.cells #[.int .i64 f, .slice A7 p.length c7] tMn)) (c := [.int .i64 f, .slice A7 p.length c7]) (v := .slice Ao 0 co) (css := List.zipWith cellM us []) (OwnK.below (OwnK.below (OwnK.below HO.out.own HB5.out) HB7.out) (below1 w7 _)) (by rw [HO.out.zlen]; simp) (by have := HB.out.size; have := HB5.out.size; have := HB7.out.size; simp; omega) rfl (by intro u hu; simp at hu; rcases hu with rfl | rfl <;> rfl) (lit_cells _ _ _ _ rfl) (by rfl) rfl (by rfl) (by rfl) ?_; intro v8 w8 hown8 hgr8; have hba7 := below1 w7 (.cells #[.int .i64 f, .slice A7 p.length c7] tMn); have hsb := HB.out.size; have hs5 := HB5.out.size; have hs7 := HB7.out.size; have hb78 := HB7.out.trans (hba7.mono HB7.out.size); have hb58 := HB5.out.trans (hb78.mono HB5.out.size); have HD8 := Lib.hid (HO.out.push (m := (f, p)) (Nat.le_refl _) hsb hb58 ((HO7.out.below hba7).mono HB5.out.size) HF.out hown8 hgr8); have HG8 := Lib.hid hgr8; have HI8 := Lib.hid (((HI5.out.below hb78).mono hsb).kept hgr8.1 ((HI5.out.below hb78).1.bt.ne (OwnK.below HO.out.own hb58).bt (by decide))); have HK8 := Lib.hid (((HBK.out.below hb78 HBK.out.lt).grow hgr8 (fun e => by have h1 := HO.out.lt _ e; have h2 := HQ.out; omega))); have HW8 := Lib.hid (hgr8.below (HB.out.trans (hb58.mono hsb)) (Nat.le_trans hsb hb58.size) (fun b hb => HO.out.own.ge b hb)); have g0 : w8.cell? ⟨q, 0, none⟩ = some (.int .i64 m.1) := HK8.out.cell 0; have g1 : w8.cell? ⟨q, 1, none⟩ = some (.slice A5 m.2.length c5) := HK8.out.cell 1; clear hba7 hsb hs5 hs7 hb78 hb58 hown8 hgr8))
            | (at_builtin; go_loud (refine wpList_app1K T_mono (B := w.heap.size) (W := w8.alloc (.cells #[.int .i64 m.1, .slice A5 m.2.length c5] tMn)) (c := [.int .i64 m.1, .slice A5 m.2.length c5]) (v := v8) (css := List.zipWith cellM (us ++ [.slice A7 p.length c7]) ([] ++ [(f, p)])) (OwnK.below HD8.out.own (below1 w8 _)) (by rw [HD8.out.zlen]; simp) (by have := HW8.out.size; simp; omega) rfl (by intro u hu; simp at hu; rcases hu with rfl | rfl <;> rfl) (lit_cells _ _ _ _ rfl) (by rfl) rfl (by rfl) (by rfl) ?_; intro v9 w9 hown9 hgr9; have HN9 := Lib.hid hown9; have HG9 := Lib.hid hgr9; clear hown9 hgr9)))
          have hap : ∀ (k : Nat) (x : Value), (us ++ [Value.slice A7 p.length c7])[k]? = some x → Apart x (.slice A5 m.2.length c5) := fun k x hx => by
            have hu0 : us = [] := List.eq_nil_of_length_eq_zero (by rw [HO.out.len]; rfl)
            rw [hu0] at hx
            have hx' := List.mem_of_getElem? hx
            rw [List.nil_append, List.mem_singleton] at hx'
            subst hx'
            exact (apart_of_lt (B := wc.heap.size) (fun b hb => HI5.out.1.lt b hb) (fun b hb => HO7.out.1.ge b hb)).symm
          have hb9 := below1 w8 (.cells #[.int .i64 m.1, .slice A5 m.2.length c5] tMn)
          have hd9 := HD8.out.push' (m := m) (Nat.le_refl _) hb9 (HI8.out.below hb9) hap HMI.out HN9.out HG9.out
          have hbw := HG9.out.below (HW8.out.trans (hb9.mono HW8.out.size)) (Nat.le_trans HW8.out.size hb9.size) (fun b hb => HD8.out.own.ge b hb)
          rw [List.nil_append, ← HO1.out] at hd9
          go_roundw
          case rel => exact ⟨j + 1, _, by omega, by go_num, ⟨_, rfl, Lib.hid (by simp)⟩, hd9, hbw⟩
          case measure => simp [intOf]; omega
    · have hjl : j = ms.length := by omega
      subst hjl
      have HPO := Lib.hid (s_l01Own wr (.slice Ap p.length cp) p (HP.out.below HB.out) (by omega))
      cases dd with
      | true =>
        have hfin : outF f p ms ms.length = putF f p ms := by
          have h1 := of_decide_eq_true HDD.out.symm
          unfold outF
          rw [putF_eq, List.take_length]
          split
          · rename_i h0
            have hm0 : ms = [] := List.eq_nil_of_length_eq_zero h0
            have hf0 : f = 0 := by omega
            rw [hm0, hf0]; rfl
          · rfl
        go_wp2_with fail
        go_ret
        rw [hfin] at HO
        refine ⟨_, rfl, ⟨us, ?_⟩, HB.out⟩
        first | exact HO.out | (rw [hfin]; exact HO.out)
      | false =>
        have h1 := of_decide_eq_false HDD.out.symm
        have h0 : ms.length = 0 := by omega
        have hm0 : ms = [] := List.eq_nil_of_length_eq_zero h0
        have hf0 : f ≠ 0 := by omega
        have hO0 : outF f p ms ms.length = [] := by rw [h0]; rfl
        have HFIN := Lib.hid (show putF f p ms = [(f, p)] by rw [putF_eq, hm0]; simp [preF, hf0])
        rw [hO0] at HO ⊢
        clear h1 h0 hm0 hf0 hO0
        go_wp2_with (first
          | (go_at_call 69; go_loud (refine HPO.out.mono ?_; rintro e w7 ⟨r7, rfl, ho7, hb7⟩; obtain ⟨A7, c7, hv7, -, -, -⟩ := ho7.ints.open_; subst hv7; have HO7 := Lib.hid ho7; have HB7 := Lib.hid hb7; clear ho7 hb7))
          | (at_builtin; go_loud (refine wpList_app1K T_mono (B := w.heap.size) (W := w7.alloc (.cells #[.int .i64 f, .slice A7 p.length c7] tMn)) (c := [.int .i64 f, .slice A7 p.length c7]) (v := .slice Ao 0 co) (css := List.zipWith cellM us []) (OwnK.below (OwnK.below HO.out.own HB7.out) (below1 w7 _)) (by rw [HO.out.zlen]; simp) (by have := HB.out.size; have := HB7.out.size; simp; omega) rfl (by intro u hu; simp at hu; rcases hu with rfl | rfl <;> rfl) (lit_cells _ _ _ _ rfl) (by rfl) rfl (by rfl) (by rfl) ?_; intro v8 w8 hown8 hgr8; have HN8 := Lib.hid hown8; have HG8 := Lib.hid hgr8; clear hown8 hgr8)))
        go_ret
        have hba := below1 w7 (.cells #[.int .i64 f, .slice A7 p.length c7] tMn)
        have hb78 := HB7.out.trans (hba.mono HB7.out.size)
        have hd8 := HO.out.push (m := (f, p)) (Nat.le_refl _) HB.out.size hb78 (HO7.out.below hba) HF.out HN8.out HG8.out
        rw [HFIN.out]
        exact ⟨_, rfl, ⟨_, hd8⟩, HG8.out.below (HB.out.trans (hb78.mono HB.out.size)) (Nat.le_trans HB.out.size hb78.size) (fun b hb => HO.out.own.ge b hb)⟩
end Go.Proofs.Ytofabikjjkapmaa

set_option maxRecDepth 100000
set_option linter.unusedVariables false
set_option linter.unusedSimpArgs false
namespace Go.Proofs.Ytofabikjjkapmaa
open Go.RowKit Go.Maps Go.Sort Go.Shelf

/-- the code of LinearField -/
def lfC (m : List (List Int)) : Int := if matB m = false then 1 else if decide (m.length ≠ (m.headD []).length) || decide (3 < m.length) then 5 else 0
def lfN (m : List (List Int)) : Nat := if lfC m = 0 then m.length else 0
def lfR (m : List (List Int)) : List (List Mono) := if lfC m = 0 then m.map linMs else []
theorem omp_ne {w : World} {b k : Nat} {row : List Int} {e : TypeId} {v : Value} (h : OMp w b row k) (hv : BT w e v) : some b ≠ v.ownBlock := by
  obtain ⟨es, clock, hb, -⟩ := h
  rcases hv with hv | ⟨g, cur, fz, hv, hg⟩
  · rw [hv]; simp
  · rw [hv]; intro e; injection e with e; subst e; rw [hg] at hb; cases hb
theorem LMp.push {W W5 W7 : World} {B b : Nat} {v v' : Value} {rows : List (List Int)} {row : List Int} {bs : List Nat} (h1 : Own W B tPl v (bs.map fun b => .map (some b))) (h2 : bs.length = rows.length) (h3 : ∀ (k b : Nat) (row : List Int), bs[k]? = some b → rows[k]? = some row → OMp W b row row.length)
    (h5 : Below W.heap.size W W5) (hm : OMp W5 b row row.length) (hn : Own W7 B tPl v' ((bs.map fun b => .map (some b)) ++ [.map (some b)])) (hg : Grow W5 W7 v v') : LMp W7 B v' (rows ++ [row]) := by
  have hbt : BT W5 tPl v := (h1.below h5).bt
  refine ⟨bs ++ [b], by rw [List.map_append]; exact hn, by simp [h2], fun k b' row' hb' hr' => ?_⟩
  have hk := (List.getElem?_eq_some_iff.1 hb').1
  rw [List.length_append, List.length_singleton] at hk
  have hkeep : ∀ {b' : Nat} {row' : List Int}, OMp W5 b' row' row'.length → OMp W7 b' row' row'.length := fun h => World.ownsMap.kept h hg.1 (omp_ne h hbt)
  by_cases hl : k < bs.length
  · rw [List.getElem?_append_left hl] at hb'
    rw [List.getElem?_append_left (by rw [← h2]; exact hl)] at hr'
    exact hkeep ((h3 k b' row' hb' hr').below h5)
  · have : k = bs.length := by omega
    subst this
    rw [List.getElem?_append_right (Nat.le_refl _), Nat.sub_self] at hb'
    rw [List.getElem?_append_right (by rw [h2]; exact Nat.le_refl _), h2, Nat.sub_self] at hr'
    simp only [List.getElem?_cons_zero, Option.some.injEq] at hb' hr'
    subst hb'; subst hr'
    exact hkeep hm

set_option maxHeartbeats 4000000 in
theorem i_LinearField (w : World) (v : Value) (m : List (List Int)) (ha : Rows w v m) :
    Calls Try.prog 8 #[v] w fun e w' => ∃ u, e = .returned (.tuple #[.agg #[.int .i64 (lfN m : Nat), u], .int .i64 (lfC m)]) ∧ PF w' w.heap.size w'.heap.size u (lfR m) ∧ Below w.heap.size w w' := by
  have HA := Lib.hid ha
  obtain ⟨A, c, rfl, l1, l2, h3⟩ := ha.open_
  have H3 := Lib.hid h3
  have HB1 := Lib.hid (below1 w (.cells #[.int .i64 0, .slice none 0 0] tFi))
  obtain ⟨C, hC⟩ : ∃ C, C = lfC m := ⟨_, rfl⟩
  obtain ⟨N, hN⟩ : ∃ N, N = lfN m := ⟨_, rfl⟩
  obtain ⟨R, hR⟩ : ∃ R, R = lfR m := ⟨_, rfl⟩
  rw [← hC, ← hN, ← hR]
  unfold lfN at hN
  unfold lfR at hR
  rw [← hC] at hN hR
  unfold lfC at hC
  obtain ⟨t, ht⟩ : ∃ t, t = matB m := ⟨_, rfl⟩
  have HM := Lib.hid (fun W h => i_isMatrix W (.slice A m.length c) m h)
  rw [← ht] at HM hC
  have HT := Lib.hid ht
  clear ha h3 ht
  cases t with
  | false =>
    rw [if_pos rfl] at hC
    subst hC
    rw [if_neg (by decide)] at hN hR
    subst hN; subst hR
    go_enter Try.func8, Try.ntmps8
    go_wp2_with (go_at_call 25; go_loud (refine (HM.out _ (HA.out.below HB1.out)).mono ?_; rintro e w2 ⟨rfl, rfl⟩))
    exact bodyPost_ret (v := .tuple #[.agg #[.int .i64 ((0 : Nat) : Int), .slice none 0 0], .int .i64 1]) (by simp [results, Try.results8, go_sem]) rfl ⟨_, rfl, ⟨[], [], (PFd.nil _ w.heap.size).mono (Nat.le_refl _) (by simp)⟩, HB1.out⟩
  | true =>
    rw [if_neg (by decide)] at hC
    obtain ⟨q1, q2, q3, q4, q5⟩ := matOk HT.out.symm
    obtain ⟨ad, u0, zs0, rfl, hz0, hu0, hc0⟩ := H3.out 0 (by omega)
    obtain ⟨A0, c0, rfl, -, -, -⟩ := hu0.open_
    rw [head_of hz0] at hC q3 q4 q5
    have HROW := Lib.hid q5
    rw [show ad.add 0 = ad by simp [Addr.add]] at hc0
    have g0 : ∀ o, (w.alloc o).cell? ad = some (.slice A0 zs0.length c0) := fun o => by rw [World.cell?_alloc_old w o ad (Nat.ne_of_lt (World.block_lt_of_cell? w _ hc0))]; exact hc0
    have hpos : (0 : Int) < (m.length : Int) := by omega
    by_cases hbad : m.length ≠ zs0.length ∨ 3 < m.length
    · have hC5 : C = 5 := by
        rw [hC, if_pos]
        rcases hbad with h | h <;> simp [h]
      subst hC5
      rw [if_neg (by decide)] at hN hR
      subst hN; subst hR
      have HBAD := Lib.hid hbad
      clear hbad hC
      by_cases he : m.length = zs0.length
      · have h4 : 3 < m.length := by rcases HBAD.out with h | h; exact absurd he h; exact h
        have h4i : (3 : Int) < (m.length : Int) := by omega
        rw [← he] at g0
        clear he hz0 hu0 hc0 q3 q4 q5 h4 l1 l2 q1 q2
        go_enter Try.func8, Try.ntmps8
        go_wp2_with (go_at_call 25; go_loud (refine (HM.out _ (HA.out.below HB1.out)).mono ?_; rintro e w2 ⟨rfl, rfl⟩))
        exact bodyPost_ret (v := .tuple #[.agg #[.int .i64 ((0 : Nat) : Int), .slice none 0 0], .int .i64 5]) (by simp [results, Try.results8, go_sem]) rfl ⟨_, rfl, ⟨[], [], (PFd.nil _ w.heap.size).mono (Nat.le_refl _) (by simp)⟩, HB1.out⟩
      · obtain ⟨l0, hl0⟩ : ∃ l0, l0 = zs0.length := ⟨_, rfl⟩
        rw [← hl0] at g0 he
        have hei : (m.length : Int) ≠ (l0 : Int) := by omega
        have hei2 : ((m.length : Int) != (l0 : Int)) = true := by simpa using hei
        clear he hz0 hu0 hc0 q3 q4 q5 l1 l2 q1 q2 hl0
        go_enter Try.func8, Try.ntmps8
        go_wp2_with (go_at_call 25; go_loud (refine (HM.out _ (HA.out.below HB1.out)).mono ?_; rintro e w2 ⟨rfl, rfl⟩))
        exact bodyPost_ret (v := .tuple #[.agg #[.int .i64 ((0 : Nat) : Int), .slice none 0 0], .int .i64 5]) (by simp [results, Try.results8, go_sem]) rfl ⟨_, rfl, ⟨[], [], (PFd.nil _ w.heap.size).mono (Nat.le_refl _) (by simp)⟩, HB1.out⟩
    · have he : m.length = zs0.length := by omega
      have h4 : m.length ≤ 3 := by omega
      have hC0 : C = 0 := by
        rw [hC, if_neg]
        simp [he]; omega
      subst hC0
      rw [if_pos rfl] at hN hR
      subst hN; subst hR
      have h4i : ¬ ((3 : Int) < (m.length : Int)) := by omega
      have HLR := Lib.hid (fun r h => by rw [(HROW.out r h).1, he] : ∀ r ∈ m, r.length = m.length)
      rw [← he] at g0
      clear hC hbad he hz0 hu0 hc0 q3 q4 q5 q1 q2
      go_enter Try.func8, Try.ntmps8
      go_upto_region 6 with (go_at_call 25; go_loud (refine (HM.out _ (HA.out.below HB1.out)).mono ?_; rintro e w2 ⟨rfl, rfl⟩))
      have K0 := Lib.hid (show Blk ((w.alloc (.cells #[.int .i64 0, .slice none 0 0] tFi)).alloc (.cells #[] tPl)) w.heap.size tFi #[.int .i64 0, .slice none 0 0] from (Blk.new w _ _).alloc _)
      have OL := Lib.hid (show LMp ((w.alloc (.cells #[.int .i64 0, .slice none 0 0] tFi)).alloc (.cells #[] tPl)) (w.heap.size + 1) (.slice (some ⟨w.heap.size + 1, 0, none⟩) 0 0) [] from
        ⟨[], by have h := own_lit (w.alloc (.cells #[.int .i64 0, .slice none 0 0] tFi)) tPl [] (by simp [maxLen]); rw [size_alloc'] at h; exact h, rfl, fun k b row h => by simp at h⟩)
      have HB0 := Lib.hid (below2 w (.cells #[.int .i64 0, .slice none 0 0] tFi) (.cells #[] tPl))
      generalize ((w.alloc (.cells #[.int .i64 0, .slice none 0 0] tFi)).alloc (.cells #[] tPl)) = w4 at K0 OL HB0 ⊢
      clear h4i HB1 g0
      go_wp2_with fail
      go_loopw [4, 29] (fun o i wr => ∃ j : Nat, j ≤ m.length ∧ i = .int .i64 j ∧ LMp wr (w.heap.size + 1) o (m.take j) ∧ Blk wr w.heap.size tFi #[.int .i64 0, .slice none 0 0] ∧ Below w.heap.size w wr) (fun _ i _ => m.length - (intOf i).toNat)
      case atStart => exact ⟨0, Nat.zero_le _, rfl, OL.out, K0.out, HB0.out⟩
      case round =>
        obtain ⟨j, hj, rfl, ho, k0, hb⟩ := hrel
        clear K0 OL HB0
        have K0 := Lib.hid k0
        have HB := Lib.hid hb
        by_cases hlt : j < m.length
        · obtain ⟨ad', uj, row, hA, hr, hu, hc1⟩ := H3.out j hlt
          injection hA with hA
          subst hA
          obtain ⟨Aj, cj, rfl, -, -, -⟩ := hu.open_
          have hc : wr.cell? (ad.add j) = some (.slice Aj row.length cj) := (HB.out.cell (World.block_lt_of_cell? w _ hc1)).trans hc1
          have HR := Lib.hid hr
          have HU := Lib.hid (hu.below HB.out)
          have HRL := Lib.hid (HLR.out row (List.mem_of_getElem? hr))
          obtain ⟨bs, b1, b2, b3⟩ := ho
          obtain ⟨Ao, co, hv, -⟩ := b1.cells.open_
          rw [List.length_map] at hv
          subst hv
          have HOB := Lib.hid b1
          have HBL := Lib.hid b2
          have HB3 := Lib.hid b3
          have hji : (j : Int) < (m.length : Int) := by omega
          clear hc1 hr hu b1 b2 b3 k0 hb
          go_wp2_with (first
            | (go_at_call 26; go_loud (refine (i_linear _ _ row HU.out (by have := HRL.out; omega)).mono ?_; rintro e w5 ⟨rfl, hm5, hb5⟩; have HM5 := Lib.hid hm5; have HB5 := Lib.hid hb5; clear hm5 hb5))
            | (at_builtin; go_loud (refine wpList_app1 T_pol (B := w.heap.size + 1) (W := w5) (HOB.out.below HB5.out) (by rw [List.length_map, HBL.out, List.length_take]; omega) (by have := K0.out.lt; have := HB5.out.size; omega) (by rfl) rfl (by rfl) (by rfl) (by rfl) ?_; intro v6 w6 hown6 hgr6; have HN6 := Lib.hid hown6; have HG6 := Lib.hid hgr6; clear hown6 hgr6)))
          have h6 := LMp.push HOB.out HBL.out HB3.out HB5.out HM5.out HN6.out HG6.out
          have hge : ∀ b, (Value.slice Ao bs.length co).ownBlock = some b → w.heap.size + 1 ≤ b := HOB.out.ge
          go_roundw
          case rel =>
            refine ⟨j + 1, by omega, by go_num, ?_, (K0.out.below HB5.out K0.out.lt).grow HG6.out (fun e => by have := hge _ e; omega), HG6.out.below (HB.out.trans (HB5.out.mono HB.out.size)) (Nat.le_trans HB.out.size HB5.out.size) (fun b hb => by have := hge b hb; omega)⟩
            rw [List.take_add_one, HR.out]
            exact h6
          case measure => simp [intOf]; omega
        · have : j = m.length := by omega
          subst this
          rw [List.take_length] at ho
          have HO := Lib.hid ho
          obtain ⟨Ao, co, hv, -⟩ := ho.open_
          subst hv
          have f0 : wr.cell? ⟨w.heap.size, 0, none⟩ = some (.int .i64 0) := K0.out.cell 0
          have f1 : wr.cell? ⟨w.heap.size, 1, none⟩ = some (.slice none 0 0) := K0.out.cell 1
          have f2 := K0.out.frozen 0
          have f3 := K0.out.frozen 1
          have HIN := Lib.hid (show ∀ r ∈ m, ∀ z ∈ r, In64 z from fun r hr z hz => (by have := (HROW.out r hr).2 z hz; unfold In64; omega))
          clear ho k0 hb
          have HFO := Lib.hid (i_fieldOf wr (w.heap.size + 1) m.length (.slice Ao m.length co) m h4 h4 HLR.out HIN.out HO.out)
          have HLE := Lib.hid (lib_lengthR wr (.slice (some ad) m.length c) m (HA.out.below HB.out))
          go_wp2_with (first
            | (go_at_call 28; go_loud (refine HLE.out.mono ?_; rintro e w5 ⟨rfl, rfl⟩))
            | (go_at_call 27; go_loud (refine HFO.out.mono ?_; rintro e w6 ⟨u6, rfl, hf6, hb6⟩; obtain ⟨A6, c6, hu6, -, -, -⟩ := hf6.mrows.open_; rw [List.length_map] at hu6; subst hu6; have HF6 := Lib.hid hf6; have HB6 := Lib.hid hb6; have g0 : w6.cell? ⟨w.heap.size, 0, none⟩ = some (.int .i64 0) := (K0.out.below hb6 K0.out.lt).cell 0; have g1 : w6.cell? ⟨w.heap.size, 1, none⟩ = some (.slice none 0 0) := (K0.out.below hb6 K0.out.lt).cell 1; have g2 := (K0.out.below hb6 K0.out.lt).frozen 0; have g3 := (K0.out.below hb6 K0.out.lt).frozen 1; clear hf6 hb6)))
          have c0 := Chg.refl w.heap.size (w.heap.size + 1) w6
          have c1' := c0.setCell (p := ⟨w.heap.size, 0, none⟩) (Nat.le_refl _) (by simp) (.int .i64 (m.length : Nat))
          have c2' := c1'.setCell (p := ⟨w.heap.size, 1, none⟩) (Nat.le_refl _) (by simp) (.slice A6 m.length c6)
          have hk := K0.out.lt
          have hs6 := HB6.out.size
          have hsz := c2'.size
          have hb6 := HB.out.trans (HB6.out.mono HB.out.size)
          have hs0 := hb6.size
          have HPF := ((HF6.out.agree (Same.of_chg c2' (Nat.le_refl _) (.inr (by omega)))).mono (B' := w.heap.size) (by omega) hsz)
          refine bodyPost_ret (v := .tuple #[.agg #[.int .i64 (m.length : Nat), .slice A6 m.length c6], .int .i64 0]) (by simp [results, Try.results8, go_sem, g0, g1]) rfl ⟨_, rfl, HPF, c2'.below hb6 (Nat.le_refl _) (by omega)⟩
end Go.Proofs.Ytofabikjjkapmaa

set_option maxRecDepth 100000
set_option linter.unusedVariables false
set_option linter.unusedSimpArgs false
namespace Go.Proofs.Ytofabikjjkapmaa
open Go.RowKit Go.Sort Go.Shelf

/-- the linear form's monomials after k variables -/
def linK (row : List Int) : Nat → List Mono
  | 0 => []
  | k + 1 => putF (row.getD k 0) (unitV row.length k) (linK row k)
theorem linK_mem {row : List Int} : ∀ {k : Nat} {m : Mono}, m ∈ linK row k → ∃ i, i < k ∧ m = (row.getD i 0, unitV row.length i) ∧ row.getD i 0 ≠ 0
  | 0, m, h => by cases h
  | k + 1, m, h => by
    unfold linK putF at h
    split at h
    · obtain ⟨i, a, b⟩ := linK_mem h
      exact ⟨i, by omega, b⟩
    · rename_i h0
      rcases List.mem_cons.1 h with h | h
      · exact ⟨k, by omega, h, h0⟩
      · obtain ⟨i, a, b⟩ := linK_mem h
        exact ⟨i, by omega, b⟩
theorem unit_less {n i k : Nat} (hi : i < k) (hk : k < n) (hn : n ≤ 3) : lessL (unitV n k) (unitV n i) = true ∧ unitV n i ≠ unitV n k := by
  have h1 := cmpV_lt hn ⟨k, hk⟩ ⟨i, by omega⟩
  have h2 := cmpV_lt hn ⟨i, by omega⟩ ⟨k, hk⟩
  have e1 : ltV (⟨k, hk⟩ : Fin n) ⟨i, by omega⟩ = true := by unfold ltV; exact decide_eq_true (by show i < k; exact hi)
  have e2 : ltV (⟨i, by omega⟩ : Fin n) ⟨k, hk⟩ = false := by unfold ltV; exact decide_eq_false (by show ¬ k < i; omega)
  rw [e1] at h1
  rw [e2] at h2
  refine ⟨h1, fun e => ?_⟩
  unfold cmpV at h1 h2
  simp only at h1 h2
  rw [e] at h1 h2
  rw [h1] at h2
  cases h2
theorem linK_pre {row : List Int} {k : Nat} (hk : k < row.length) (hn : row.length ≤ 3) : ∀ m ∈ linK row k, lessL (unitV row.length k) m.2 = true ∧ m.2 ≠ unitV row.length k ∧ m.1 ≠ 0 ∧ m.2.length ≤ 1000 := by
  intro m hm
  obtain ⟨i, hi, rfl, h0⟩ := linK_mem hm
  obtain ⟨a, b⟩ := unit_less hi hk hn
  exact ⟨a, b, h0, by simp [unitV]; omega⟩
theorem linK_len (row : List Int) : ∀ k, (linK row k).length ≤ k
  | 0 => Nat.le_refl _
  | k + 1 => by
    have := linK_len row k
    unfold linK putF
    split <;> simp <;> omega
theorem linK_take {row : List Int} : ∀ {k : Nat}, k ≤ row.length → linK row k = ((((List.finRange row.length).take k).reverse).filter (nzV row)).map (monoX row)
  | 0, _ => by simp [linK]
  | k + 1, h => by
    have ih := linK_take (row := row) (k := k) (by omega)
    have hk : (List.finRange row.length)[k]? = some ⟨k, by omega⟩ := List.getElem?_eq_some_iff.2 ⟨by rw [List.length_finRange]; omega, List.getElem_finRange _⟩
    rw [List.take_add_one, hk, Option.toList_some, List.reverse_append, List.reverse_singleton, List.singleton_append, List.filter_cons]
    unfold linK
    rw [ih]
    have hg : row.getD k 0 = row[(⟨k, by omega⟩ : Fin row.length)] := by simp [List.getD, List.getElem?_eq_getElem (show k < row.length by omega)]
    rw [hg]
    unfold putF nzV
    by_cases h0 : row[(⟨k, by omega⟩ : Fin row.length)] = 0
    · rw [if_pos h0, decide_eq_true h0]; rfl
    · rw [if_neg h0, decide_eq_false h0]; rfl
theorem linK_all (row : List Int) : linK row row.length = linMs row := by
  rw [linK_take (Nat.le_refl _)]
  have : (List.finRange row.length).take row.length = List.finRange row.length := by
    exact List.take_of_length_le (by simp)
  rw [this]; rfl

set_option maxHeartbeats 4000000 in
theorem s_l13Linear (w : World) (v : Value) (row : List Int) (ha : Ints w v row) (hn : row.length ≤ 3) :
    Calls Try.prog 24 #[v] w fun e w' => ∃ r, e = .returned r ∧ OMo w' w.heap.size w'.heap.size r (linMs row) ∧ Below w.heap.size w w' := by
  obtain ⟨A, c, rfl, l1, l2, h3⟩ := ha.open_
  have H3 := Lib.hid h3
  have OL := Lib.hid (show OMo (w.alloc (.cells #[] tM)) w.heap.size (w.alloc (.cells #[] tM)).heap.size (.slice (some ⟨w.heap.size, 0, none⟩) 0 0) [] from
    ⟨[], OwnK.lit w tM 2 [] (fun c hc => by simp at hc) (by simp [maxLen]) #[] rfl, fun b hb => by simp [Value.ownBlock] at hb; subst hb; simp, RowsOwn.nil _ _ _ _, fun m hm => by simp at hm⟩)
  have HB0 := Lib.hid (below1 w (.cells #[] tM))
  clear ha h3
  go_enter Try.func24, Try.ntmps24
  go_wp2_with fail
  generalize (w.alloc (.cells #[] tM)) = w4 at OL HB0 ⊢
  go_loopw [3, 4] (fun o i wr => ∃ k : Nat, k ≤ row.length ∧ i = .int .i64 k ∧ OMo wr w.heap.size wr.heap.size o (linK row k) ∧ Below w.heap.size w wr) (fun _ i _ => row.length - (intOf i).toNat)
  case atStart => exact ⟨0, Nat.zero_le _, rfl, OL.out, HB0.out⟩
  case round =>
    obtain ⟨k, hk, rfl, ho, hb⟩ := hrel
    clear OL HB0
    have HO := Lib.hid ho
    have HB := Lib.hid hb
    obtain ⟨Ao, co, hv, -⟩ := ho.monos.open_
    subst hv
    by_cases hlt : k < row.length
    · obtain ⟨ad, ca, rfl, hr, hin, hc0⟩ := H3.out k hlt
      have hadl := World.block_lt_of_cell? w _ hc0
      have hc : wr.cell? (ad.add k) = some (.int .i64 ca) := (HB.out.cell hadl).trans hc0
      have HADL := Lib.hid (show (ad.add k).block < wr.heap.size from Nat.lt_of_lt_of_le hadl HB.out.size)
      have HC := Lib.hid (show row.getD k 0 = ca by simp [List.getD, hr])
      have HI := Lib.hid hin
      have hki : (k : Int) < (row.length : Int) := by omega
      have HLL := Lib.hid (linK_len row k)
      have HPRE := Lib.hid (linK_pre hlt hn)
      clear hadl hc0 hr hin ho hb H3
      obtain ⟨L, hL⟩ : ∃ L, L = (linK row k).length := ⟨_, rfl⟩
      have HL := Lib.hid hL
      rw [← hL] at HO ⊢
      clear hL
      go_upto_region 5 with fail
      go_region_law (first
        | (go_simp; go_at_call 43; refine (s_l13One _ row.length k hlt (by omega)).mono ?_; rintro e w5 ⟨r5, rfl, ho5, hb5⟩; obtain ⟨A5, c5, hv5, -, -, -⟩ := ho5.ints.open_; subst hv5; have q5 : w5.cell? (ad.add k) = some (.int .i64 ca) := ((below_of_drew hb5).cell HADL.out).trans hc)
        | (go_simp; go_at_call 42; refine (s_l13PutF _ _ _ (linK row k) ca (unitV row.length k) (by exact (HO.out.agree (Same.of_below (below_of_drew hb5) (Nat.le_refl _))).monos) (by exact ho5.ints) HI.out (by have := HLL.out; omega) (by simp [unitV]; omega) HPRE.out).mono ?_; rintro e w6 ⟨r6, rfl, ho6, hb6⟩))
      all_goals
        have hw5 := below_of_drew hb5
        have hs5 := hw5.size
        have hsb := HB.out.size
        have hm6 : OMo w6 w.heap.size w6.heap.size r6 (linK row (k + 1)) := by
          unfold linK
          rw [HC.out]
          exact ho6.mono (by first | omega | (simp; omega)) (Nat.le_refl _)
        have hb16 : Below w.heap.size w w6 := (HB.out.trans (hw5.mono hsb)).trans (Below.mono (by exact hb6) (by omega))
        clear q5 hc
        go_wp2_with fail
        go_roundw
        case rel => exact ⟨k + 1, by omega, by go_num, hm6, hb16⟩
        case measure => simp [intOf]; omega
    · have : k = row.length := by omega
      subst this
      go_wp2_with fail
      go_ret
      rw [linK_all] at HO
      refine ⟨_, rfl, ?_, HB.out⟩
      first | exact HO.out | (rw [linK_all]; exact HO.out)
end Go.Proofs.Ytofabikjjkapmaa

