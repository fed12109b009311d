/- Walk of the reference: l13Put in general (where it is put is not told, only the numbers' ranges). | Walks: numbers that are drawn (laws.dice): any numbers in their ranges; what the source holds is not told. | Walks: numbers that are drawn (spec.l01Source). (printed by drwgen.py) | Level lists, plain: what the program and the reference reckon with them. No program in sight. | Words of memory for level lists and lists of them: slices of slices, rows that can be read, branches that grow. | Slices of slices, at lists of numbers and at lists of lists. -/
import Derived.Test.YtnnfjjadehgmeaaGreatDoorFt9
import Derived.Test.YtnnfjjadehgmeaaGreatDoorFt2
import Derived.Deep.DeepCutAuto
import Derived.Test.YtnnfjjadehgmeaaGreatDoorRows
import Derived.Test.YtnnfjjadehgmeaaGreatDoorFt1
import Derived.Test.YtnnfjjadehgmeaaGreatDoorFt8
import Derived.BigQuiet
import Derived.Deep.RegionLaw
import Derived.WalkSmall
import Derived.IntWalk
import Derived.Deep.CutRange
import Derived.Deep.CutBlock
import Derived.Deep.QuietTactic
import Derived.WalkLawsBesides
import Derived.Deep.RegionHeld3
set_option maxRecDepth 100000
set_option linter.unusedVariables false
set_option linter.unusedSimpArgs false
namespace Go.Proofs.YtnnfjjadehgmeaaGreatDoor
open Go.RowKit

/-- a monomial of N variables with a number and small exponents -/
def MB (N : Nat) (m : Mono) : Prop := (0 ≤ m.1 ∧ m.1 ≤ 10006) ∧ m.2.length = N ∧ ∀ z ∈ m.2, 0 ≤ z ∧ z ≤ 3
theorem oi_setCellR {w : World} {B : Nat} {e : TypeId} {v : Value} {zs : List Int} (h : OwnInts w B e v zs) {p : Addr} (hp : p.block < B) (u : Value) : OwnInts (w.setCell p u) B e v zs := ⟨h.1.of_block fun b hb => Below.heap_setCell w p u b (by have := h.1.ge b hb; omega), h.2⟩
theorem oi_setBlk {w : World} {B g : Nat} {v : Value} {zs : List Int} {cs : Array Value} (h : OwnInts w B tI v zs) (hk : Blk w g tM cs) (u : Value) (i : Nat) : OwnInts (w.setCell ⟨g, i, none⟩ u) B tI v zs :=
  ⟨h.1.of_block fun b hb => Below.heap_setCell w ⟨g, i, none⟩ u b (fun e => by
    rcases h.1.bt with h0 | ⟨g', cur, fz, h1, h2⟩
    · rw [h0] at hb; cases hb
    · rw [h1] at hb
      injection hb with hb
      have hk' : w.heap[g]? = some (.cells cs tM (0, 0)) := hk
      rw [hb, e] at h2
      simp only at h2
      rw [hk'] at h2
      injection h2 with h2
      injection h2 with _ h3
      exact absurd h3 (by decide)), h.2⟩
theorem mb_snoc {N : Nat} {mo : List Mono} (h : ∀ m ∈ mo, MB N m) {m : Mono} (hm : MB N m) : ∀ x ∈ mo ++ [m], MB N x := fun x hx => by
  rcases List.mem_append.1 hx with hx | hx
  · exact h x hx
  · rw [List.mem_singleton.1 hx]; exact hm
theorem mb_in {N : Nat} {m : Mono} (h : MB N m) : In64 m.1 := by have := h.1; unfold In64; omega

set_option maxHeartbeats 16000000 in
theorem s_l13PutG (w : World) (v vp : Value) (ms : List Mono) (f : Int) (p : List Int) (N : Nat) (hv : Monos w v ms) (hp : Ints w vp p) (hms : ∀ m ∈ ms, MB N m) (hfp : MB N (f, p)) (hl : ms.length ≤ 1000) (hN : N ≤ 1000) :
    Calls Tryz.prog 58 #[v, .int .i64 f, vp] w fun e w' => ∃ r mo us, e = .returned r ∧ OMd w' w.heap.size w'.heap.size r us mo ∧ (∀ m ∈ mo, MB N m) ∧ mo.length ≤ ms.length + 1 ∧ Below w.heap.size w w' := by
  obtain ⟨A, c, rfl, l1, l2, h3⟩ := hv.open_
  obtain ⟨Ap, cp, rfl, -, -, -⟩ := hp.open_
  have H3 := Lib.hid h3
  have HP := Lib.hid hp
  have HMS := Lib.hid hms
  have HFP := Lib.hid hfp
  have hpl : p.length = N := hfp.2.1
  have hpl2 : p.length ≤ 1000 := by omega
  have hf0 : 0 ≤ f ∧ f ≤ 10006 := hfp.1
  have OL := Lib.hid ((OMd.newP w).mono (Nat.le_refl _) (show w.heap.size + 1 ≤ (w.alloc (.cells #[] tM)).heap.size by simp))
  have HB0 := Lib.hid (below1 w (.cells #[] tM))
  clear hv hp h3 hms hfp hpl
  obtain ⟨d0, hd0⟩ : ∃ d0, d0 = decide (f = 0) := ⟨_, rfl⟩
  have hfe : (f == 0) = d0 := by rw [hd0]; by_cases h : f = 0 <;> simp [h]
  clear hd0
  go_enter Tryz.func58, Tryz.ntmps58
  go_wp2_with fail
  generalize (w.alloc (.cells #[] tM)) = w4 at OL HB0 ⊢
  go_loopw [7, 8, 9] (fun o d i wr => ∃ (j : Nat) (us : List Value) (mo : List Mono) (dd : Bool), j ≤ ms.length ∧ i = .int .i64 j ∧ d = .bool dd ∧ OMd wr w.heap.size wr.heap.size o us mo ∧ Hid (∀ m ∈ mo, MB N m) ∧ mo.length ≤ j + 1 ∧ Hid (dd = false → mo.length ≤ j) ∧ Below w.heap.size w wr) (fun _ _ i _ => ms.length - (intOf i).toNat)
  case atStart => exact ⟨0, [], [], _, Nat.zero_le _, rfl, rfl, OL.out, Lib.hid (fun m hm => by simp at hm), by simp, Lib.hid (fun _ => by simp), HB0.out⟩
  case round =>
    obtain ⟨j, us, mo, dd, hj, rfl, rfl, ho, HMO, hmo, HDD, hb⟩ := hrel
    clear OL HB0 hfe
    have HO := Lib.hid ho
    have HB := Lib.hid hb
    obtain ⟨Ao, co, hv, -⟩ := ho.open_
    subst hv
    by_cases hlt : j < ms.length
    · obtain ⟨b, o, m, u, hA, hm, hmi, hu, hc0, hc1⟩ := H3.out j hlt
      subst hA
      have k0 : wr.cell? ⟨b, o + j * 2, none⟩ = some (.int .i64 m.1) := (HB.out.cell (World.block_lt_of_cell? w _ hc0)).trans hc0
      have k1 : wr.cell? ⟨b, o + j * 2 + 1, none⟩ = some u := (HB.out.cell (World.block_lt_of_cell? w _ hc1)).trans hc1
      obtain ⟨Au, cu, rfl, -, -, -⟩ := hu.open_
      have HU := Lib.hid (hu.below HB.out)
      have HMB := Lib.hid (HMS.out m (List.mem_of_getElem? hm))
      have hm0 := HMB.out.1
      have hml : m.2.length ≤ 1000 := by have := HMB.out.2.1; omega
      have hji : (j : Int) < (ms.length : Int) := by omega
      have hbl := World.block_lt_of_cell? w _ hc0
      have HBL := Lib.hid (show b < wr.heap.size from Nat.lt_of_lt_of_le hbl HB.out.size)
      clear hc0 hc1 hu hm hmi hbl ho hb
      go_upto_region 5 with fail
      go_cut [10] from 14 to 66 (fun x wx => ∃ q A5 c5, x = .pointer (some ⟨q, 0, none⟩) ∧ wr.heap.size ≤ q ∧ Blk wx q tM #[.int .i64 m.1, .slice A5 m.2.length c5] ∧ OwnInts wx wr.heap.size tI (.slice A5 m.2.length c5) m.2 ∧ Below wr.heap.size wr wx)
      case first =>
        have k0a : ∀ x, (wr.alloc x).cell? ⟨b, o + j * 2, none⟩ = some (.int .i64 m.1) := fun x => by rw [World.cell?_alloc_old wr x _ (Nat.ne_of_lt HBL.out)]; exact k0
        have k1a : ∀ x, (wr.alloc x).cell? ⟨b, o + j * 2 + 1, none⟩ = some (.slice Au m.2.length cu) := fun x => by rw [World.cell?_alloc_old wr x _ (Nat.ne_of_lt HBL.out)]; exact k1
        go_region_law ((go_simp; go_at_call 81; refine (s_l01Own _ _ m.2 (by first | exact HU.out | exact (HU.out.below (below1 wr _).drew)) (by omega)).mono ?_; rintro e w5 ⟨r5, rfl, ho5, hb5⟩; obtain ⟨A5, c5, hv5, -, -, -⟩ := ho5.ints.open_; subst hv5; have hw5 : Below wr.heap.size wr w5 := (by first | exact below_of_drew hb5 | exact ((below1 wr _).trans ((below_of_drew hb5).mono (by simp)))); have hi5 : OwnInts w5 wr.heap.size tI (.slice A5 m.2.length c5) m.2 := ho5.mono (by simp); have q5 : w5.cell? ⟨b, o + j * 2, none⟩ = some (.int .i64 m.1) := (hw5.cell HBL.out).trans k0; have q5a : ∀ x, (w5.alloc x).cell? ⟨b, o + j * 2, none⟩ = some (.int .i64 m.1) := (fun x => by rw [World.cell?_alloc_old w5 x _ (Nat.ne_of_lt (Nat.lt_of_lt_of_le HBL.out hw5.size))]; exact q5); (first | (have K5 : Blk w5 wr.heap.size tM #[.int .i64 0, .slice none 0 0] := (Blk.new wr _ _).below (below_of_drew hb5) (by simp); have q6 := K5.cell 0; have q7 := K5.cell 1; have q8 := K5.frozen 0; have q9 := K5.frozen 1) | skip)))
        all_goals (go_wp2_with fail)
        all_goals go_meet
        all_goals first
          | exact ⟨_, A5, c5, rfl, hw5.size, Blk.new w5 _ _, hi5.below (below1 w5 _), hw5.trans ((below1 w5 _).mono hw5.size)⟩
          | exact ⟨_, A5, c5, rfl, Nat.le_refl _, (K5.set_ 0 (.int .i64 m.1)).set_ 1 (.slice A5 m.2.length c5), (oi_setCellR (oi_setCellR ho5 (by simp) _) (by simp) _).mono (by simp), (hw5.setCell (Nat.le_refl _) _).setCell (Nat.le_refl _) _⟩
          | trace_state
      case rest =>
        obtain ⟨q, A5, c5, rfl, hq, hblk, hi5, hb5⟩ := hcut
        rename World => w5
        have HQ := Lib.hid hq
        have HI5 := Lib.hid hi5
        have HBK := Lib.hid hblk
        have HB5 := Lib.hid hb5
        have HPC := Lib.hid (HP.out.below (HB.out.trans (hb5.mono HB.out.size)))
        have k1 : w5.cell? ⟨q, 1, none⟩ = some (.slice A5 m.2.length c5) := hblk.cell 1
        have HSM := Lib.hid (s_l01Same w5 _ _ m.2 p HI5.out.ints HPC.out)
        have HAP := Lib.hid (show ∀ (k : Nat) (x : Value), us[k]? = some x → Apart x (.slice A5 m.2.length c5) from fun k x hx => by
          have hz : (mo.map (·.2))[k]? = some ((mo.map (·.2))[k]'(by rw [← HO.out.rows.1]; exact (List.getElem?_eq_some_iff.1 hx).1)) := List.getElem?_eq_getElem _
          have ho := HO.out.rows.2.1 k x _ hx hz
          exact apart_of_lt (B := wr.heap.size) (fun b hb => ho.2 b hb) (fun b hb => HI5.out.1.ge b hb))
        clear hq hblk hi5 hb5
        go_upto_region 6 with fail
        go_cut [39] from 14 to 66 (fun x wx => ∃ b n, x = .bool b ∧ Hid (b = true → dd = false) ∧ Hid (wx = w5.drewN n))
        case first =>
          cases dd with
          | true =>
            go_wp2_with fail
            go_meet
            exact ⟨false, 0, rfl, Lib.hid (by simp), Lib.hid rfl⟩
          | false =>
            go_wp2_with (go_at_call 82; go_loud (refine HSM.out.mono ?_; rintro e w1 ⟨rfl, n1, rfl⟩))
            go_meet
            exact ⟨_, n1, rfl, Lib.hid (by simp), Lib.hid rfl⟩
        case rest =>
          obtain ⟨b, n1, rfl, HBD, HWX⟩ := hcut
          rename World => w6
          have HB56 := Lib.hid (show Below w5.heap.size w5 w6 by rw [HWX.out]; exact below_drewN (Below.refl _ _) _)
          have HBK6 := Lib.hid (HBK.out.below HB56.out HBK.out.lt)
          have HI6 := Lib.hid (HI5.out.below HB56.out)
          have HB6 := Lib.hid (HB5.out.trans (HB56.out.mono HB5.out.size))
          clear HBK HI5 HB5 HB56 HWX HSM HPC k1
          have k0 : w6.cell? ⟨q, 0, none⟩ = some (.int .i64 m.1) := HBK6.out.cell 0
          have g0 : w6.frozen? ⟨q, 0, none⟩ = false := HBK6.out.frozen 0
          go_upto_if 39 with fail
          go_cut [8] from 14 to 66 (fun x wx => ∃ d2 f1, x = .bool d2 ∧ 0 ≤ f1 ∧ f1 ≤ 10006 ∧ Hid (d2 = false → dd = false) ∧ Blk wx q tM #[.int .i64 f1, .slice A5 m.2.length c5] ∧ OwnInts wx wr.heap.size tI (.slice A5 m.2.length c5) m.2 ∧ Below wr.heap.size wr wx)
          case first =>
            have hmod : 0 ≤ (m.1 + f) % 10007 ∧ (m.1 + f) % 10007 ≤ 10006 := by omega
            cases b with
            | true =>
              go_wp2_with (go_at_call 83; go_loud (refine (s_l01Add m.1 f _ (by omega) (by omega) (by omega) (by omega)).mono ?_; rintro e w1 ⟨rfl, rfl⟩))
              go_meet
              exact ⟨true, _, rfl, hmod.1, hmod.2, Lib.hid (by simp), HBK6.out.set_ 0 _, oi_setBlk HI6.out HBK6.out _ 0, HB6.out.setCell HQ.out _⟩
            | false =>
              go_wp2_with fail
              go_meet
              exact ⟨dd, m.1, rfl, hm0.1, hm0.2, Lib.hid (fun e => e), HBK6.out, HI6.out, HB6.out⟩
          case rest =>
            obtain ⟨d2, f1, rfl, hf1, hf1', HD2, hbk, hi, hb⟩ := hcut
            rename World => w7
            have HBK7 := Lib.hid hbk
            have HI7 := Lib.hid hi
            have HB7 := Lib.hid hb
            clear hbk hi hb HBK6 HI6 HB6 k0 g0
            have HPC := Lib.hid (HP.out.below (HB.out.trans (HB7.out.mono HB.out.size)))
            have k1 : w7.cell? ⟨q, 1, none⟩ = some (.slice A5 m.2.length c5) := HBK7.out.cell 1
            have HLS := Lib.hid (s_l01Less w7 _ _ p m.2 HPC.out HI7.out.ints)
            go_upto_region 9 with fail
            go_cut [52] from 14 to 66 (fun x wx => ∃ b n, x = .bool b ∧ Hid (b = true → d2 = false) ∧ Hid (wx = w7.drewN n))
            case first =>
              cases d2 with
              | true =>
                go_wp2_with fail
                go_meet
                exact ⟨false, 0, rfl, Lib.hid (by simp), Lib.hid rfl⟩
              | false =>
                go_wp2_with (go_at_call 42; go_loud (refine HLS.out.mono ?_; rintro e w1 ⟨rfl, n1, rfl⟩))
                go_meet
                exact ⟨_, n1, rfl, Lib.hid (by simp), Lib.hid rfl⟩
            case rest =>
              obtain ⟨b2, n2, rfl, HBD2, HWX⟩ := hcut
              rename World => w8
              have HB78 := Lib.hid (show Below w7.heap.size w7 w8 by rw [HWX.out]; exact below_drewN (Below.refl _ _) _)
              have HBK8 := Lib.hid (HBK7.out.below HB78.out HBK7.out.lt)
              have HI8 := Lib.hid (HI7.out.below HB78.out)
              have HB8 := Lib.hid (HB7.out.trans (HB78.out.mono HB7.out.size))
              clear HBK7 HI7 HB7 HB78 HWX HLS HPC k1
              have HC8 := Lib.hid (HO.out.agree (Same.of_below HB8.out (Nat.le_refl _)))
              have HPC := Lib.hid (HP.out.below (HB.out.trans (HB8.out.mono HB.out.size)))
              go_upto_if 52 with fail
              go_cut [7, 8] from 14 to 66 (fun o8 x wx => ∃ d3 us3 mo3, x = .bool d3 ∧ OMd wx w.heap.size wx.heap.size o8 us3 mo3 ∧ Hid (∀ m ∈ mo3, MB N m) ∧ mo3.length ≤ j + 1 ∧ Hid (d3 = false → mo3.length ≤ j) ∧ Hid (∀ (k : Nat) (x : Value), us3[k]? = some x → Apart x (.slice A5 m.2.length c5)) ∧ Blk wx q tM #[.int .i64 f1, .slice A5 m.2.length c5] ∧ OwnInts wx w.heap.size tI (.slice A5 m.2.length c5) m.2 ∧ Below w.heap.size w wx)
              case first =>
                cases b2 with
                | true =>
                  have HDF := Lib.hid (HDD.out (HD2.out (HBD2.out rfl)))
                  have hsb := HB.out.size
                  have hs8 := HB8.out.size
                  go_wp2_with (first
                    | (go_at_call 81; go_loud (refine (s_l01Own w8 _ p HPC.out (by omega)).mono ?_; rintro e w9 ⟨r7, rfl, ho7, hb7⟩; obtain ⟨A7, c7, hv7, -, -, -⟩ := ho7.ints.open_; subst hv7; have HO7 := Lib.hid ho7; have HB7 := Lib.hid hb7; clear ho7 hb7))
                    | (at_builtin; go_loud (refine wpList_app1K T_monoP (B := w.heap.size) (W := w9.alloc (.cells #[.int .i64 f, .slice A7 p.length c7] tM)) (c := [.int .i64 f, .slice A7 p.length c7]) (v := .slice Ao mo.length co) (css := List.zipWith cellM us mo) (OwnK.below (OwnK.below HC8.out.own HB7.out) (below1 w9 _)) (by rw [HO.out.zlen]; omega) (by have := HB7.out.size; simp; omega) rfl (by intro u hu; simp at hu; rcases hu with rfl | rfl <;> rfl) (lit_cells _ _ _ _ rfl) (by rfl) rfl (by rfl) (by rfl) ?_; intro v10 w10 hown10 hgr10; have HN10 := Lib.hid hown10; have HG10 := Lib.hid hgr10; clear hown10 hgr10)))
                  go_meet
                  have hba := below1 w9 (.cells #[.int .i64 f, .slice A7 p.length c7] tM)
                  have hb8a := HB7.out.trans (hba.mono HB7.out.size)
                  have hd := HC8.out.pushP (m := (f, p)) hs8 (Nat.le_trans hsb hs8) hb8a (HO7.out.below hba) (mb_in HFP.out) HN10.out HG10.out
                  refine ⟨true, _, _, rfl, hd, Lib.hid (mb_snoc HMO.out HFP.out), by rw [List.length_append, List.length_singleton]; exact Nat.succ_le_succ HDF.out, Lib.hid (by simp), Lib.hid (fun k x hx => ?_), (HBK8.out.below hb8a HBK8.out.lt).growP HG10.out (fun e => by have h1 := HO.out.lt _ e; have h2 := HQ.out; omega), ((HI8.out.below hb8a).mono hsb).kept HG10.out.1 ((HI8.out.below hb8a).1.bt.ne (OwnK.below HC8.out.own hb8a).bt (by decide)), HG10.out.below ((HB.out.trans (HB8.out.mono hsb)).trans (hb8a.mono (Nat.le_trans hsb hs8))) (Nat.le_trans (Nat.le_trans hsb hs8) hb8a.size) (fun b hb => HC8.out.own.ge b hb)⟩
                  rcases Nat.lt_or_ge k us.length with hk | hk
                  · rw [List.getElem?_append_left hk] at hx
                    exact HAP.out k x hx
                  · rw [List.getElem?_append_right hk] at hx
                    have hx' := List.mem_of_getElem? hx
                    rw [List.mem_singleton] at hx'
                    subst hx'
                    exact (apart_of_lt (B := w8.heap.size) (fun b hb => HI8.out.1.lt b hb) (fun b hb => HO7.out.1.ge b hb)).symm
                | false =>
                  go_wp2_with fail
                  go_meet
                  exact ⟨d2, us, mo, rfl, HC8.out.mono (Nat.le_refl _) HB8.out.size, HMO, hmo, Lib.hid (fun e => HDD.out (HD2.out e)), HAP, HBK8.out, HI8.out.mono HB.out.size, HB.out.trans (HB8.out.mono HB.out.size)⟩
              case rest =>
                obtain ⟨d3, us3, mo3, rfl, ho3, HM3, hm3, HD3, HAP3, hbk, hi, hb⟩ := hcut
                rename World => w11
                obtain ⟨A3, c3, hv3, -⟩ := ho3.open_
                subst hv3
                have HO3 := Lib.hid ho3
                have HI11 := Lib.hid hi
                have HB11 := Lib.hid hb
                have k0 : w11.cell? ⟨q, 0, none⟩ = some (.int .i64 f1) := hbk.cell 0
                have k1 : w11.cell? ⟨q, 1, none⟩ = some (.slice A5 m.2.length c5) := hbk.cell 1
                have HF1 := Lib.hid (show MB N (f1, m.2) from ⟨⟨hf1, hf1'⟩, HMB.out.2⟩)
                clear ho3 hi hb hbk HBK8 HI8 HB8 HC8 HPC HAP HO HMO HDD HD2 HBD2 HBD
                by_cases hf : f1 = 0
                · have hne : (f1 != 0) = false := by simp [hf]
                  clear hf
                  go_wp2_with fail
                  go_roundw
                  case rel => exact ⟨j + 1, us3, mo3, d3, by omega, by go_num, rfl, HO3.out, HM3, by omega, Lib.hid (fun e => Nat.le_succ_of_le (HD3.out e)), HB11.out⟩
                  case measure => simp [intOf]; omega
                · have hne : (f1 != 0) = true := by simpa using hf
                  clear hf
                  have hs11 := HB11.out.size
                  go_wp2_with (at_builtin; go_loud (refine wpList_app1K T_monoP (B := w.heap.size) (W := w11.alloc (.cells #[.int .i64 f1, .slice A5 m.2.length c5] tM)) (c := [.int .i64 f1, .slice A5 m.2.length c5]) (v := .slice A3 mo3.length c3) (css := List.zipWith cellM us3 mo3) (OwnK.below HO3.out.own (below1 w11 _)) (by rw [HO3.out.zlen]; omega) (by simp; omega) rfl (by intro u hu; simp at hu; rcases hu with rfl | rfl <;> rfl) (lit_cells _ _ _ _ rfl) (by rfl) rfl (by rfl) (by rfl) ?_; intro v12 w12 hown12 hgr12; have HN12 := Lib.hid hown12; have HG12 := Lib.hid hgr12; clear hown12 hgr12))
                  have hba := below1 w11 (.cells #[.int .i64 f1, .slice A5 m.2.length c5] tM)
                  have hd := HO3.out.pushP' (m := (f1, m.2)) (Nat.le_refl _) hba (HI11.out.below hba) HAP3.out (mb_in HF1.out) HN12.out HG12.out
                  have hbw := HG12.out.below (HB11.out.trans (hba.mono hs11)) (Nat.le_trans hs11 hba.size) (fun b hb => HO3.out.own.ge b hb)
                  go_roundw
                  case rel => exact ⟨j + 1, _, _, d3, by omega, by go_num, rfl, hd, Lib.hid (mb_snoc HM3.out HF1.out), by rw [List.length_append, List.length_singleton]; omega, Lib.hid (fun e => by rw [List.length_append, List.length_singleton]; exact Nat.succ_le_succ (HD3.out e)), hbw⟩
                  case measure => simp [intOf]; omega
    · have hjl : j = ms.length := by omega
      subst hjl
      have hsb := hb.size
      have HPO := Lib.hid (s_l01Own wr (.slice Ap p.length cp) p (HP.out.below HB.out) (by omega))
      clear ho hb
      cases dd with
      | true =>
        go_wp2_with fail
        go_ret
        exact ⟨_, mo, us, rfl, HO.out, HMO.out, hmo, HB.out⟩
      | false =>
        have HDF := Lib.hid (HDD.out rfl)
        go_wp2_with (first
          | (go_at_call 81; go_loud (refine HPO.out.mono ?_; rintro e w7 ⟨r7, rfl, ho7, hb7⟩; obtain ⟨A7, c7, hv7, -, -, -⟩ := ho7.ints.open_; subst hv7; have HO7 := Lib.hid ho7; have HB7 := Lib.hid hb7; clear ho7 hb7))
          | (at_builtin; go_loud (refine wpList_app1K T_monoP (B := w.heap.size) (W := w7.alloc (.cells #[.int .i64 f, .slice A7 p.length c7] tM)) (c := [.int .i64 f, .slice A7 p.length c7]) (v := .slice Ao mo.length co) (css := List.zipWith cellM us mo) (OwnK.below (OwnK.below HO.out.own HB7.out) (below1 w7 _)) (by rw [HO.out.zlen]; omega) (by have := HB7.out.size; simp; omega) rfl (by intro u hu; simp at hu; rcases hu with rfl | rfl <;> rfl) (lit_cells _ _ _ _ rfl) (by rfl) rfl (by rfl) (by rfl) ?_; intro v8 w8 hown8 hgr8; have HN8 := Lib.hid hown8; have HG8 := Lib.hid hgr8; clear hown8 hgr8)))
        go_ret
        have hba := below1 w7 (.cells #[.int .i64 f, .slice A7 p.length c7] tM)
        have hb78 := HB7.out.trans (hba.mono HB7.out.size)
        have hd8 := HO.out.pushP (m := (f, p)) (Nat.le_refl _) hsb hb78 (HO7.out.below hba) (mb_in HFP.out) HN8.out HG8.out
        exact ⟨_, _, _, rfl, hd8, mb_snoc HMO.out HFP.out, by rw [List.length_append, List.length_singleton]; exact Nat.succ_le_succ HDF.out, HG8.out.below (HB.out.trans (hb78.mono hsb)) (Nat.le_trans hsb hb78.size) (fun b hb => HO.out.own.ge b hb)⟩
end Go.Proofs.YtnnfjjadehgmeaaGreatDoor

set_option maxRecDepth 100000
set_option linter.unusedVariables false
set_option linter.unusedSimpArgs false
namespace Go.Proofs.YtnnfjjadehgmeaaGreatDoor
open Go.RowKit

/-- bytes that can be read, in a block below B -/
def ByB (w : World) (B : Nat) (A : Option Addr) (n : Nat) : Prop := ∀ k, k < n → ∃ ad z, A = some ad ∧ ad.block < B ∧ ad.block < w.heap.size ∧ 0 ≤ z ∧ z ≤ 255 ∧ w.cell? (ad.add k) = some (.int .u8 z)
/-- a byte slice that can be read -/
def Bts (w : World) (v : Value) (n : Nat) : Prop := ∃ A c, v = .slice A n c ∧ ByB w w.heap.size A n
/-- a source of numbers in block p: the bytes, the place, the hash -/
def Src (w : World) (B : Nat) (t : TypeId) (p : Nat) : Prop := ∃ (A : Option Addr) (n c k : Nat) (h : Int), Blk w p t #[.slice A n c, .int .i64 k, .int .u64 h] ∧ B ≤ p ∧ ByB w B A n ∧ k ≤ n ∧ n ≤ 1000000 ∧ 0 ≤ h ∧ h < 18446744073709551616
abbrev at0 (p : Nat) : Value := .pointer (some ⟨p, 0, none⟩)
theorem ByB.grown {w w' : World} {B n p : Nat} {A : Option Addr} (h : ByB w B A n) (hg : w.grownBy w' (some p)) (hp : B ≤ p) : ByB w' B A n := fun k hk => by
  obtain ⟨ad, z, rfl, h1, h2, h3, h4, h5⟩ := h k hk
  refine ⟨ad, z, rfl, h1, Nat.lt_of_lt_of_le h2 hg.size, h3, h4, ?_⟩
  have hb : w'.heap[ad.block]? = w.heap[ad.block]? := hg.block ad.block h2 (fun e => by injection e with e; omega)
  rw [← h5]
  unfold World.cell?
  simp only [block_add]
  rw [hb]
theorem gset (w : World) (g i : Nat) (u : Value) : w.grownBy (w.setCell ⟨g, i, none⟩ u) (some g) := by
  have b := Below.setCell (B := 0) (Below.refl 0 w) (p := ⟨g, i, none⟩) (Nat.zero_le _) u
  exact ⟨b.os, b.tape, b.output, b.size, fun k hk hne => Below.heap_setCell w _ u k (fun e => hne (by rw [e]))⟩
theorem w64_dr (x : Int) (h : -9223372036854775808 ≤ x ∧ x ≤ 9223372036854775807) : wrap64 x = x := by unfold wrap64; omega
theorem u64_bd (x : Int) : 0 ≤ IntKind.u64.wrap x ∧ IntKind.u64.wrap x < 18446744073709551616 := by rw [IntKind.wrap_u64]; omega
theorem bits_bd {x : Int} (h0 : 0 ≤ x) (h1 : x < 18446744073709551616) : 0 ≤ bits BinOp.and IntKind.u64 x 16777215 ∧ bits BinOp.and IntKind.u64 x 16777215 ≤ 16777215 := by
  have h := bits_and_u64_nat x.toNat 16777215 (by omega) (by omega)
  rw [Int.toNat_of_nonneg h0] at h
  have h2 : x.toNat &&& 16777215 ≤ 16777215 := Nat.and_le_right
  rw [show (16777215 : Int) = ((16777215 : Nat) : Int) from rfl, h]
  omega
/-- what one step of the hash gives -/
theorem hash_bd (z : Int) : ∃ x y : Int, x = IntKind.u64.wrap z ∧ 0 ≤ x ∧ x < 18446744073709551616 ∧ y = bits BinOp.and IntKind.u64 (x / 8589934592) 16777215 ∧ wrap64 (bits BinOp.and IntKind.u64 (x / 8589934592) 16777215) = y ∧ 0 ≤ y ∧ y ≤ 16777215 := by
  have h1 := u64_bd z
  have h2 := bits_bd (x := IntKind.u64.wrap z / 8589934592) (by omega) (by omega)
  exact ⟨_, _, rfl, h1.1, h1.2, rfl, w64_dr _ (by omega), h2.1, h2.2⟩
theorem rem_bd {x n : Int} (h0 : 0 ≤ x) (h1 : 1 ≤ n) : 0 ≤ x % n ∧ x % n < n := ⟨Int.emod_nonneg _ (by omega), Int.emod_lt_of_pos _ (by omega)⟩
theorem gtrans {w w1 w2 : World} {b : Option Nat} (h : w.grownBy w1 b) (h' : w1.grownBy w2 b) : w.grownBy w2 b :=
  ⟨h'.os.trans h.os, h'.tape.trans h.tape, h'.output.trans h.output, Nat.le_trans h.size h'.size, fun k hk hne => (h'.block k (Nat.lt_of_lt_of_le hk h.size) hne).trans (h.block k hk hne)⟩
theorem gof {w w' : World} {r : Option Nat} (h : Below w.heap.size w w') : w.grownBy w' r := ⟨h.os, h.tape, h.output, h.size, fun k hk _ => h.block k hk⟩
/-- the source is kept where others grow -/
theorem Src.kept {w w' : World} {B p : Nat} {t : TypeId} {r : Option Nat} (h : Src w B t p) (hg : w.grownBy w' r) (hne : r ≠ some p) (hr : ∀ b, r = some b → B ≤ b) : Src w' B t p := by
  obtain ⟨A, m, c, k, hs, hk, hB, hby, h1⟩ := h
  refine ⟨A, m, c, k, hs, (hg.block p hk.lt (fun e => hne e.symm)).trans hk, hB, fun j hj => ?_, h1⟩
  obtain ⟨ad, z, rfl, a1, a2, z0, z1, hc⟩ := hby j hj
  refine ⟨ad, z, rfl, a1, Nat.lt_of_lt_of_le a2 hg.size, z0, z1, ?_⟩
  have hb : w'.heap[ad.block]? = w.heap[ad.block]? := hg.block ad.block a2 (fun e => by have := hr _ e.symm; omega)
  rw [← hc]
  unfold World.cell?
  simp only [block_add]
  rw [hb]
theorem Src.below {w w' : World} {B p : Nat} {t : TypeId} (h : Src w B t p) (hg : Below w.heap.size w w') : Src w' B t p := h.kept (r := none) (gof hg) (by simp) (by simp)
theorem Src.ge {w : World} {B p : Nat} {t : TypeId} (h : Src w B t p) : B ≤ p := by obtain ⟨A, m, c, k, hs, hk, hB, -⟩ := h; exact hB
theorem Src.lt {w : World} {B p : Nat} {t : TypeId} (h : Src w B t p) : p < w.heap.size := by obtain ⟨A, m, c, k, hs, hk, hB, -⟩ := h; exact hk.lt
theorem gthen {w w1 w2 : World} {p : Nat} {r : Option Nat} (h : w.grownBy w1 (some p)) (h' : w1.grownBy w2 r) (hr : ∀ b, r = some b → w.heap.size ≤ b) : w.grownBy w2 (some p) :=
  ⟨h'.os.trans h.os, h'.tape.trans h.tape, h'.output.trans h.output, Nat.le_trans h.size h'.size, fun k hk hne => (h'.block k (Nat.lt_of_lt_of_le hk h.size) (fun e => by have := hr _ e.symm; omega)).trans (h.block k hk hne)⟩
theorem Own.src {w w' : World} {C p : Nat} {e : TypeId} {v : Value} {vs : List Value} (h : Own w C e v vs) (hp : p < C) (hg : w.grownBy w' (some p)) : Own w' C e v vs := h.kept hg (by
  cases hb : v.ownBlock with
  | none => exact .inl rfl
  | some b => exact .inr fun e => by injection e with e; have := h.ge b hb; omega)
end Go.Proofs.YtnnfjjadehgmeaaGreatDoor

set_option maxRecDepth 100000
set_option linter.unusedVariables false
set_option linter.unusedSimpArgs false
namespace Go.Proofs.YtnnfjjadehgmeaaGreatDoor
open Go.RowKit

abbrev tSc : TypeId := 76
set_option maxHeartbeats 4000000 in
theorem s_l01Next (w : World) (B p : Nat) (n : Int) (h : Src w B tSc p) (hn : n ≤ 4611686018427387904) (hn0 : 1 ≤ n) :
    Calls Tryz.prog 36 #[at0 p, .int .i64 n] w fun e w' => ∃ x, e = .returned (.int .i64 x) ∧ 0 ≤ x ∧ x < n ∧ w.grownBy w' (some p) ∧ Src w' B tSc p := by
  obtain ⟨A, m, c, k, hs, hk, hB, hby, hkm, hm, h0, h1⟩ := h
  have HK := Lib.hid hk
  have HBY := Lib.hid hby
  have k2 : w.cell? ⟨p, 2, none⟩ = some (.int .u64 hs) := hk.cell 2
  have f2 : w.frozen? ⟨p, 2, none⟩ = false := hk.frozen 2
  clear hk hby
  go_enter Tryz.func36, Tryz.ntmps36
  go_upto_region 5 with fail
  obtain ⟨x, y, hx, x0, x1, hy, hw, y0, y1⟩ := hash_bd (IntKind.u64.wrap (hs * 6364136223846793005) + 1442695040888963407)
  rw [← hx, hw, ← hy]
  clear hx hy hw h0 h1 f2 k2
  have HK1 := Lib.hid (HK.out.set_ 2 (.int .u64 x))
  have HG1 := Lib.hid (gset w p 2 (.int .u64 x))
  generalize w.setCell ⟨p, 2, none⟩ (.int .u64 x) = w1 at HK1 HG1 ⊢
  generalize x / 8589934592 = x9
  generalize IntKind.u64.wrap (hs * 6364136223846793005) = x8
  have HBY1 := Lib.hid (HBY.out.grown HG1.out hB)
  have HK1 := Lib.hid (show Blk w1 p tSc #[.slice A m c, .int .i64 k, .int .u64 x] from HK1.out)
  have k0 : w1.cell? ⟨p, 0, none⟩ = some (.slice A m c) := HK1.out.cell 0
  have k1 : w1.cell? ⟨p, 1, none⟩ = some (.int .i64 k) := HK1.out.cell 1
  have f1 : w1.frozen? ⟨p, 1, none⟩ = false := HK1.out.frozen 1
  clear HK HBY
  by_cases hlt : k < m
  · obtain ⟨ad, z, rfl, a1, a2, z0, z1, hc⟩ := HBY1.out k hlt
    have hkk : (k : Int) < (m : Int) := by omega
    have hw1 : wrap64 (y + z) = y + z := w64_dr _ (by omega)
    have hwk : wrap64 ((k : Int) + 1) = (k : Int) + 1 := w64_dr _ (by omega)
    clear a1 a2
    go_quiet (fail)
    go_upto_region 6 with fail
    rename Nat => nq0
    have k0' : (w1.drewN nq0).cell? ⟨p, 0, none⟩ = some (.slice (some ad) m c) := k0
    have k1' : (w1.drewN nq0).cell? ⟨p, 1, none⟩ = some (.int .i64 k) := k1
    have hc' : (w1.drewN nq0).cell? (ad.add k) = some (.int .u8 z) := hc
    go_quiet (fail)
    go_wp2_with fail
    go_ret
    obtain ⟨r0, r1⟩ := rem_bd (x := y + z) (n := n) (by omega) hn0
    have HB2 : w1.grownBy ((w1.drewN (nq0 + nq)).setCell ⟨p, 1, none⟩ (.int .i64 ((k : Int) + 1))) (some p) := gtrans (gof (below_drewN (Below.refl _ _) _)) (gset _ _ _ _)
    exact ⟨_, rfl, r0, r1, gtrans HG1.out HB2, some ad, m, c, k + 1, x, by simpa using (HK1.out.drewN _).set_ 1 (.int .i64 ((k : Int) + 1)), hB, HBY1.out.grown HB2 hB, hlt, hm, x0, x1⟩
  · have hkk : ¬ ((k : Int) < (m : Int)) := by omega
    go_quiet (fail)
    go_wp2_with fail
    go_ret
    obtain ⟨r0, r1⟩ := rem_bd (x := y) (n := n) (by omega) hn0
    rename Nat => nq0
    have HB2 : w1.grownBy (w1.drewN nq0) (some p) := gof (below_drewN (Below.refl _ _) _)
    exact ⟨_, rfl, r0, r1, gtrans HG1.out HB2, A, m, c, k, x, HK1.out.drewN _, hB, HBY1.out.grown HB2 hB, hkm, hm, x0, x1⟩
set_option maxHeartbeats 4000000 in
theorem s_l01From (w : World) (A : Option Addr) (n c : Nat) (hb : ByB w w.heap.size A n) (hn : n ≤ 4096) :
    Calls Tryz.prog 29 #[.slice A n c] w fun e w' => ∃ p, e = .returned (at0 p) ∧ Src w' w.heap.size tSc p ∧ Below w.heap.size w w' := by
  have HBY := Lib.hid hb
  have hs2 : 0 ≤ 5381 + (n : Int) ∧ 5381 + (n : Int) < 18446744073709551616 := by omega
  clear hb
  go_enter Tryz.func29, Tryz.ntmps29
  go_wp2_with fail
  obtain ⟨h0, hh0⟩ : ∃ h0, h0 = 5381 + (n : Int) := ⟨_, rfl⟩
  rw [← hh0] at hs2 ⊢
  obtain ⟨W, hW⟩ : ∃ W, W = w.alloc (Obj.cells #[Value.slice A n c, Value.int IntKind.i64 0, Value.int IntKind.u64 h0] tSc) := ⟨_, rfl⟩
  have HBW := Lib.hid (show Below w.heap.size w W from by rw [hW]; exact below1 w _)
  have HK := Lib.hid (show Blk W w.heap.size tSc #[Value.slice A n c, Value.int IntKind.i64 0, Value.int IntKind.u64 h0] from by rw [hW]; exact Blk.new _ _ _)
  rw [← hW]
  clear hW hh0
  obtain ⟨g0, g1⟩ := hs2
  go_loopw [4] (fun x wr => ∃ (j : Nat) (h : Int), j ≤ n ∧ x = .int .i64 j ∧ 0 ≤ h ∧ h < 18446744073709551616 ∧ Blk wr w.heap.size tSc #[Value.slice A n c, Value.int IntKind.i64 0, Value.int IntKind.u64 h] ∧ Below w.heap.size w wr) (fun x _ => n - (intOf x).toNat)
  case atStart => exact ⟨0, h0, Nat.zero_le _, rfl, g0, g1, HK.out, HBW.out⟩
  case round =>
    obtain ⟨j, h, hj, rfl, q0, q1, hk, hb⟩ := hrel
    rename World => wq
    clear HK HBW
    have HK := Lib.hid hk
    have HB := Lib.hid hb
    have k2 : wq.cell? ⟨w.heap.size, 2, none⟩ = some (.int .u64 h) := hk.cell 2
    have f2 : wq.frozen? ⟨w.heap.size, 2, none⟩ = false := hk.frozen 2
    clear hk hb
    by_cases hlt : j < n
    · have hj4 : (j : Int) < 4096 := by omega
      have hjj : (j : Int) < (n : Int) := by omega
      obtain ⟨ad, z, rfl, a1, a2, z0, z1, hc⟩ := HBY.out j hlt
      have hc1 : wq.cell? (ad.add j) = some (.int .u8 z) := by rw [HB.out.cell (by rw [block_add]; exact a1)]; exact hc
      have hjk : wrap64 ((j : Int) + 1) = (j : Int) + 1 := w64_dr _ (by omega)
      clear a1 a2 hc
      go_upto_region 5 with fail
      go_region_law (fail)
      all_goals
        obtain ⟨y, hy⟩ : ∃ y, y = IntKind.u64.wrap (IntKind.u64.wrap (IntKind.u64.wrap (h * 1099511628211) + IntKind.u64.wrap z) + 11) := ⟨_, rfl⟩
        obtain ⟨b0, b1⟩ : 0 ≤ y ∧ y < 18446744073709551616 := by rw [hy]; exact u64_bd _
        rw [← hy]
        clear hy
        go_wp2_with fail
        go_roundw
        case rel =>
          exact ⟨j + 1, _, by omega, by go_num, b0, b1, (HK.out.set_ 2 _).drewN 1, (HB.out.setCell (Nat.le_refl _) _).drew⟩
        case measure => simp [intOf]; omega
    · have hjn : j = n := by omega
      subst hjn
      go_wp2_with fail
      go_ret
      exact ⟨_, rfl, ⟨A, j, c, 0, h, HK.out, Nat.le_refl _, fun k hk => by obtain ⟨ad, z, e, a1, a2, z0, z1, hc⟩ := HBY.out k hk; exact ⟨ad, z, e, a1, Nat.lt_of_lt_of_le a1 HB.out.size, z0, z1, by rw [HB.out.cell (by rw [block_add]; exact a1)]; exact hc⟩, Nat.zero_le _, (by omega), q0, q1⟩, HB.out⟩
end Go.Proofs.YtnnfjjadehgmeaaGreatDoor

set_option linter.unusedVariables false
set_option linter.unusedSimpArgs false
namespace Go.Proofs.YtnnfjjadehgmeaaGreatDoor

/-- natural numbers as integers -/
def up (t : List Nat) : List Int := t.map fun (n : Nat) => (n : Int)
/- of the reference -/
end Go.Proofs.YtnnfjjadehgmeaaGreatDoor

set_option maxRecDepth 100000
set_option linter.unusedVariables false
set_option linter.unusedSimpArgs false
namespace Go.Proofs.YtnnfjjadehgmeaaGreatDoor
open Go.RowKit

/-- rows that can be read: each a list of numbers in a block from B on -/
def RR (w : World) (B : Nat) (vs : List Value) (xss : List (List Int)) : Prop :=
  vs.length = xss.length ∧ ∀ (k : Nat) (u : Value) (zs : List Int), vs[k]? = some u → xss[k]? = some zs → OwnInts w B tI u zs
section
variable {w w' : World} {B : Nat} {vs : List Value} {xss : List (List Int)}
theorem RR.nil (w : World) (B : Nat) : RR w B [] [] := ⟨rfl, fun k u zs h => by simp at h⟩
theorem RR.below (h : RR w B vs xss) (hb : Below w.heap.size w w') : RR w' B vs xss := ⟨h.1, fun k u zs hu hz => (h.2 k u zs hu hz).below hb⟩
theorem RR.mono {B' : Nat} (h : RR w B vs xss) (hB : B' ≤ B) : RR w B' vs xss := ⟨h.1, fun k u zs hu hz => (h.2 k u zs hu hz).mono hB⟩
theorem RR.snoc {u : Value} {zs : List Int} (h : RR w B vs xss) (hu : OwnInts w B tI u zs) : RR w B (vs ++ [u]) (xss ++ [zs]) := by
  refine ⟨by simp [h.1], fun k u' zs' hk hz => ?_⟩
  by_cases hlt : k < vs.length
  · rw [List.getElem?_append_left hlt] at hk
    rw [List.getElem?_append_left (by rw [← h.1]; exact hlt)] at hz
    exact h.2 k u' zs' hk hz
  · have hkl := (List.getElem?_eq_some_iff.1 hk).1
    simp at hkl
    have : k = vs.length := by omega
    subst this
    rw [List.getElem?_append_right (Nat.le_refl _)] at hk
    rw [List.getElem?_append_right (by rw [h.1]; exact Nat.le_refl _), h.1] at hz
    simp at hk hz
    subst hk; subst hz
    exact hu
theorem RR.set {k : Nat} {u : Value} {zs : List Int} (h : RR w B vs xss) (hu : OwnInts w B tI u zs) : RR w B (vs.set k u) (xss.set k zs) := by
  refine ⟨by simp [h.1], fun j u' zs' hj hz => ?_⟩
  rw [List.getElem?_set] at hj hz
  by_cases hjk : k = j
  · subst hjk
    rw [if_pos rfl] at hj hz
    split at hj
    · rw [if_pos (by rw [← h.1]; assumption)] at hz
      injection hj with hj; injection hz with hz
      subst hj; subst hz
      exact hu
    · cases hj
  · rw [if_neg hjk] at hj hz
    exact h.2 j u' zs' hj hz
/-- a block whose elements have another type has turned -/
theorem RR.other {v : Value} {e : TypeId} {B' : Nat} {us : List Value} (h : RR w B vs xss) (hg : w.grownBy w' v.ownBlock) (ho : Own w B' e v us) (hne : tI ≠ e) : RR w' B vs xss :=
  ⟨h.1, fun k u zs hu hz => (h.2 k u zs hu hz).kept hg ((h.2 k u zs hu hz).1.ne_of_type ho hne)⟩
theorem RR.rows {v : Value} {e : TypeId} {B' : Nat} (h : RR w B vs xss) (ho : Own w B' e v vs) : Rows w v xss :=
  ⟨vs, ho.cells, h.1, fun k u zs hu hz => (h.2 k u zs hu hz).ints⟩
end

/-- a list of lists of one's own whose rows can be read -/
def LL (w : World) (B : Nat) (v : Value) (xss : List (List Int)) : Prop := ∃ vs, Own w B tL v vs ∧ RR w B vs xss
section
variable {w w' : World} {B : Nat} {v : Value} {xss : List (List Int)}
theorem LL.rows (h : LL w B v xss) : Rows w v xss := by obtain ⟨vs, h1, h2⟩ := h; exact h2.rows h1
theorem LL.below (h : LL w B v xss) (hb : Below w.heap.size w w') : LL w' B v xss := by obtain ⟨vs, h1, h2⟩ := h; exact ⟨vs, h1.below hb, h2.below hb⟩
theorem LL.mono {B' : Nat} (h : LL w B v xss) (hB : B' ≤ B) : LL w B' v xss := by obtain ⟨vs, h1, h2⟩ := h; exact ⟨vs, h1.mono hB, h2.mono hB⟩
theorem LL.nil (w : World) (B : Nat) : LL w B (.slice none 0 0) [] := ⟨[], Own.nil _ _ _, RR.nil _ _⟩
/-- one row more, made after all else -/
theorem LL.snoc {w1 : World} {vs : List Value} {u v1 : Value} {zs : List Int} (h1 : Own w B tL v vs) (h2 : RR w B vs xss) (hu : OwnInts w B tI u zs) (ho : Own w1 B tL v1 (vs ++ [u])) (hg : w.grownBy w1 v.ownBlock) : RR w1 B (vs ++ [u]) (xss ++ [zs]) :=
  (h2.snoc hu).other hg h1 (by decide)
end

/-- branches that are gathered: rows whose blocks lie before M, and the last row of one's own from M on -/
structure BrS (w : World) (B M : Nat) (o : Value) (vs : List Value) (bs : List (List Int)) : Prop where
  own : Own w B tL o vs
  rows : RR w B vs bs
  old : ∀ (k : Nat) (u : Value), k + 1 < vs.length → vs[k]? = some u → ∀ b, u.ownBlock = some b → b < M
  last : ∀ (u : Value) (zs : List Int), vs[vs.length - 1]? = some u → bs[vs.length - 1]? = some zs → OwnInts w M tI u zs
  le : B ≤ M
  lt : M ≤ w.heap.size

theorem BrS.push {w w1 : World} {B M : Nat} {o v1 u : Value} {vs : List Value} {bs : List (List Int)} {zs : List Int} (h : BrS w B M o vs bs) (hu : OwnInts w w.heap.size tI u zs) (ho : Own w1 B tL v1 (vs ++ [u])) (hg : w.grownBy w1 o.ownBlock) (hge : ∀ b, u.ownBlock = some b → w.heap.size ≤ b) :
    BrS w1 B w.heap.size v1 (vs ++ [u]) (bs ++ [zs]) := by
  have hB : B ≤ w.heap.size := Nat.le_trans h.le h.lt
  have hr := LL.snoc h.own h.rows (hu.mono hB) ho hg
  have hkeep := hu.kept hg (hu.1.ne_of_type h.own (by decide))
  refine ⟨ho, hr, fun k u' hk hu' b hb => ?_, fun u' zs' hu' hz' => ?_, hB, hg.size⟩
  · simp at hk
    rw [List.getElem?_append_left hk] at hu'
    have hx : bs[k]? = some (bs[k]'(by rw [← h.rows.1]; exact hk)) := List.getElem?_eq_getElem _
    exact (h.rows.2 k u' _ hu' hx).1.lt b hb
  · simp at hu'
    have e : (vs ++ [u]).length - 1 = bs.length := by simp [h.rows.1]
    rw [e, List.getElem?_append_right (Nat.le_refl _)] at hz'
    simp at hz'
    subst hu'; subst hz'
    exact hkeep

/-- the last row has grown: it is stored -/
theorem BrS.grow {w w1 : World} {B M g : Nat} {o u u1 : Value} {vs : List Value} {bs : List (List Int)} {zs zs1 : List Int} (h : BrS w B M o vs bs) (hu : vs[vs.length - 1]? = some u) (hz : bs[vs.length - 1]? = some zs)
    (ho : OwnInts w1 M tI u1 zs1) (hg : w.grownBy w1 u.ownBlock) (hob : o.ownBlock = some g) (hown : Own (w1.setCell ⟨g, vs.length - 1, none⟩ u1) B tL o (vs.set (vs.length - 1) u1)) :
    BrS (w1.setCell ⟨g, vs.length - 1, none⟩ u1) B M o (vs.set (vs.length - 1) u1) (bs.set (vs.length - 1) zs1) := by
  have hl := h.last u zs hu hz
  have hpos := (List.getElem?_eq_some_iff.1 hu).1
  have how1 : Own w1 B tL o vs := h.own.kept hg (h.own.ne_of_type hl.1 (by decide))
  have hset : w1.grownBy (w1.setCell ⟨g, vs.length - 1, none⟩ u1) o.ownBlock := by
    rw [hob]
    exact ((Chg.refl g (g + 1) w1).setCell (p := ⟨g, vs.length - 1, none⟩) (Nat.le_refl _) (by simp) u1) |> fun c => ⟨c.os, c.tape, c.output, c.size, fun b hb hne => c.block b hb (by have : b ≠ g := fun e => hne (by rw [e]); omega)⟩
  have hrow1 : RR w1 B (vs.set (vs.length - 1) u1) (bs.set (vs.length - 1) zs1) := by
    refine ⟨by simp [h.rows.1], fun k u' zs' hk hz' => ?_⟩
    rw [List.getElem?_set] at hk hz'
    by_cases hkl : vs.length - 1 = k
    · subst hkl
      rw [if_pos rfl, if_pos hpos] at hk
      rw [if_pos rfl, if_pos (by rw [← h.rows.1]; exact hpos)] at hz'
      injection hk with hk; injection hz' with hz'
      subst hk; subst hz'
      exact ho.mono h.le
    · rw [if_neg hkl] at hk hz'
      have hkk := (List.getElem?_eq_some_iff.1 hk).1
      have hr := h.rows.2 k u' zs' hk hz'
      refine hr.kept hg ?_
      have hold := h.old k u' (by omega) hk
      cases hb : u'.ownBlock with
      | none => exact .inl hb
      | some b => exact .inr fun e => by have h1 := hold b hb; have h2 := hl.1.ge b (e.symm.trans hb); omega
  refine ⟨hown, hrow1.other hset how1 (by decide), fun k u' hk hu' b hb => ?_, fun u' zs' hu' hz' => ?_, h.le, ?_⟩
  · simp at hk
    rw [List.getElem?_set_ne (by omega)] at hu'
    exact h.old k u' hk hu' b hb
  · simp only [List.length_set] at hu' hz'
    rw [List.getElem?_set_self hpos] at hu'
    rw [List.getElem?_set_self (by rw [← h.rows.1]; exact hpos)] at hz'
    injection hu' with hu'; injection hz' with hz'
    subst hu'; subst hz'
    exact ho.kept hset (ho.1.ne_of_type how1 (by decide))
  · have h1 := hg.size
    have h2 := hset.size
    have h3 := h.lt
    omega

/-- behind the append to the last row: what the store wants -/
theorem BrS.ready {w w1 : World} {B M m g cap : Nat} {u u1 : Value} {vs : List Value} {bs : List (List Int)} {zs zs1 : List Int} (h : BrS w B M (.slice (some ⟨g, 0, none⟩) (m + 1) cap) vs bs) (hm : vs.length = m + 1) (hu : vs[m]? = some u) (hz : bs[m]? = some zs)
    (ho : OwnInts w1 M tI u1 zs1) (hg : w.grownBy w1 u.ownBlock) :
    (∃ u0, w1.cell? ⟨g, m, none⟩ = some u0) ∧ w1.frozen? ⟨g, m, none⟩ = false ∧ BrS (w1.setCell ⟨g, m, none⟩ u1) B M (.slice (some ⟨g, 0, none⟩) (m + 1) cap) (vs.set m u1) (bs.set m zs1) := by
  have hlu := h.last u zs (by rw [hm]; exact hu) (by rw [hm]; exact hz)
  have how1 : Own w1 B tL (.slice (some ⟨g, 0, none⟩) (m + 1) cap) vs := h.own.kept hg (h.own.ne_of_type hlu.1 (by decide))
  obtain ⟨u0, -, hc, hf, -, -, hown, -⟩ := how1.storeAt (k := m) (by omega) u1
  have e : m = vs.length - 1 := by omega
  refine ⟨⟨u0, hc⟩, hf, ?_⟩
  have := h.grow (g := g) (u1 := u1) (by rw [← e]; exact hu) (by rw [← e]; exact hz) ho hg rfl (by rw [← e]; exact hown)
  rwa [← e] at this

theorem BrS.below {w w' : World} {B M : Nat} {o : Value} {vs : List Value} {bs : List (List Int)} (h : BrS w B M o vs bs) (hb : Below w.heap.size w w') : BrS w' B M o vs bs :=
  ⟨h.own.below hb, h.rows.below hb, h.old, fun u zs hu hz => (h.last u zs hu hz).below hb, h.le, Nat.le_trans h.lt hb.size⟩

end Go.Proofs.YtnnfjjadehgmeaaGreatDoor

set_option maxRecDepth 100000
set_option linter.unusedVariables false
set_option linter.unusedSimpArgs false
namespace Go.Proofs.YtnnfjjadehgmeaaGreatDoor
open Go.RowKit

end Go.Proofs.YtnnfjjadehgmeaaGreatDoor

