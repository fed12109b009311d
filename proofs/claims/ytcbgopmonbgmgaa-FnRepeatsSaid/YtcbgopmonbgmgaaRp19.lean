/- Walk: composed of the program. | Walks: l10Scale of the reference. | Walks: places in a list, nodes, integrals: of the library, the program and the reference. | Walks: the nodes' code of the reference, fractions, integrals. -/
import Derived.Test.YtcbgopmonbgmgaaRp12
import Derived.Test.YtcbgopmonbgmgaaRp13
import Derived.Test.YtcbgopmonbgmgaaRp11
import Derived.Test.YtcbgopmonbgmgaaRp4
import Derived.Deep.QuietTactic
import Derived.BigQuiet
import Derived.Deep.RegionHeld3
set_option maxRecDepth 100000
set_option linter.unusedVariables false
set_option linter.unusedSimpArgs false
namespace Go.Proofs.Ytcbgopmonbgmgaa
open Go.RowKit

/-- a literal of two lists -/
theorem rows_two {W : World} {u1 u2 : Value} {z1 z2 : List Int} (h1 : Ints W u1 z1) (h2 : Ints W u2 z2) : Rows (W.alloc (.cells #[u1, u2] tL)) (.slice (some ⟨W.heap.size, 0, none⟩) 2 2) [z1, z2] := by
  refine ⟨[u1, u2], (own_lit W tL [u1, u2] (by simp [maxLen])).cells, rfl, fun k u x hu hx => ?_⟩
  match k, hu, hx with
  | 0, hu, hx => simp at hu hx; subst hu; subst hx; exact h1.below (below1 _ _)
  | 1, hu, hx => simp at hu hx; subst hu; subst hx; exact h2.below (below1 _ _)
  | k + 2, hu, hx => simp at hu

set_option maxHeartbeats 4000000 in
theorem im_composed (w : World) (v v' : Value) (A1 A2 : List (List Int)) (B1 B2 : List Int) (ha : TabArg w v A1 B1) (hb : TabArg w v' A2 B2) (hT : NumTab A1 B1) (hT' : NumTab A2 B2) :
    Calls Try.prog 57 #[v, v'] w fun e w' => ∃ r, e = .returned r ∧ OT w' w.heap.size w'.heap.size r (compA A1 B1 A2 B2) (B1 ++ B2) ∧ Below w.heap.size w w' := by
  have HTY := Lib.hid hb
  obtain ⟨va, vb, rfl, hA, hB⟩ := ha
  obtain ⟨va', vb', rfl, hA', hB'⟩ := hb
  have HB := Lib.hid hB
  have HB' := Lib.hid hB'
  obtain ⟨Xa, xa, rfl, l1, l2, h3⟩ := hA.open_
  obtain ⟨Xb, xb, rfl, -, -, -⟩ := hB.open_
  obtain ⟨Ya, ya, rfl, m1, m2, g3⟩ := hA'.open_
  obtain ⟨Yb, yb, rfl, -, -, -⟩ := hB'.open_
  have H3 := Lib.hid h3
  have G3 := Lib.hid g3
  have hal := hT.la
  have hbl := hT.lb
  have hal' := hT'.la
  have hbl' := hT'.lb
  have HT := Lib.hid hT
  have HT' := Lib.hid hT'
  clear hA hB hA' hB' h3 g3 hT hT'
  have B0 := Lib.hid (below3 w (.cells #[.slice Xa A1.length xa, .slice Xb B1.length xb] 27) (.cells #[.slice Ya A2.length ya, .slice Yb B2.length yb] 27) (.cells #[.slice none 0 0, .slice none 0 0] 27))
  have HE1 := Lib.hid (show Env w (((w.alloc (.cells #[.slice Xa A1.length xa, .slice Xb B1.length xb] 27)).alloc (.cells #[.slice Ya A2.length ya, .slice Yb B2.length yb] 27)).alloc (.cells #[.slice none 0 0, .slice none 0 0] 27)) #[.slice Xa A1.length xa, .slice Xb B1.length xb] #[.slice Ya A2.length ya, .slice Yb B2.length yb] #[.slice none 0 0, .slice none 0 0] from ⟨((Blk.new w #[.slice Xa A1.length xa, .slice Xb B1.length xb] 27).alloc (.cells #[.slice Ya A2.length ya, .slice Yb B2.length yb] 27)).alloc (.cells #[.slice none 0 0, .slice none 0 0] 27), (Blk.new1 w (.cells #[.slice Xa A1.length xa, .slice Xb B1.length xb] 27) #[.slice Ya A2.length ya, .slice Yb B2.length yb] 27).alloc (.cells #[.slice none 0 0, .slice none 0 0] 27), Blk.new2 w (.cells #[.slice Xa A1.length xa, .slice Xb B1.length xb] 27) (.cells #[.slice Ya A2.length ya, .slice Yb B2.length yb] 27) #[.slice none 0 0, .slice none 0 0] 27, B0.out⟩)
  have HIN := Lib.hid (show ∀ z ∈ B1 ++ B2, In64 z from nums_in (fun z hz => by rcases List.mem_append.1 hz with h | h; exact HT.out.ws z h; exact HT'.out.ws z h))
  go_enter Try.func57, Try.ntmps57
  go_wp2_with fail
  have hs1 : (((w.alloc (.cells #[.slice Xa A1.length xa, .slice Xb B1.length xb] 27)).alloc (.cells #[.slice Ya A2.length ya, .slice Yb B2.length yb] 27)).alloc (.cells #[.slice none 0 0, .slice none 0 0] 27)).heap.size = w.heap.size + 1 + 1 + 1 := by simp
  generalize (((w.alloc (.cells #[.slice Xa A1.length xa, .slice Xb B1.length xb] 27)).alloc (.cells #[.slice Ya A2.length ya, .slice Yb B2.length yb] 27)).alloc (.cells #[.slice none 0 0, .slice none 0 0] 27)) = w1 at B0 HE1 hs1 ⊢
  rw [← hs1]
  clear hs1
  have hlt1 : w.heap.size + 1 + 1 < w1.heap.size := HE1.out.k2.lt
  refine (lib_ConcatI _ _ [B1, B2] (rows_two (HB.out.below B0.out) (HB'.out.below B0.out)) (by simp; omega)).mono ?_
  rintro e w5 ⟨v5, rfl, ho5, hb5⟩
  rw [show [B1, B2].flatten = B1 ++ B2 from by simp] at ho5
  obtain ⟨A6, c6, hv6, -, -, -⟩ := ho5.ints.open_
  rw [List.length_append] at hv6
  subst hv6
  have HB5 := Lib.hid (show Below w1.heap.size w1 w5 from (below1 w1 _).trans (hb5.mono (by simp)))
  have hpp : w.heap.size + 1 + 1 < w5.heap.size := Nat.lt_of_lt_of_le hlt1 HB5.out.size
  have HF := Lib.hid (show FillT w (w5.alloc (.cells #[.slice none 0 0, (.slice A6 (B1.length + B2.length) c6)] 27)) w5.heap.size (.slice none 0 0) (.slice A6 (B1.length + B2.length) c6) [] [] (B1 ++ B2) from ⟨⟨Own.nil _ _ _, RowsOwn.nil _ _ _ _, (ho5.mono (by simp; omega)).below (below1 _ _), fun k u hu => by simp at hu⟩, Blk.new _ _ _, by omega, (B0.out.trans (HB5.out.mono B0.out.size)).alloc (by omega) _⟩)
  have HE := Lib.hid ((HE1.out.step HB5.out).step (below1 w5 (.cells #[.slice none 0 0, (.slice A6 (B1.length + B2.length) c6)] 27)))
  have q0 : (w5.alloc (.cells #[.slice none 0 0, (.slice A6 (B1.length + B2.length) c6)] 27)).cell? ⟨w.heap.size, 0, none⟩ = some (.slice Xa A1.length xa) := HE.out.k0.cell 0
  clear ho5 hb5
  go_wp2_with fail
  clear q0
  generalize (w5.alloc (.cells #[.slice none 0 0, (.slice A6 (B1.length + B2.length) c6)] 27)) = w4 at HF HE ⊢
  generalize w5.heap.size = p at HF HE hpp ⊢
  go_loopw [20] (fun i wr => ∃ (j : Nat) (va : Value) (vs : List Value), j ≤ A1.length ∧ i = .int .i64 j ∧ FillT w wr p va (.slice A6 (B1.length + B2.length) c6) vs ((A1.take j).map (padR B2.length)) (B1 ++ B2) ∧ Env w wr #[.slice Xa A1.length xa, .slice Xb B1.length xb] #[.slice Ya A2.length ya, .slice Yb B2.length yb] #[.slice none 0 0, .slice none 0 0]) (fun i _ => A1.length - (intOf i).toNat)
  case atStart => exact ⟨0, _, [], Nat.zero_le _, rfl, HF.out, HE.out⟩
  case round =>
    obtain ⟨j, va, vs, hj, rfl, hfill, henv⟩ := hrel
    clear HF HE
    have HF := Lib.hid hfill
    have HE := Lib.hid henv
    clear hfill henv
    by_cases hlt : j < A1.length
    · obtain ⟨ad, u, zs, rfl, hz, hu, hc0⟩ := H3.out j hlt
      obtain ⟨A5, c5, rfl, p1, p2, -⟩ := hu.open_
      have HU := Lib.hid (hu.below HE.out.below)
      have hzl := (HT.out.rows zs (List.mem_of_getElem? hz)).2
      have HZI := Lib.hid (show ∀ z ∈ padR B2.length zs, In64 z from nums_in (fun z h => by rcases List.mem_append.1 h with h | h; exact (HT.out.rows zs (List.mem_of_getElem? hz)).1 z h; have := (List.mem_replicate.1 h).2; omega))
      have HS := Lib.hid (show (A1.take (j + 1)).map (padR B2.length) = (A1.take j).map (padR B2.length) ++ [padR B2.length zs] by rw [List.take_add_one, hz]; simp)
      have hvl : vs.length ≤ 1000 := by have := HF.out.two.rows.1; rw [List.length_map, List.length_take] at this; omega
      have hcz : wr.cell? (ad.add j) = some (.slice A5 zs.length c5) := by
        rw [HE.out.below.cell (by rw [block_add]; have := World.block_lt_of_cell? w _ hc0; rwa [block_add] at this)]; exact hc0
      clear hz hu hc0
      have HSE := Lib.hid (show ∀ W : World, Env w W #[.slice (some ad) A1.length xa, .slice Xb B1.length xb] #[.slice Ya A2.length ya, .slice Yb B2.length yb] #[.slice none 0 0, .slice none 0 0] → W.cell? ⟨w.heap.size + 1, 0, none⟩ = some (.slice Ya A2.length ya) ∧ W.cell? ⟨w.heap.size + 1, 1, none⟩ = some (.slice Yb B2.length yb) from fun W hW => ⟨hW.k1.cell 0, hW.k1.cell 1⟩)
      go_wp2_with fail
      refine AnyT.begin (k := 11) (S := fun b w' => (w'.cell? ⟨w.heap.size + 1, 0, none⟩ = some (.slice Ya A2.length ya) ∧ w'.cell? ⟨w.heap.size + 1, 1, none⟩ = some (.slice Yb B2.length yb)) ∧ (b = false → w'.cell? ⟨p, 0, none⟩ = some va)) (by kernel_rfl) ?_
      have hS : (fun (b : Bool) (w' : World) => (w'.cell? ⟨w.heap.size + 1, 0, none⟩ = some (.slice Ya A2.length ya) ∧ w'.cell? ⟨w.heap.size + 1, 1, none⟩ = some (.slice Yb B2.length yb)) ∧ (b = false → w'.cell? ⟨p, 0, none⟩ = some va)) false wr.drew := ⟨HSE.out wr HE.out, fun _ => HF.out.blk.cell 0⟩
      refine AnyT.take0 (i := 0) (v := ?_) rfl (by kernel_rfl) (by kernel_rfl) (by kernel_rfl) (by decide) (fun _ _ _ h => h) hS (Or.inl ⟨by first | kernel_rfl | rfl, ?_⟩) ?_
      rotate_left
      · rintro w' ⟨b, hw'⟩; obtain ⟨hw1, -⟩ := hw'; (try (obtain ⟨hw1, hw2⟩ := hw1)); (try (obtain ⟨hw2, hw3⟩ := hw2)); (try (obtain ⟨hw3, hw4⟩ := hw3)); go_simp; try with_reducible rfl
      try simp only [Act.put, List.setIfInBounds_toArray, List.set_cons_zero, List.set_cons_succ]
      refine AnyT.take1 (i := 1) (v := ?_) rfl (by kernel_rfl) (by kernel_rfl) (by kernel_rfl) (by decide) (by kernel_rfl) rfl (fun _ _ _ h => h) hS (Or.inl ⟨by first | kernel_rfl | rfl, ?_⟩) ?_
      rotate_left
      · intro w' hw'; have hw3 := hw'.2 rfl; go_simp; try with_reducible rfl
      try simp only [Act.put, List.setIfInBounds_toArray, List.set_cons_zero, List.set_cons_succ]
      refine AnyT.take0 (i := 2) (v := ?_) rfl (by kernel_rfl) (by kernel_rfl) (by kernel_rfl) (by decide) (fun _ _ _ h => h) hS (Or.inl ⟨by first | kernel_rfl | rfl, ?_⟩) ?_
      rotate_left
      · rintro w' ⟨b, hw'⟩; obtain ⟨hw1, -⟩ := hw'; (try (obtain ⟨hw1, hw2⟩ := hw1)); (try (obtain ⟨hw2, hw3⟩ := hw2)); (try (obtain ⟨hw3, hw4⟩ := hw3)); go_simp; try with_reducible rfl
      try simp only [Act.put, List.setIfInBounds_toArray, List.set_cons_zero, List.set_cons_succ]
      refine AnyT.take0 (i := 3) (v := ?_) rfl (by kernel_rfl) (by kernel_rfl) (by kernel_rfl) (by decide) (fun _ _ _ h => h) hS (Or.inl ⟨by first | kernel_rfl | rfl, ?_⟩) ?_
      rotate_left
      · rintro w' ⟨b, hw'⟩; obtain ⟨hw1, -⟩ := hw'; (try (obtain ⟨hw1, hw2⟩ := hw1)); (try (obtain ⟨hw2, hw3⟩ := hw2)); (try (obtain ⟨hw3, hw4⟩ := hw3)); go_simp; try with_reducible rfl
      try simp only [Act.put, List.setIfInBounds_toArray, List.set_cons_zero, List.set_cons_succ]
      refine AnyT.go (rs := [4]) (by kernel_rfl) (by simp) ?_
      refine AllT.cons rfl (fun K hK => ?_) AllT.nil
      go_simp
      refine (im_stages _ _ A2 B2 (by exact HTY.out.below HE.out.below.drew)).mono ?_
      rintro e w2 ⟨rfl, hb2w⟩
      have hb2 : Below wr.heap.size wr w2 := below_of_drew hb2w
      refine hK.out _ _ ⟨HSE.out _ (HE.out.step hb2), fun _ => (HF.out.step hb2).blk.cell 0⟩ (fun hS => ?_)
      clear hK
      try simp only [Act.put, List.setIfInBounds_toArray, List.set_cons_zero, List.set_cons_succ]
      refine AnyT.go (rs := [5]) (by kernel_rfl) (by simp) ?_
      refine AllT.cons rfl (fun K hK => ?_) AllT.nil
      refine step_mk T_int B2.length (by omega) (W := w2) (by rfl) (by rfl) (by rfl) (by rfl) ?_
      intro w3 hown3 hb3w hlt3
      have hb3 : Below wr.heap.size wr w3 := hb2.trans (hb3w.mono hb2.size)
      have ho3 : OwnInts w3 w2.heap.size tI (.slice (some ⟨w2.heap.size, 0, none⟩) B2.length B2.length) (List.replicate B2.length 0) := ⟨by simpa [ints] using hown3, fun z h => by have := (List.mem_replicate.1 h).2; subst this; unfold In64; omega⟩
      refine hK.out _ _ ⟨HSE.out _ (HE.out.step hb3), fun _ => (HF.out.step hb3).blk.cell 0⟩ (fun hS => ?_)
      clear hK
      try simp only [Act.put, List.setIfInBounds_toArray, List.set_cons_zero, List.set_cons_succ]
      refine AnyT.go (rs := [6]) (by kernel_rfl) (by simp) ?_
      refine AllT.cons rfl (fun K hK => ?_) AllT.nil
      go_simp
      have hb4 : Below wr.heap.size wr (w3.alloc (.cells #[.slice A5 zs.length c5, .slice (some ⟨w2.heap.size, 0, none⟩) B2.length B2.length] tL)) := hb3.alloc hb3.size _
      refine hK.out _ _ ⟨HSE.out _ (HE.out.step hb4), fun _ => (HF.out.step hb4).blk.cell 0⟩ (fun hS => ?_)
      clear hK
      try simp only [Act.put, List.setIfInBounds_toArray, List.set_cons_zero, List.set_cons_succ]
      refine AnyT.go (rs := [7]) (by kernel_rfl) (by simp) ?_
      refine AllT.cons rfl (fun K hK => ?_) AllT.nil
      go_simp
      refine (lib_ConcatI _ _ [zs, List.replicate B2.length 0] (by exact rows_two (HU.out.below hb3) ho3.ints) (by simp; omega)).mono ?_
      rintro e w7 ⟨v7, rfl, ho7w, hb7w⟩
      have hb7 : Below wr.heap.size wr w7 := hb4.trans (hb7w.mono hb4.size)
      have ho7 : OwnInts w7 wr.heap.size tI v7 (padR B2.length zs) := by have h := ho7w.mono hb4.size; rwa [show [zs, List.replicate B2.length 0].flatten = padR B2.length zs from by simp [padR]] at h
      have F7 := HF.out.step hb7
      have E7 := HE.out.step hb7
      clear hown3 hb3w ho7w hb7w hb2w
      obtain ⟨A7, c7, hv7, -, -, -⟩ := ho7.ints.open_
      rw [show (padR B2.length zs).length = zs.length + B2.length from by simp [padR]] at hv7
      subst hv7
      refine hK.out _ _ ⟨HSE.out _ E7, fun _ => F7.blk.cell 0⟩ (fun hS => ?_)
      clear hK
      try simp only [Act.put, List.setIfInBounds_toArray, List.set_cons_zero, List.set_cons_succ]
      refine AnyT.go (rs := [8]) (by kernel_rfl) (by simp) ?_
      refine AllT.cons rfl (fun K hK => ?_) AllT.nil
      go_simp
      have hb8 : Below wr.heap.size wr (w7.alloc (.cells #[.slice A7 (zs.length + B2.length) c7] tL)) := hb7.alloc hb7.size _
      have F8 := HF.out.step hb8
      have E8 := HE.out.step hb8
      refine hK.out _ _ ⟨HSE.out _ E8, fun _ => F8.blk.cell 0⟩ (fun hS => ?_)
      clear hK
      try simp only [Act.put, List.setIfInBounds_toArray, List.set_cons_zero, List.set_cons_succ]
      refine AnyT.go (rs := [9]) (by kernel_rfl) (by simp) ?_
      refine AllT.cons rfl (fun K hK => ?_) AllT.nil
      refine step_app1g T_row (B := w.heap.size + 1) (v := va) (vs := vs) (W := w7.alloc (.cells #[.slice A7 (zs.length + B2.length) c7] tL)) (u := .slice A7 (zs.length + B2.length) c7) (ad := ⟨w7.heap.size, 0, none⟩) F8.two.own (by omega) (by have := F8.blk.lt; have := F8.ge; omega) (by rfl) rfl (by rfl) (by rfl) (by rfl) ((Blk.new w7 _ _).cell 0) ?_
      intro v9 w9 hown9 hgr9
      obtain ⟨A9, c9, hv9, -, -⟩ := hown9.cells.open_
      rw [show (vs ++ [Value.slice A7 (zs.length + B2.length) c7]).length = vs.length + 1 from by simp] at hv9
      subst hv9
      have F9 := Lib.hid (HF.out.next hb8 (ho7.below (below1 _ _)) hown9 hgr9)
      have E9 := E8.grow F8.two.own (by decide) (by omega) hgr9
      have KP := F8.blk.grow hgr9 F8.npA
      have e0 : w9.cell? ⟨p, 0, none⟩ = some va := KP.cell 0
      have e2 : w9.frozen? ⟨p, 0, none⟩ = false := KP.frozen 0
      refine hK.out _ _ ⟨HSE.out _ E9, fun _ => e0⟩ (fun hS => ?_)
      clear hK
      try simp only [Act.put, List.setIfInBounds_toArray, List.set_cons_zero, List.set_cons_succ]
      refine AnyT.take0 (i := 10) (v := ?_) rfl (by kernel_rfl) (by kernel_rfl) (by kernel_rfl) (by decide) (fun _ _ _ h => h) hS (Or.inl ⟨by first | kernel_rfl | rfl, ?_⟩) ?_
      rotate_left
      · rintro w' ⟨b, hw'⟩; obtain ⟨hw1, -⟩ := hw'; (try (obtain ⟨hw1, hw2⟩ := hw1)); (try (obtain ⟨hw2, hw3⟩ := hw2)); (try (obtain ⟨hw3, hw4⟩ := hw3)); go_simp; try with_reducible rfl
      try simp only [Act.put, List.setIfInBounds_toArray, List.set_cons_zero, List.set_cons_succ]
      refine AnyT.go (rs := [11]) (by kernel_rfl) (by simp) ?_
      refine AllT.cons rfl (fun K hK => ?_) AllT.nil
      go_simp
      have E10 := Lib.hid (E9.store hpp 0 (.slice A9 (vs.length + 1) c9))
      refine hK.out _ _ ⟨HSE.out _ E10.out, fun h => Bool.noConfusion (show true = false from h)⟩ (fun hS => ?_)
      clear hK
      refine AnyT.done (by kernel_rfl) ?_ _
      clear hS hown9 hgr9 F7 E7 F8 E8 E9 hb7 hb8 ho7 KP e0 e2 hcz
      go_wp2_with fail
      go_roundw
      case rel =>
        refine ⟨j + 1, .slice A9 (vs.length + 1) c9, vs ++ [.slice A7 (zs.length + B2.length) c7], by omega, by go_num, ?_, E10.out⟩
        rw [HS.out]
        exact F9.out
      case measure => simp [intOf]; omega
    · have : j = A1.length := by omega
      subst this
      rw [List.take_length] at HF
      have q1 : wr.cell? ⟨w.heap.size + 1, 0, none⟩ = some (.slice Ya A2.length ya) := HE.out.k1.cell 0
      go_wp2_with fail
      clear q1
      obtain ⟨wa, rfl⟩ : ∃ wa : World, wa = wr := ⟨_, rfl⟩
      go_loopw [39] (fun i wr => ∃ (j : Nat) (va : Value) (vs : List Value), j ≤ A2.length ∧ i = .int .i64 j ∧ FillT w wr p va (.slice A6 (B1.length + B2.length) c6) vs (A1.map (padR B2.length) ++ (A2.take j).map (B1 ++ ·)) (B1 ++ B2) ∧ Env w wr #[.slice Xa A1.length xa, .slice Xb B1.length xb] #[.slice Ya A2.length ya, .slice Yb B2.length yb] #[.slice none 0 0, .slice none 0 0]) (fun i _ => A2.length - (intOf i).toNat)
      case atStart => exact ⟨0, _, vs, Nat.zero_le _, rfl, by simpa using HF.out, HE.out⟩
      case round =>
        obtain ⟨j, va, vs, hj, rfl, hfill, henv⟩ := hrel
        clear HF HE
        have HF := Lib.hid hfill
        have HE := Lib.hid henv
        clear hfill henv
        by_cases hlt2 : j < A2.length
        · obtain ⟨ad, u, zs, rfl, hz, hu, hc0⟩ := G3.out j hlt2
          obtain ⟨A5, c5, rfl, p1, p2, -⟩ := hu.open_
          have HU := Lib.hid (hu.below HE.out.below)
          have hzl := (HT'.out.rows zs (List.mem_of_getElem? hz)).2
          have HZI := Lib.hid (show ∀ z ∈ B1 ++ zs, In64 z from nums_in (fun z h => by rcases List.mem_append.1 h with h | h; exact HT.out.ws z h; exact (HT'.out.rows zs (List.mem_of_getElem? hz)).1 z h))
          have HS := Lib.hid (show A1.map (padR B2.length) ++ (A2.take (j + 1)).map (B1 ++ ·) = A1.map (padR B2.length) ++ (A2.take j).map (B1 ++ ·) ++ [B1 ++ zs] by rw [List.take_add_one, hz]; simp)
          have hvl : vs.length ≤ 2000 := by have := HF.out.two.rows.1; rw [List.length_append, List.length_map, List.length_map, List.length_take] at this; omega
          have hcz : wr.cell? (ad.add j) = some (.slice A5 zs.length c5) := by
            rw [HE.out.below.cell (by rw [block_add]; have := World.block_lt_of_cell? w _ hc0; rwa [block_add] at this)]; exact hc0
          clear hz hu hc0
          have HSE := Lib.hid (show ∀ W : World, Env w W #[.slice Xa A1.length xa, .slice Xb B1.length xb] #[.slice (some ad) A2.length ya, .slice Yb B2.length yb] #[.slice none 0 0, .slice none 0 0] → W.cell? ⟨w.heap.size, 1, none⟩ = some (.slice Xb B1.length xb) from fun W hW => hW.k0.cell 1)
          go_wp2_with fail
          refine AnyT.begin (k := 10) (S := fun b w' => (w'.cell? ⟨w.heap.size, 1, none⟩ = some (.slice Xb B1.length xb)) ∧ (b = false → w'.cell? ⟨p, 0, none⟩ = some va)) (by kernel_rfl) ?_
          have hS : (fun (b : Bool) (w' : World) => (w'.cell? ⟨w.heap.size, 1, none⟩ = some (.slice Xb B1.length xb)) ∧ (b = false → w'.cell? ⟨p, 0, none⟩ = some va)) false wr.drew := ⟨HSE.out wr HE.out, fun _ => HF.out.blk.cell 0⟩
          refine AnyT.take0 (i := 0) (v := ?_) rfl (by kernel_rfl) (by kernel_rfl) (by kernel_rfl) (by decide) (fun _ _ _ h => h) hS (Or.inl ⟨by first | kernel_rfl | rfl, ?_⟩) ?_
          rotate_left
          · rintro w' ⟨b, hw'⟩; obtain ⟨hw1, -⟩ := hw'; (try (obtain ⟨hw1, hw2⟩ := hw1)); (try (obtain ⟨hw2, hw3⟩ := hw2)); (try (obtain ⟨hw3, hw4⟩ := hw3)); go_simp; try with_reducible rfl
          try simp only [Act.put, List.setIfInBounds_toArray, List.set_cons_zero, List.set_cons_succ]
          refine AnyT.take1 (i := 1) (v := ?_) rfl (by kernel_rfl) (by kernel_rfl) (by kernel_rfl) (by decide) (by kernel_rfl) rfl (fun _ _ _ h => h) hS (Or.inl ⟨by first | kernel_rfl | rfl, ?_⟩) ?_
          rotate_left
          · intro w' hw'; have hw3 := hw'.2 rfl; go_simp; try with_reducible rfl
          try simp only [Act.put, List.setIfInBounds_toArray, List.set_cons_zero, List.set_cons_succ]
          refine AnyT.take0 (i := 2) (v := ?_) rfl (by kernel_rfl) (by kernel_rfl) (by kernel_rfl) (by decide) (fun _ _ _ h => h) hS (Or.inl ⟨by first | kernel_rfl | rfl, ?_⟩) ?_
          rotate_left
          · rintro w' ⟨b, hw'⟩; obtain ⟨hw1, -⟩ := hw'; (try (obtain ⟨hw1, hw2⟩ := hw1)); (try (obtain ⟨hw2, hw3⟩ := hw2)); (try (obtain ⟨hw3, hw4⟩ := hw3)); go_simp; try with_reducible rfl
          try simp only [Act.put, List.setIfInBounds_toArray, List.set_cons_zero, List.set_cons_succ]
          refine AnyT.take0 (i := 3) (v := ?_) rfl (by kernel_rfl) (by kernel_rfl) (by kernel_rfl) (by decide) (fun _ _ _ h => h) hS (Or.inl ⟨by first | kernel_rfl | rfl, ?_⟩) ?_
          rotate_left
          · rintro w' ⟨b, hw'⟩; obtain ⟨hw1, -⟩ := hw'; (try (obtain ⟨hw1, hw2⟩ := hw1)); (try (obtain ⟨hw2, hw3⟩ := hw2)); (try (obtain ⟨hw3, hw4⟩ := hw3)); go_simp; try with_reducible rfl
          try simp only [Act.put, List.setIfInBounds_toArray, List.set_cons_zero, List.set_cons_succ]
          refine AnyT.take0 (i := 4) (v := ?_) rfl (by kernel_rfl) (by kernel_rfl) (by kernel_rfl) (by decide) (fun _ _ _ h => h) hS (Or.inl ⟨by first | kernel_rfl | rfl, ?_⟩) ?_
          rotate_left
          · rintro w' ⟨b, hw'⟩; obtain ⟨hw1, -⟩ := hw'; (try (obtain ⟨hw1, hw2⟩ := hw1)); (try (obtain ⟨hw2, hw3⟩ := hw2)); (try (obtain ⟨hw3, hw4⟩ := hw3)); go_simp; try with_reducible rfl
          try simp only [Act.put, List.setIfInBounds_toArray, List.set_cons_zero, List.set_cons_succ]
          refine AnyT.go (rs := [5]) (by kernel_rfl) (by simp) ?_
          refine AllT.cons rfl (fun K hK => ?_) AllT.nil
          go_simp
          have hb4 : Below wr.heap.size wr (wr.drew.alloc (.cells #[.slice Xb B1.length xb, .slice A5 zs.length c5] tL)) := (Below.refl wr.heap.size wr).drew.alloc (Nat.le_refl _) _
          refine hK.out _ _ ⟨HSE.out _ (HE.out.step hb4), fun _ => (HF.out.step hb4).blk.cell 0⟩ (fun hS => ?_)
          clear hK
          try simp only [Act.put, List.setIfInBounds_toArray, List.set_cons_zero, List.set_cons_succ]
          refine AnyT.go (rs := [6]) (by kernel_rfl) (by simp) ?_
          refine AllT.cons rfl (fun K hK => ?_) AllT.nil
          go_simp
          refine (lib_ConcatI _ _ [B1, zs] (by exact rows_two (W := wr.drew) (HB.out.below HE.out.below.drew) HU.out) (by simp; omega)).mono ?_
          rintro e w7 ⟨v7, rfl, ho7w, hb7w⟩
          have hb7 : Below wr.heap.size wr w7 := hb4.trans (hb7w.mono hb4.size)
          have ho7 : OwnInts w7 wr.heap.size tI v7 (B1 ++ zs) := by have h := ho7w.mono hb4.size; rwa [show [B1, zs].flatten = B1 ++ zs from by simp] at h
          have F7 := HF.out.step hb7
          have E7 := HE.out.step hb7
          clear ho7w hb7w
          obtain ⟨A7, c7, hv7, -, -, -⟩ := ho7.ints.open_
          rw [List.length_append] at hv7
          subst hv7
          refine hK.out _ _ ⟨HSE.out _ E7, fun _ => F7.blk.cell 0⟩ (fun hS => ?_)
          clear hK
          try simp only [Act.put, List.setIfInBounds_toArray, List.set_cons_zero, List.set_cons_succ]
          refine AnyT.go (rs := [7]) (by kernel_rfl) (by simp) ?_
          refine AllT.cons rfl (fun K hK => ?_) AllT.nil
          go_simp
          have hb8 : Below wr.heap.size wr (w7.alloc (.cells #[.slice A7 (B1.length + zs.length) c7] tL)) := hb7.alloc hb7.size _
          have F8 := HF.out.step hb8
          have E8 := HE.out.step hb8
          refine hK.out _ _ ⟨HSE.out _ E8, fun _ => F8.blk.cell 0⟩ (fun hS => ?_)
          clear hK
          try simp only [Act.put, List.setIfInBounds_toArray, List.set_cons_zero, List.set_cons_succ]
          refine AnyT.go (rs := [8]) (by kernel_rfl) (by simp) ?_
          refine AllT.cons rfl (fun K hK => ?_) AllT.nil
          refine step_app1g T_row (B := w.heap.size + 1) (v := va) (vs := vs) (W := w7.alloc (.cells #[.slice A7 (B1.length + zs.length) c7] tL)) (u := .slice A7 (B1.length + zs.length) c7) (ad := ⟨w7.heap.size, 0, none⟩) F8.two.own (by omega) (by have := F8.blk.lt; have := F8.ge; omega) (by rfl) rfl (by rfl) (by rfl) (by rfl) ((Blk.new w7 _ _).cell 0) ?_
          intro v9 w9 hown9 hgr9
          obtain ⟨A9, c9, hv9, -, -⟩ := hown9.cells.open_
          rw [show (vs ++ [Value.slice A7 (B1.length + zs.length) c7]).length = vs.length + 1 from by simp] at hv9
          subst hv9
          have F9 := Lib.hid (HF.out.next hb8 (ho7.below (below1 _ _)) hown9 hgr9)
          have E9 := E8.grow F8.two.own (by decide) (by omega) hgr9
          have KP := F8.blk.grow hgr9 F8.npA
          have e0 : w9.cell? ⟨p, 0, none⟩ = some va := KP.cell 0
          have e2 : w9.frozen? ⟨p, 0, none⟩ = false := KP.frozen 0
          refine hK.out _ _ ⟨HSE.out _ E9, fun _ => e0⟩ (fun hS => ?_)
          clear hK
          try simp only [Act.put, List.setIfInBounds_toArray, List.set_cons_zero, List.set_cons_succ]
          refine AnyT.take0 (i := 9) (v := ?_) rfl (by kernel_rfl) (by kernel_rfl) (by kernel_rfl) (by decide) (fun _ _ _ h => h) hS (Or.inl ⟨by first | kernel_rfl | rfl, ?_⟩) ?_
          rotate_left
          · rintro w' ⟨b, hw'⟩; obtain ⟨hw1, -⟩ := hw'; (try (obtain ⟨hw1, hw2⟩ := hw1)); (try (obtain ⟨hw2, hw3⟩ := hw2)); (try (obtain ⟨hw3, hw4⟩ := hw3)); go_simp; try with_reducible rfl
          try simp only [Act.put, List.setIfInBounds_toArray, List.set_cons_zero, List.set_cons_succ]
          refine AnyT.go (rs := [10]) (by kernel_rfl) (by simp) ?_
          refine AllT.cons rfl (fun K hK => ?_) AllT.nil
          go_simp
          have E10 := Lib.hid (E9.store hpp 0 (.slice A9 (vs.length + 1) c9))
          refine hK.out _ _ ⟨HSE.out _ E10.out, fun h => Bool.noConfusion (show true = false from h)⟩ (fun hS => ?_)
          clear hK
          refine AnyT.done (by kernel_rfl) ?_ _
          clear hS hown9 hgr9 F7 E7 F8 E8 E9 hb7 hb8 ho7 KP e0 e2 hcz
          go_wp2_with fail
          go_roundw
          case rel =>
            refine ⟨j + 1, .slice A9 (vs.length + 1) c9, vs ++ [.slice A7 (B1.length + zs.length) c7], by omega, by go_num, ?_, E10.out⟩
            rw [HS.out]
            exact F9.out
          case measure => simp [intOf]; omega
        · have : j = A2.length := by omega
          subst this
          rw [List.take_length] at HF
          obtain ⟨A7, c7, hv7, -, -⟩ := HF.out.two.own.cells.open_
          have hvl : vs.length = A1.length + A2.length := by have := HF.out.two.rows.1; simpa using this
          rw [hvl] at hv7
          subst hv7
          have e0 : wr.cell? ⟨p, 0, none⟩ = some (.slice A7 (A1.length + A2.length) c7) := HF.out.blk.cell 0
          have e1 : wr.cell? ⟨p, 1, none⟩ = some (.slice A6 (B1.length + B2.length) c6) := HF.out.blk.cell 1
          have f0 : wr.cell? ⟨w.heap.size + 1 + 1, 0, none⟩ = some (.slice none 0 0) := HE.out.k2.cell 0
          have f1 : wr.cell? ⟨w.heap.size + 1 + 1, 1, none⟩ = some (.slice none 0 0) := HE.out.k2.cell 1
          have f2 := HE.out.k2.frozen 0
          have f3 := HE.out.k2.frozen 1
          have HTW := Lib.hid ((HF.out.two.storeAt HE.out.k2 (by decide) (by decide) 0 (.slice A7 (A1.length + A2.length) c7)).storeAt (HE.out.k2.set_ 0 (.slice A7 (A1.length + A2.length) c7)) (by decide) (by decide) 1 (.slice A6 (B1.length + B2.length) c6))
          have HBE := Lib.hid (HE.out.below)
          clear hvl
          go_wp2_with fail
          refine bodyPost_ret (v := .agg #[.slice A7 (A1.length + A2.length) c7, (.slice A6 (B1.length + B2.length) c6)]) (by simp [results, Try.results57, go_sem, f0, f1]) rfl ⟨_, rfl, HTW.out.tab.mono (by omega) (Nat.le_refl _), (HBE.out.setCell (p := ⟨w.heap.size + 1 + 1, 0, none⟩) (by show _ ≤ w.heap.size + 1 + 1; omega) _).setCell (p := ⟨w.heap.size + 1 + 1, 1, none⟩) (by show _ ≤ w.heap.size + 1 + 1; omega) _⟩
end Go.Proofs.Ytcbgopmonbgmgaa

set_option linter.unusedVariables false
set_option linter.unusedSimpArgs false
namespace Go.Proofs.Ytcbgopmonbgmgaa
open Go.RowKit

set_option maxRecDepth 100000 in
set_option maxHeartbeats 2000000 in
theorem s_l10Scale (w : World) (v : Value) (A : List (List Int)) (Bs : List Int) (k : Int) (ha : TabArg w v A Bs) (hT : NumTab A Bs) (h0 : 0 ≤ k) (h1 : k ≤ 10006) :
    Calls Try.prog 60 #[v, .int .i64 k] w fun e w' => ∃ r, e = .returned r ∧ OT w' w.heap.size w'.heap.size r (A.map (scl k)) (scl k Bs) ∧ Below w.heap.size w w' := by
  obtain ⟨va, vb, rfl, hA, hB⟩ := ha
  have HB := Lib.hid hB
  have HA := Lib.hid hA
  obtain ⟨A1, c1, rfl, l1, l2, h3⟩ := hA.open_
  obtain ⟨A2, c2, rfl, -, -, -⟩ := hB.open_
  have H3 := Lib.hid h3
  have hal := hT.la
  have hbl := hT.lb
  have HT := Lib.hid hT
  clear hA hB h3 hT
  go_enter Try.func60, Try.ntmps60
  go_wp2_with fail
  refine (s_l02Times _ _ Bs k (HB.out.below (below2 w _ _)) HT.out.ws (by omega) h0 h1).mono ?_
  rintro e w3 ⟨v3, rfl, ho, hb3⟩
  simp only [size_alloc'] at ho hb3
  obtain ⟨A3, c3, hv, -, -, -⟩ := ho.ints.open_
  rw [scl_len] at hv
  subst hv
  have hs3 := hb3.size
  simp only [size_alloc'] at hs3
  have k0 : Blk w3 w.heap.size 27 #[.slice A1 A.length c1, .slice A2 Bs.length c2] := ((Blk.new w _ _).alloc _).below hb3 (by omega)
  have k1 : Blk w3 (w.heap.size + 1) 27 #[.slice none 0 0, .slice none 0 0] := (Blk.new1 w _ _ _).below hb3 (by omega)
  have g0 : (w3.alloc (.cells #[.slice none 0 0, .slice A3 Bs.length c3] 27)).cell? ⟨w.heap.size, 0, none⟩ = some (.slice A1 A.length c1) := (k0.alloc _).cell 0
  have HF := Lib.hid (show Fill w (w3.alloc (.cells #[.slice none 0 0, .slice A3 Bs.length c3] 27)) w3.heap.size (.slice none 0 0) (.slice A3 Bs.length c3) [] (w.heap.size + 1 + 1) [] (scl k Bs) from
    ⟨Blk.new _ _ _, Own.nil _ _ _, RowsOwn.nil _ _ _ _, (OI.of ho).below (below1 _ _), by omega, ((below2 w _ _).trans (hb3.mono (by omega))).alloc (by omega) _⟩)
  have K1 := Lib.hid (k1.alloc (.cells #[.slice none 0 0, .slice A3 Bs.length c3] 27))
  have X1 := Lib.hid (k0.alloc (.cells #[.slice none 0 0, .slice A3 Bs.length c3] 27))
  have HP := Lib.hid hs3
  clear k0 k1 ho hb3 hs3
  go_wp2_with fail
  clear g0
  generalize hw4 : (w3.alloc (.cells #[.slice none 0 0, .slice A3 Bs.length c3] 27)) = w4 at HF K1 X1
  have HBelow4 := Lib.hid HF.out.below
  clear hw4
  generalize hp : w3.heap.size = p at HF HP ⊢
  clear hp
  go_loopw [6] (fun i wr => ∃ (j : Nat) (va : Value) (vs : List Value), j ≤ A.length ∧ i = .int .i64 j ∧ Fill w wr p va (.slice A3 Bs.length c3) vs (w.heap.size + 1 + 1) ((A.take j).map (scl k)) (scl k Bs) ∧ Blk wr (w.heap.size + 1) 27 #[.slice none 0 0, .slice none 0 0] ∧ Blk wr w.heap.size 27 #[.slice A1 A.length c1, .slice A2 Bs.length c2]) (fun i _ => A.length - (intOf i).toNat)
  case atStart => exact ⟨0, _, [], Nat.zero_le _, rfl, HF.out, K1.out, X1.out⟩
  case round =>
    obtain ⟨j, va, vs, hj, rfl, hfill, hk1, hx1⟩ := hrel
    clear HF K1 X1
    have X1 := Lib.hid hx1
    have x0 : wr.cell? ⟨w.heap.size, 0, none⟩ = some (.slice A1 A.length c1) := X1.out.cell 0
    clear hx1
    have HF := Lib.hid hfill
    have K1 := Lib.hid hk1
    have hvl : vs.length ≤ 1000 := by have := hfill.rows.1; simp at this; omega
    have HV := Lib.hid hvl
    clear hfill hk1 hvl
    by_cases hlt : j < A.length
    · obtain ⟨ad, u, zs, rfl, hz, hu, hc0⟩ := H3.out j hlt
      have hc : wr.cell? (ad.add j) = some u := by
        rw [HF.out.below.cell (by rw [block_add]; have := World.block_lt_of_cell? w _ hc0; rwa [block_add] at this)]; exact hc0
      have HU := Lib.hid (hu.below HF.out.below)
      have HZN := Lib.hid (HT.out.rows zs (List.mem_of_getElem? hz))
      have HZ := Lib.hid hz
      clear hz hu hc0
      have q0 := (HF.out.blk.both (u := va) rfl).1
      have q1 := (HF.out.blk.both (u := va) rfl).2
      go_wp2_with fail
      go_region_law (first | (refine step_app1 T_row (B := p + 1) (v := va) (vs := vs) (HF.out.own.below (below_of_drew hb5)) (by have := HV.out; omega) (by have h1 := HF.out.lt; have h2 := hb5.size; simp at h2; omega) (by rfl) rfl (by rfl) (by rfl) (by rfl) ?_; intro v6 w6 hown6 hgr6; obtain ⟨A6, c6, hv6, -, -⟩ := hown6.cells.open_; subst hv6; have q6 := (((HF.out.after (below_of_drew hb5)).grow hgr6 HF.out.np).both (u := va) rfl).1; have q7 := (((HF.out.after (below_of_drew hb5)).grow hgr6 HF.out.np).both (u := va) rfl).2) | (go_simp; go_at_call 106; refine (s_l02Times _ _ zs k (by exact HU.out) HZN.out.1 (by have := HZN.out.2; omega) h0 h1).mono ?_; rintro e w5 ⟨r5, rfl, ho5, hb5⟩; obtain ⟨A5, c5, hv5, -, -, -⟩ := ho5.ints.open_; rw [scl_len] at hv5; subst hv5; have q5 := ((HF.out.after (below_of_drew hb5)).both (u := va) rfl).1; have q5a : ∀ o, (w5.alloc o).cell? ⟨p, 0, none⟩ = some va := fun o => ((HF.out.after (below_of_drew hb5)).alloc o).cell 0))
      all_goals
        have HN := Lib.hid (HF.out.next (zs := scl k zs) (r := Value.slice A5 zs.length c5) (by have := HP.out; omega) (below_of_drew hb5) ho5 hown6 hgr6)
        have KN := Lib.hid ((((K1.out.below (below_of_drew hb5) K1.out.lt).grow hgr6 (fun e => by have h1 := HF.out.own.ge _ e; have h2 := HP.out; omega))).far (p := ⟨p, 0, none⟩) (by have h2 := HP.out; simp; omega) (Value.slice A6 (vs ++ [Value.slice A5 zs.length c5]).length c6))
        have XN := Lib.hid ((((X1.out.below (below_of_drew hb5) X1.out.lt).grow hgr6 (fun e => by have h1 := HF.out.own.ge _ e; have h2 := HP.out; omega))).far (p := ⟨p, 0, none⟩) (by have h2 := HP.out; simp; omega) (Value.slice A6 (vs ++ [Value.slice A5 zs.length c5]).length c6))
        have HZT := Lib.hid (show (A.take (j + 1)).map (scl k) = (A.take j).map (scl k) ++ [scl k zs] by rw [List.take_add_one, HZ.out]; simp)
        simp only [List.length_append, List.length_singleton] at HN KN XN
        clear hown6 hgr6 ho5 hb5 q0 q1 q5 q5a q6 q7 hc x0
        go_wp2_with fail
        go_roundw
        case rel =>
          refine ⟨j + 1, .slice A6 (vs.length + 1) c6, vs ++ [.slice A5 zs.length c5], by omega, by go_num, ?_, KN.out, XN.out⟩
          rw [HZT.out]
          exact HN.out
        case measure => simp [intOf]; omega
    · have : j = A.length := by omega
      subst this
      rw [List.take_length] at HF
      obtain ⟨A7, c7, hv7, -, -⟩ := HF.out.own.cells.open_
      have hvl : vs.length = A.length := by have := HF.out.rows.1; simp at this; omega
      rw [hvl] at hv7
      subst hv7
      have e0 : wr.cell? ⟨p, 0, none⟩ = some (.slice A7 A.length c7) := HF.out.blk.cell 0
      have e1 : wr.cell? ⟨p, 1, none⟩ = some (.slice A3 Bs.length c3) := HF.out.blk.cell 1
      have f0 : wr.cell? ⟨w.heap.size + 1, 0, none⟩ = some (.slice none 0 0) := K1.out.cell 0
      have f1 : wr.cell? ⟨w.heap.size + 1, 1, none⟩ = some (.slice none 0 0) := K1.out.cell 1
      have f2 := K1.out.frozen 0
      have f3 := K1.out.frozen 1
      have HTAB := Lib.hid (HF.out.tab (by have := HP.out; omega))
      clear hvl
      go_wp2_with fail
      have c0 := Chg.refl (w.heap.size + 1) (w.heap.size + 1 + 1) wr
      have c1' := c0.setCell (p := ⟨w.heap.size + 1, 0, none⟩) (Nat.le_refl _) (by simp) (.slice A7 A.length c7)
      have c2' := c1'.setCell (p := ⟨w.heap.size + 1, 1, none⟩) (Nat.le_refl _) (by simp) (.slice A3 Bs.length c3)
      have hsb := HF.out.below.size
      refine bodyPost_ret (v := .agg #[.slice A7 A.length c7, .slice A3 Bs.length c3]) (by simp [results, Try.results60, go_sem, f0, f1]) rfl ⟨_, rfl, (HTAB.out.kept c2' (.inr (Nat.le_refl _))).mono (by omega) c2'.size, c2'.below HF.out.below (by omega) hsb⟩
end Go.Proofs.Ytcbgopmonbgmgaa

set_option linter.unusedVariables false
set_option linter.unusedSimpArgs false
namespace Go.Proofs.Ytcbgopmonbgmgaa
open Go.RowKit

theorem Ints.pre {w : World} {A : Option Addr} {n c : Nat} {zs : List Int} (h : Ints w (.slice A n c) zs) (k : Nat) (hk : k ≤ zs.length) : Ints w (.slice A k c) (zs.take k) := by
  obtain ⟨A', c', hv, l1, l2, h3⟩ := h.open_
  simp only [Value.slice.injEq] at hv
  obtain ⟨rfl, rfl, rfl⟩ := hv
  have hl : (ints (zs.take k)).length = k := by simp [ints]; omega
  refine ⟨⟨A, c, by rw [hl], by rw [hl]; omega, by simpa [maxLen] using l2, fun j u hu => ?_⟩, fun z hz => h.2 z (List.mem_of_mem_take hz)⟩
  have hj : j < k := by rw [← hl]; exact (List.getElem?_eq_some_iff.1 hu).1
  obtain ⟨ad, z, hA, hz, -, hc⟩ := h3 j (by omega)
  refine ⟨ad, hA, ?_⟩
  rw [hc, ← hu]
  simp [ints, List.getElem?_take, hj, hz]

end Go.Proofs.Ytcbgopmonbgmgaa

set_option linter.unusedVariables false
set_option linter.unusedSimpArgs false
namespace Go.Proofs.Ytcbgopmonbgmgaa
open Go.RowKit

set_option maxHeartbeats 400000 in
theorem s_l01Frac1 (k : Int) (w : World) (h0 : 0 ≤ k) (h1 : k ≤ 2000000000) :
    Calls Try.prog 61 #[.int .i64 1, .int .i64 k] w fun e w' => e = .returned (.int .i64 (pw k 10005)) ∧ w = w' := by
  have HP := Lib.hid (show (1 : Int) % 10007 * pw (k % 10007) 10005 % 10007 = pw k 10005 by rw [pw_mod, show (1 : Int) % 10007 = 1 from by decide, Int.one_mul, pw_self])
  have hb := pw_bd (k % 10007) 10005
  go_enter Try.func61, Try.ntmps61
  go_wp2_with (first | (go_at_call 108; refine (s_l01Mod _ _ (by omega) (by omega)).mono ?_; rintro e w' ⟨rfl, rfl⟩) | (go_at_call 109; refine (s_l01Inv _ _ (by omega) (by omega)).mono ?_; rintro e w' ⟨rfl, rfl⟩) | (go_at_call 107; refine (s_l01Mul _ _ _ (by omega) (by omega) (by omega) (by omega)).mono ?_; rintro e w' ⟨rfl, rfl⟩))
  go_ret
  refine ⟨ret_int ?_, rfl⟩
  have := HP.out
  simpa using this

end Go.Proofs.Ytcbgopmonbgmgaa

