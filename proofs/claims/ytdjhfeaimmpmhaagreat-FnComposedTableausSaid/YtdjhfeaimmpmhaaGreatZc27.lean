/- Walk: composed of the program. | Walks: numbers that are drawn (laws.dice): any numbers in their ranges; what the source holds is not told. -/
import Derived.Test.YtdjhfeaimmpmhaaGreatZc23
import Derived.Test.YtdjhfeaimmpmhaaGreatZc24
import Derived.Test.YtdjhfeaimmpmhaaGreatRows
import Derived.Test.YtdjhfeaimmpmhaaGreatZc3
import Derived.Test.YtdjhfeaimmpmhaaGreatZc4
import Derived.Test.YtdjhfeaimmpmhaaGreatZc1
import Derived.BigQuiet
import Derived.Deep.RegionLaw
import Derived.WalkSmall
import Derived.IntWalk
import Derived.Deep.CutRange
import Derived.Deep.CutBlock
import Derived.Deep.DeepCutAuto
import Derived.Deep.QuietTactic
import Derived.WalkLawsBesides
import Derived.Deep.RegionHeld3
set_option maxRecDepth 100000
set_option linter.unusedVariables false
set_option linter.unusedSimpArgs false
namespace Go.Proofs.YtdjhfeaimmpmhaaGreat
open Go.RowKit

/-- a literal of two lists -/
theorem rows_two {W : World} {u1 u2 : Value} {z1 z2 : List Int} (h1 : Ints W u1 z1) (h2 : Ints W u2 z2) : Rows (W.alloc (.cells #[u1, u2] tL)) (.slice (some ⟨W.heap.size, 0, none⟩) 2 2) [z1, z2] := by
  refine ⟨[u1, u2], (own_lit W tL [u1, u2] (by simp [maxLen])).cells, rfl, fun k u x hu hx => ?_⟩
  match k, hu, hx with
  | 0, hu, hx => simp at hu hx; subst hu; subst hx; exact h1.below (below1 _ _)
  | 1, hu, hx => simp at hu hx; subst hu; subst hx; exact h2.below (below1 _ _)
  | k + 2, hu, hx => simp at hu

set_option maxHeartbeats 4000000 in
theorem im_composed (w : World) (v v' : Value) (A1 A2 : List (List Int)) (B1 B2 : List Int) (ha : TabArg w v A1 B1) (hb : TabArg w v' A2 B2) (hT : NumTab A1 B1) (hT' : NumTab A2 B2) :
    Calls Tryz.prog 102 #[v, v'] w fun e w' => ∃ r, e = .returned r ∧ OT w' w.heap.size w'.heap.size r (compA A1 B1 A2 B2) (B1 ++ B2) ∧ Below w.heap.size w w' := by
  have HTY := Lib.hid hb
  obtain ⟨va, vb, rfl, hA, hB⟩ := ha
  obtain ⟨va', vb', rfl, hA', hB'⟩ := hb
  have HB := Lib.hid hB
  have HB' := Lib.hid hB'
  obtain ⟨Xa, xa, rfl, l1, l2, h3⟩ := hA.open_
  obtain ⟨Xb, xb, rfl, -, -, -⟩ := hB.open_
  obtain ⟨Ya, ya, rfl, m1, m2, g3⟩ := hA'.open_
  obtain ⟨Yb, yb, rfl, -, -, -⟩ := hB'.open_
  have H3 := Lib.hid h3
  have G3 := Lib.hid g3
  have hal := hT.la
  have hbl := hT.lb
  have hal' := hT'.la
  have hbl' := hT'.lb
  have HT := Lib.hid hT
  have HT' := Lib.hid hT'
  clear hA hB hA' hB' h3 g3 hT hT'
  have B0 := Lib.hid (below3 w (.cells #[.slice Xa A1.length xa, .slice Xb B1.length xb] 45) (.cells #[.slice Ya A2.length ya, .slice Yb B2.length yb] 45) (.cells #[.slice none 0 0, .slice none 0 0] 45))
  have HE1 := Lib.hid (show Env w (((w.alloc (.cells #[.slice Xa A1.length xa, .slice Xb B1.length xb] 45)).alloc (.cells #[.slice Ya A2.length ya, .slice Yb B2.length yb] 45)).alloc (.cells #[.slice none 0 0, .slice none 0 0] 45)) #[.slice Xa A1.length xa, .slice Xb B1.length xb] #[.slice Ya A2.length ya, .slice Yb B2.length yb] #[.slice none 0 0, .slice none 0 0] from ⟨((Blk.new w #[.slice Xa A1.length xa, .slice Xb B1.length xb] 45).alloc (.cells #[.slice Ya A2.length ya, .slice Yb B2.length yb] 45)).alloc (.cells #[.slice none 0 0, .slice none 0 0] 45), (Blk.new1 w (.cells #[.slice Xa A1.length xa, .slice Xb B1.length xb] 45) #[.slice Ya A2.length ya, .slice Yb B2.length yb] 45).alloc (.cells #[.slice none 0 0, .slice none 0 0] 45), Blk.new2 w (.cells #[.slice Xa A1.length xa, .slice Xb B1.length xb] 45) (.cells #[.slice Ya A2.length ya, .slice Yb B2.length yb] 45) #[.slice none 0 0, .slice none 0 0] 45, B0.out⟩)
  have HIN := Lib.hid (show ∀ z ∈ B1 ++ B2, In64 z from nums_in (fun z hz => by rcases List.mem_append.1 hz with h | h; exact HT.out.ws z h; exact HT'.out.ws z h))
  go_enter Tryz.func102, Tryz.ntmps102
  go_wp2_with fail
  have hs1 : (((w.alloc (.cells #[.slice Xa A1.length xa, .slice Xb B1.length xb] 45)).alloc (.cells #[.slice Ya A2.length ya, .slice Yb B2.length yb] 45)).alloc (.cells #[.slice none 0 0, .slice none 0 0] 45)).heap.size = w.heap.size + 1 + 1 + 1 := by simp
  generalize (((w.alloc (.cells #[.slice Xa A1.length xa, .slice Xb B1.length xb] 45)).alloc (.cells #[.slice Ya A2.length ya, .slice Yb B2.length yb] 45)).alloc (.cells #[.slice none 0 0, .slice none 0 0] 45)) = w1 at B0 HE1 hs1 ⊢
  rw [← hs1]
  clear hs1
  have hlt1 : w.heap.size + 1 + 1 < w1.heap.size := HE1.out.k2.lt
  refine (lib_ConcatI _ _ [B1, B2] (rows_two (HB.out.below B0.out) (HB'.out.below B0.out)) (by simp; omega)).mono ?_
  rintro e w5 ⟨v5, rfl, ho5, hb5⟩
  rw [show [B1, B2].flatten = B1 ++ B2 from by simp] at ho5
  obtain ⟨A6, c6, hv6, -, -, -⟩ := ho5.ints.open_
  rw [List.length_append] at hv6
  subst hv6
  have HB5 := Lib.hid (show Below w1.heap.size w1 w5 from (below1 w1 _).trans (hb5.mono (by simp)))
  have hpp : w.heap.size + 1 + 1 < w5.heap.size := Nat.lt_of_lt_of_le hlt1 HB5.out.size
  have HF := Lib.hid (show FillT w (w5.alloc (.cells #[.slice none 0 0, (.slice A6 (B1.length + B2.length) c6)] 45)) w5.heap.size (.slice none 0 0) (.slice A6 (B1.length + B2.length) c6) [] [] (B1 ++ B2) from ⟨⟨Own.nil _ _ _, RowsOwn.nil _ _ _ _, (ho5.mono (by simp; omega)).below (below1 _ _), fun k u hu => by simp at hu⟩, Blk.new _ _ _, by omega, (B0.out.trans (HB5.out.mono B0.out.size)).alloc (by omega) _⟩)
  have HE := Lib.hid ((HE1.out.step HB5.out).step (below1 w5 (.cells #[.slice none 0 0, (.slice A6 (B1.length + B2.length) c6)] 45)))
  have q0 : (w5.alloc (.cells #[.slice none 0 0, (.slice A6 (B1.length + B2.length) c6)] 45)).cell? ⟨w.heap.size, 0, none⟩ = some (.slice Xa A1.length xa) := HE.out.k0.cell 0
  clear ho5 hb5
  go_wp2_with fail
  clear q0
  generalize (w5.alloc (.cells #[.slice none 0 0, (.slice A6 (B1.length + B2.length) c6)] 45)) = w4 at HF HE ⊢
  generalize w5.heap.size = p at HF HE hpp ⊢
  go_loopw [20] (fun i wr => ∃ (j : Nat) (va : Value) (vs : List Value), j ≤ A1.length ∧ i = .int .i64 j ∧ FillT w wr p va (.slice A6 (B1.length + B2.length) c6) vs ((A1.take j).map (padR B2.length)) (B1 ++ B2) ∧ Env w wr #[.slice Xa A1.length xa, .slice Xb B1.length xb] #[.slice Ya A2.length ya, .slice Yb B2.length yb] #[.slice none 0 0, .slice none 0 0]) (fun i _ => A1.length - (intOf i).toNat)
  case atStart => exact ⟨0, _, [], Nat.zero_le _, rfl, HF.out, HE.out⟩
  case round =>
    obtain ⟨j, va, vs, hj, rfl, hfill, henv⟩ := hrel
    clear HF HE
    have HF := Lib.hid hfill
    have HE := Lib.hid henv
    clear hfill henv
    by_cases hlt : j < A1.length
    · obtain ⟨ad, u, zs, rfl, hz, hu, hc0⟩ := H3.out j hlt
      obtain ⟨A5, c5, rfl, p1, p2, -⟩ := hu.open_
      have HU := Lib.hid (hu.below HE.out.below)
      have hzl := (HT.out.rows zs (List.mem_of_getElem? hz)).2
      have HZI := Lib.hid (show ∀ z ∈ padR B2.length zs, In64 z from nums_in (fun z h => by rcases List.mem_append.1 h with h | h; exact (HT.out.rows zs (List.mem_of_getElem? hz)).1 z h; have := (List.mem_replicate.1 h).2; omega))
      have HS := Lib.hid (show (A1.take (j + 1)).map (padR B2.length) = (A1.take j).map (padR B2.length) ++ [padR B2.length zs] by rw [List.take_add_one, hz]; simp)
      have hvl : vs.length ≤ 1000 := by have := HF.out.two.rows.1; rw [List.length_map, List.length_take] at this; omega
      have hcz : wr.cell? (ad.add j) = some (.slice A5 zs.length c5) := by
        rw [HE.out.below.cell (by rw [block_add]; have := World.block_lt_of_cell? w _ hc0; rwa [block_add] at this)]; exact hc0
      clear hz hu hc0
      have HSE := Lib.hid (show ∀ W : World, Env w W #[.slice (some ad) A1.length xa, .slice Xb B1.length xb] #[.slice Ya A2.length ya, .slice Yb B2.length yb] #[.slice none 0 0, .slice none 0 0] → W.cell? ⟨w.heap.size + 1, 0, none⟩ = some (.slice Ya A2.length ya) ∧ W.cell? ⟨w.heap.size + 1, 1, none⟩ = some (.slice Yb B2.length yb) from fun W hW => ⟨hW.k1.cell 0, hW.k1.cell 1⟩)
      go_wp2_with fail
      refine AnyT.begin (k := 11) (S := fun b w' => (w'.cell? ⟨w.heap.size + 1, 0, none⟩ = some (.slice Ya A2.length ya) ∧ w'.cell? ⟨w.heap.size + 1, 1, none⟩ = some (.slice Yb B2.length yb)) ∧ (b = false → w'.cell? ⟨p, 0, none⟩ = some va)) (by kernel_rfl) ?_
      have hS : (fun (b : Bool) (w' : World) => (w'.cell? ⟨w.heap.size + 1, 0, none⟩ = some (.slice Ya A2.length ya) ∧ w'.cell? ⟨w.heap.size + 1, 1, none⟩ = some (.slice Yb B2.length yb)) ∧ (b = false → w'.cell? ⟨p, 0, none⟩ = some va)) false wr.drew := ⟨HSE.out wr HE.out, fun _ => HF.out.blk.cell 0⟩
      refine AnyT.take0 (i := 0) (v := ?_) rfl (by kernel_rfl) (by kernel_rfl) (by kernel_rfl) (by decide) (fun _ _ _ h => h) hS (Or.inl ⟨by first | kernel_rfl | rfl, ?_⟩) ?_
      rotate_left
      · rintro w' ⟨b, hw'⟩; obtain ⟨hw1, -⟩ := hw'; (try (obtain ⟨hw1, hw2⟩ := hw1)); (try (obtain ⟨hw2, hw3⟩ := hw2)); (try (obtain ⟨hw3, hw4⟩ := hw3)); go_simp; try with_reducible rfl
      try simp only [Act.put, List.setIfInBounds_toArray, List.set_cons_zero, List.set_cons_succ]
      refine AnyT.take1 (i := 1) (v := ?_) rfl (by kernel_rfl) (by kernel_rfl) (by kernel_rfl) (by decide) (by kernel_rfl) rfl (fun _ _ _ h => h) hS (Or.inl ⟨by first | kernel_rfl | rfl, ?_⟩) ?_
      rotate_left
      · intro w' hw'; have hw3 := hw'.2 rfl; go_simp; try with_reducible rfl
      try simp only [Act.put, List.setIfInBounds_toArray, List.set_cons_zero, List.set_cons_succ]
      refine AnyT.take0 (i := 2) (v := ?_) rfl (by kernel_rfl) (by kernel_rfl) (by kernel_rfl) (by decide) (fun _ _ _ h => h) hS (Or.inl ⟨by first | kernel_rfl | rfl, ?_⟩) ?_
      rotate_left
      · rintro w' ⟨b, hw'⟩; obtain ⟨hw1, -⟩ := hw'; (try (obtain ⟨hw1, hw2⟩ := hw1)); (try (obtain ⟨hw2, hw3⟩ := hw2)); (try (obtain ⟨hw3, hw4⟩ := hw3)); go_simp; try with_reducible rfl
      try simp only [Act.put, List.setIfInBounds_toArray, List.set_cons_zero, List.set_cons_succ]
      refine AnyT.take0 (i := 3) (v := ?_) rfl (by kernel_rfl) (by kernel_rfl) (by kernel_rfl) (by decide) (fun _ _ _ h => h) hS (Or.inl ⟨by first | kernel_rfl | rfl, ?_⟩) ?_
      rotate_left
      · rintro w' ⟨b, hw'⟩; obtain ⟨hw1, -⟩ := hw'; (try (obtain ⟨hw1, hw2⟩ := hw1)); (try (obtain ⟨hw2, hw3⟩ := hw2)); (try (obtain ⟨hw3, hw4⟩ := hw3)); go_simp; try with_reducible rfl
      try simp only [Act.put, List.setIfInBounds_toArray, List.set_cons_zero, List.set_cons_succ]
      refine AnyT.go (rs := [4]) (by kernel_rfl) (by simp) ?_
      refine AllT.cons rfl (fun K hK => ?_) AllT.nil
      go_simp
      refine (im_stages _ _ A2 B2 (by exact HTY.out.below HE.out.below.drew)).mono ?_
      rintro e w2 ⟨rfl, hb2w⟩
      have hb2 : Below wr.heap.size wr w2 := below_of_drew hb2w
      refine hK.out _ _ ⟨HSE.out _ (HE.out.step hb2), fun _ => (HF.out.step hb2).blk.cell 0⟩ (fun hS => ?_)
      clear hK
      try simp only [Act.put, List.setIfInBounds_toArray, List.set_cons_zero, List.set_cons_succ]
      refine AnyT.go (rs := [5]) (by kernel_rfl) (by simp) ?_
      refine AllT.cons rfl (fun K hK => ?_) AllT.nil
      refine step_mk T_int B2.length (by omega) (W := w2) (by rfl) (by rfl) (by rfl) (by rfl) ?_
      intro w3 hown3 hb3w hlt3
      have hb3 : Below wr.heap.size wr w3 := hb2.trans (hb3w.mono hb2.size)
      have ho3 : OwnInts w3 w2.heap.size tI (.slice (some ⟨w2.heap.size, 0, none⟩) B2.length B2.length) (List.replicate B2.length 0) := ⟨by simpa [ints] using hown3, fun z h => by have := (List.mem_replicate.1 h).2; subst this; unfold In64; omega⟩
      refine hK.out _ _ ⟨HSE.out _ (HE.out.step hb3), fun _ => (HF.out.step hb3).blk.cell 0⟩ (fun hS => ?_)
      clear hK
      try simp only [Act.put, List.setIfInBounds_toArray, List.set_cons_zero, List.set_cons_succ]
      refine AnyT.go (rs := [6]) (by kernel_rfl) (by simp) ?_
      refine AllT.cons rfl (fun K hK => ?_) AllT.nil
      go_simp
      have hb4 : Below wr.heap.size wr (w3.alloc (.cells #[.slice A5 zs.length c5, .slice (some ⟨w2.heap.size, 0, none⟩) B2.length B2.length] tL)) := hb3.alloc hb3.size _
      refine hK.out _ _ ⟨HSE.out _ (HE.out.step hb4), fun _ => (HF.out.step hb4).blk.cell 0⟩ (fun hS => ?_)
      clear hK
      try simp only [Act.put, List.setIfInBounds_toArray, List.set_cons_zero, List.set_cons_succ]
      refine AnyT.go (rs := [7]) (by kernel_rfl) (by simp) ?_
      refine AllT.cons rfl (fun K hK => ?_) AllT.nil
      go_simp
      refine (lib_ConcatI _ _ [zs, List.replicate B2.length 0] (by exact rows_two (HU.out.below hb3) ho3.ints) (by simp; omega)).mono ?_
      rintro e w7 ⟨v7, rfl, ho7w, hb7w⟩
      have hb7 : Below wr.heap.size wr w7 := hb4.trans (hb7w.mono hb4.size)
      have ho7 : OwnInts w7 wr.heap.size tI v7 (padR B2.length zs) := by have h := ho7w.mono hb4.size; rwa [show [zs, List.replicate B2.length 0].flatten = padR B2.length zs from by simp [padR]] at h
      have F7 := HF.out.step hb7
      have E7 := HE.out.step hb7
      clear hown3 hb3w ho7w hb7w hb2w
      obtain ⟨A7, c7, hv7, -, -, -⟩ := ho7.ints.open_
      rw [show (padR B2.length zs).length = zs.length + B2.length from by simp [padR]] at hv7
      subst hv7
      refine hK.out _ _ ⟨HSE.out _ E7, fun _ => F7.blk.cell 0⟩ (fun hS => ?_)
      clear hK
      try simp only [Act.put, List.setIfInBounds_toArray, List.set_cons_zero, List.set_cons_succ]
      refine AnyT.go (rs := [8]) (by kernel_rfl) (by simp) ?_
      refine AllT.cons rfl (fun K hK => ?_) AllT.nil
      go_simp
      have hb8 : Below wr.heap.size wr (w7.alloc (.cells #[.slice A7 (zs.length + B2.length) c7] tL)) := hb7.alloc hb7.size _
      have F8 := HF.out.step hb8
      have E8 := HE.out.step hb8
      refine hK.out _ _ ⟨HSE.out _ E8, fun _ => F8.blk.cell 0⟩ (fun hS => ?_)
      clear hK
      try simp only [Act.put, List.setIfInBounds_toArray, List.set_cons_zero, List.set_cons_succ]
      refine AnyT.go (rs := [9]) (by kernel_rfl) (by simp) ?_
      refine AllT.cons rfl (fun K hK => ?_) AllT.nil
      refine step_app1g T_row (B := w.heap.size + 1) (v := va) (vs := vs) (W := w7.alloc (.cells #[.slice A7 (zs.length + B2.length) c7] tL)) (u := .slice A7 (zs.length + B2.length) c7) (ad := ⟨w7.heap.size, 0, none⟩) F8.two.own (by omega) (by have := F8.blk.lt; have := F8.ge; omega) (by rfl) rfl (by rfl) (by rfl) (by rfl) ((Blk.new w7 _ _).cell 0) ?_
      intro v9 w9 hown9 hgr9
      obtain ⟨A9, c9, hv9, -, -⟩ := hown9.cells.open_
      rw [show (vs ++ [Value.slice A7 (zs.length + B2.length) c7]).length = vs.length + 1 from by simp] at hv9
      subst hv9
      have F9 := Lib.hid (HF.out.next hb8 (ho7.below (below1 _ _)) hown9 hgr9)
      have E9 := E8.grow F8.two.own (by decide) (by omega) hgr9
      have KP := F8.blk.grow hgr9 F8.npA
      have e0 : w9.cell? ⟨p, 0, none⟩ = some va := KP.cell 0
      have e2 : w9.frozen? ⟨p, 0, none⟩ = false := KP.frozen 0
      refine hK.out _ _ ⟨HSE.out _ E9, fun _ => e0⟩ (fun hS => ?_)
      clear hK
      try simp only [Act.put, List.setIfInBounds_toArray, List.set_cons_zero, List.set_cons_succ]
      refine AnyT.take0 (i := 10) (v := ?_) rfl (by kernel_rfl) (by kernel_rfl) (by kernel_rfl) (by decide) (fun _ _ _ h => h) hS (Or.inl ⟨by first | kernel_rfl | rfl, ?_⟩) ?_
      rotate_left
      · rintro w' ⟨b, hw'⟩; obtain ⟨hw1, -⟩ := hw'; (try (obtain ⟨hw1, hw2⟩ := hw1)); (try (obtain ⟨hw2, hw3⟩ := hw2)); (try (obtain ⟨hw3, hw4⟩ := hw3)); go_simp; try with_reducible rfl
      try simp only [Act.put, List.setIfInBounds_toArray, List.set_cons_zero, List.set_cons_succ]
      refine AnyT.go (rs := [11]) (by kernel_rfl) (by simp) ?_
      refine AllT.cons rfl (fun K hK => ?_) AllT.nil
      go_simp
      have E10 := Lib.hid (E9.store hpp 0 (.slice A9 (vs.length + 1) c9))
      refine hK.out _ _ ⟨HSE.out _ E10.out, fun h => Bool.noConfusion (show true = false from h)⟩ (fun hS => ?_)
      clear hK
      refine AnyT.done (by kernel_rfl) ?_ _
      clear hS hown9 hgr9 F7 E7 F8 E8 E9 hb7 hb8 ho7 KP e0 e2 hcz
      go_wp2_with fail
      go_roundw
      case rel =>
        refine ⟨j + 1, .slice A9 (vs.length + 1) c9, vs ++ [.slice A7 (zs.length + B2.length) c7], by omega, by go_num, ?_, E10.out⟩
        rw [HS.out]
        exact F9.out
      case measure => simp [intOf]; omega
    · have : j = A1.length := by omega
      subst this
      rw [List.take_length] at HF
      have q1 : wr.cell? ⟨w.heap.size + 1, 0, none⟩ = some (.slice Ya A2.length ya) := HE.out.k1.cell 0
      go_wp2_with fail
      clear q1
      obtain ⟨wa, rfl⟩ : ∃ wa : World, wa = wr := ⟨_, rfl⟩
      go_loopw [39] (fun i wr => ∃ (j : Nat) (va : Value) (vs : List Value), j ≤ A2.length ∧ i = .int .i64 j ∧ FillT w wr p va (.slice A6 (B1.length + B2.length) c6) vs (A1.map (padR B2.length) ++ (A2.take j).map (B1 ++ ·)) (B1 ++ B2) ∧ Env w wr #[.slice Xa A1.length xa, .slice Xb B1.length xb] #[.slice Ya A2.length ya, .slice Yb B2.length yb] #[.slice none 0 0, .slice none 0 0]) (fun i _ => A2.length - (intOf i).toNat)
      case atStart => exact ⟨0, _, vs, Nat.zero_le _, rfl, by simpa using HF.out, HE.out⟩
      case round =>
        obtain ⟨j, va, vs, hj, rfl, hfill, henv⟩ := hrel
        clear HF HE
        have HF := Lib.hid hfill
        have HE := Lib.hid henv
        clear hfill henv
        by_cases hlt2 : j < A2.length
        · obtain ⟨ad, u, zs, rfl, hz, hu, hc0⟩ := G3.out j hlt2
          obtain ⟨A5, c5, rfl, p1, p2, -⟩ := hu.open_
          have HU := Lib.hid (hu.below HE.out.below)
          have hzl := (HT'.out.rows zs (List.mem_of_getElem? hz)).2
          have HZI := Lib.hid (show ∀ z ∈ B1 ++ zs, In64 z from nums_in (fun z h => by rcases List.mem_append.1 h with h | h; exact HT.out.ws z h; exact (HT'.out.rows zs (List.mem_of_getElem? hz)).1 z h))
          have HS := Lib.hid (show A1.map (padR B2.length) ++ (A2.take (j + 1)).map (B1 ++ ·) = A1.map (padR B2.length) ++ (A2.take j).map (B1 ++ ·) ++ [B1 ++ zs] by rw [List.take_add_one, hz]; simp)
          have hvl : vs.length ≤ 2000 := by have := HF.out.two.rows.1; rw [List.length_append, List.length_map, List.length_map, List.length_take] at this; omega
          have hcz : wr.cell? (ad.add j) = some (.slice A5 zs.length c5) := by
            rw [HE.out.below.cell (by rw [block_add]; have := World.block_lt_of_cell? w _ hc0; rwa [block_add] at this)]; exact hc0
          clear hz hu hc0
          have HSE := Lib.hid (show ∀ W : World, Env w W #[.slice Xa A1.length xa, .slice Xb B1.length xb] #[.slice (some ad) A2.length ya, .slice Yb B2.length yb] #[.slice none 0 0, .slice none 0 0] → W.cell? ⟨w.heap.size, 1, none⟩ = some (.slice Xb B1.length xb) from fun W hW => hW.k0.cell 1)
          go_wp2_with fail
          refine AnyT.begin (k := 10) (S := fun b w' => (w'.cell? ⟨w.heap.size, 1, none⟩ = some (.slice Xb B1.length xb)) ∧ (b = false → w'.cell? ⟨p, 0, none⟩ = some va)) (by kernel_rfl) ?_
          have hS : (fun (b : Bool) (w' : World) => (w'.cell? ⟨w.heap.size, 1, none⟩ = some (.slice Xb B1.length xb)) ∧ (b = false → w'.cell? ⟨p, 0, none⟩ = some va)) false wr.drew := ⟨HSE.out wr HE.out, fun _ => HF.out.blk.cell 0⟩
          refine AnyT.take0 (i := 0) (v := ?_) rfl (by kernel_rfl) (by kernel_rfl) (by kernel_rfl) (by decide) (fun _ _ _ h => h) hS (Or.inl ⟨by first | kernel_rfl | rfl, ?_⟩) ?_
          rotate_left
          · rintro w' ⟨b, hw'⟩; obtain ⟨hw1, -⟩ := hw'; (try (obtain ⟨hw1, hw2⟩ := hw1)); (try (obtain ⟨hw2, hw3⟩ := hw2)); (try (obtain ⟨hw3, hw4⟩ := hw3)); go_simp; try with_reducible rfl
          try simp only [Act.put, List.setIfInBounds_toArray, List.set_cons_zero, List.set_cons_succ]
          refine AnyT.take1 (i := 1) (v := ?_) rfl (by kernel_rfl) (by kernel_rfl) (by kernel_rfl) (by decide) (by kernel_rfl) rfl (fun _ _ _ h => h) hS (Or.inl ⟨by first | kernel_rfl | rfl, ?_⟩) ?_
          rotate_left
          · intro w' hw'; have hw3 := hw'.2 rfl; go_simp; try with_reducible rfl
          try simp only [Act.put, List.setIfInBounds_toArray, List.set_cons_zero, List.set_cons_succ]
          refine AnyT.take0 (i := 2) (v := ?_) rfl (by kernel_rfl) (by kernel_rfl) (by kernel_rfl) (by decide) (fun _ _ _ h => h) hS (Or.inl ⟨by first | kernel_rfl | rfl, ?_⟩) ?_
          rotate_left
          · rintro w' ⟨b, hw'⟩; obtain ⟨hw1, -⟩ := hw'; (try (obtain ⟨hw1, hw2⟩ := hw1)); (try (obtain ⟨hw2, hw3⟩ := hw2)); (try (obtain ⟨hw3, hw4⟩ := hw3)); go_simp; try with_reducible rfl
          try simp only [Act.put, List.setIfInBounds_toArray, List.set_cons_zero, List.set_cons_succ]
          refine AnyT.take0 (i := 3) (v := ?_) rfl (by kernel_rfl) (by kernel_rfl) (by kernel_rfl) (by decide) (fun _ _ _ h => h) hS (Or.inl ⟨by first | kernel_rfl | rfl, ?_⟩) ?_
          rotate_left
          · rintro w' ⟨b, hw'⟩; obtain ⟨hw1, -⟩ := hw'; (try (obtain ⟨hw1, hw2⟩ := hw1)); (try (obtain ⟨hw2, hw3⟩ := hw2)); (try (obtain ⟨hw3, hw4⟩ := hw3)); go_simp; try with_reducible rfl
          try simp only [Act.put, List.setIfInBounds_toArray, List.set_cons_zero, List.set_cons_succ]
          refine AnyT.take0 (i := 4) (v := ?_) rfl (by kernel_rfl) (by kernel_rfl) (by kernel_rfl) (by decide) (fun _ _ _ h => h) hS (Or.inl ⟨by first | kernel_rfl | rfl, ?_⟩) ?_
          rotate_left
          · rintro w' ⟨b, hw'⟩; obtain ⟨hw1, -⟩ := hw'; (try (obtain ⟨hw1, hw2⟩ := hw1)); (try (obtain ⟨hw2, hw3⟩ := hw2)); (try (obtain ⟨hw3, hw4⟩ := hw3)); go_simp; try with_reducible rfl
          try simp only [Act.put, List.setIfInBounds_toArray, List.set_cons_zero, List.set_cons_succ]
          refine AnyT.go (rs := [5]) (by kernel_rfl) (by simp) ?_
          refine AllT.cons rfl (fun K hK => ?_) AllT.nil
          go_simp
          have hb4 : Below wr.heap.size wr (wr.drew.alloc (.cells #[.slice Xb B1.length xb, .slice A5 zs.length c5] tL)) := (Below.refl wr.heap.size wr).drew.alloc (Nat.le_refl _) _
          refine hK.out _ _ ⟨HSE.out _ (HE.out.step hb4), fun _ => (HF.out.step hb4).blk.cell 0⟩ (fun hS => ?_)
          clear hK
          try simp only [Act.put, List.setIfInBounds_toArray, List.set_cons_zero, List.set_cons_succ]
          refine AnyT.go (rs := [6]) (by kernel_rfl) (by simp) ?_
          refine AllT.cons rfl (fun K hK => ?_) AllT.nil
          go_simp
          refine (lib_ConcatI _ _ [B1, zs] (by exact rows_two (W := wr.drew) (HB.out.below HE.out.below.drew) HU.out) (by simp; omega)).mono ?_
          rintro e w7 ⟨v7, rfl, ho7w, hb7w⟩
          have hb7 : Below wr.heap.size wr w7 := hb4.trans (hb7w.mono hb4.size)
          have ho7 : OwnInts w7 wr.heap.size tI v7 (B1 ++ zs) := by have h := ho7w.mono hb4.size; rwa [show [B1, zs].flatten = B1 ++ zs from by simp] at h
          have F7 := HF.out.step hb7
          have E7 := HE.out.step hb7
          clear ho7w hb7w
          obtain ⟨A7, c7, hv7, -, -, -⟩ := ho7.ints.open_
          rw [List.length_append] at hv7
          subst hv7
          refine hK.out _ _ ⟨HSE.out _ E7, fun _ => F7.blk.cell 0⟩ (fun hS => ?_)
          clear hK
          try simp only [Act.put, List.setIfInBounds_toArray, List.set_cons_zero, List.set_cons_succ]
          refine AnyT.go (rs := [7]) (by kernel_rfl) (by simp) ?_
          refine AllT.cons rfl (fun K hK => ?_) AllT.nil
          go_simp
          have hb8 : Below wr.heap.size wr (w7.alloc (.cells #[.slice A7 (B1.length + zs.length) c7] tL)) := hb7.alloc hb7.size _
          have F8 := HF.out.step hb8
          have E8 := HE.out.step hb8
          refine hK.out _ _ ⟨HSE.out _ E8, fun _ => F8.blk.cell 0⟩ (fun hS => ?_)
          clear hK
          try simp only [Act.put, List.setIfInBounds_toArray, List.set_cons_zero, List.set_cons_succ]
          refine AnyT.go (rs := [8]) (by kernel_rfl) (by simp) ?_
          refine AllT.cons rfl (fun K hK => ?_) AllT.nil
          refine step_app1g T_row (B := w.heap.size + 1) (v := va) (vs := vs) (W := w7.alloc (.cells #[.slice A7 (B1.length + zs.length) c7] tL)) (u := .slice A7 (B1.length + zs.length) c7) (ad := ⟨w7.heap.size, 0, none⟩) F8.two.own (by omega) (by have := F8.blk.lt; have := F8.ge; omega) (by rfl) rfl (by rfl) (by rfl) (by rfl) ((Blk.new w7 _ _).cell 0) ?_
          intro v9 w9 hown9 hgr9
          obtain ⟨A9, c9, hv9, -, -⟩ := hown9.cells.open_
          rw [show (vs ++ [Value.slice A7 (B1.length + zs.length) c7]).length = vs.length + 1 from by simp] at hv9
          subst hv9
          have F9 := Lib.hid (HF.out.next hb8 (ho7.below (below1 _ _)) hown9 hgr9)
          have E9 := E8.grow F8.two.own (by decide) (by omega) hgr9
          have KP := F8.blk.grow hgr9 F8.npA
          have e0 : w9.cell? ⟨p, 0, none⟩ = some va := KP.cell 0
          have e2 : w9.frozen? ⟨p, 0, none⟩ = false := KP.frozen 0
          refine hK.out _ _ ⟨HSE.out _ E9, fun _ => e0⟩ (fun hS => ?_)
          clear hK
          try simp only [Act.put, List.setIfInBounds_toArray, List.set_cons_zero, List.set_cons_succ]
          refine AnyT.take0 (i := 9) (v := ?_) rfl (by kernel_rfl) (by kernel_rfl) (by kernel_rfl) (by decide) (fun _ _ _ h => h) hS (Or.inl ⟨by first | kernel_rfl | rfl, ?_⟩) ?_
          rotate_left
          · rintro w' ⟨b, hw'⟩; obtain ⟨hw1, -⟩ := hw'; (try (obtain ⟨hw1, hw2⟩ := hw1)); (try (obtain ⟨hw2, hw3⟩ := hw2)); (try (obtain ⟨hw3, hw4⟩ := hw3)); go_simp; try with_reducible rfl
          try simp only [Act.put, List.setIfInBounds_toArray, List.set_cons_zero, List.set_cons_succ]
          refine AnyT.go (rs := [10]) (by kernel_rfl) (by simp) ?_
          refine AllT.cons rfl (fun K hK => ?_) AllT.nil
          go_simp
          have E10 := Lib.hid (E9.store hpp 0 (.slice A9 (vs.length + 1) c9))
          refine hK.out _ _ ⟨HSE.out _ E10.out, fun h => Bool.noConfusion (show true = false from h)⟩ (fun hS => ?_)
          clear hK
          refine AnyT.done (by kernel_rfl) ?_ _
          clear hS hown9 hgr9 F7 E7 F8 E8 E9 hb7 hb8 ho7 KP e0 e2 hcz
          go_wp2_with fail
          go_roundw
          case rel =>
            refine ⟨j + 1, .slice A9 (vs.length + 1) c9, vs ++ [.slice A7 (B1.length + zs.length) c7], by omega, by go_num, ?_, E10.out⟩
            rw [HS.out]
            exact F9.out
          case measure => simp [intOf]; omega
        · have : j = A2.length := by omega
          subst this
          rw [List.take_length] at HF
          obtain ⟨A7, c7, hv7, -, -⟩ := HF.out.two.own.cells.open_
          have hvl : vs.length = A1.length + A2.length := by have := HF.out.two.rows.1; simpa using this
          rw [hvl] at hv7
          subst hv7
          have e0 : wr.cell? ⟨p, 0, none⟩ = some (.slice A7 (A1.length + A2.length) c7) := HF.out.blk.cell 0
          have e1 : wr.cell? ⟨p, 1, none⟩ = some (.slice A6 (B1.length + B2.length) c6) := HF.out.blk.cell 1
          have f0 : wr.cell? ⟨w.heap.size + 1 + 1, 0, none⟩ = some (.slice none 0 0) := HE.out.k2.cell 0
          have f1 : wr.cell? ⟨w.heap.size + 1 + 1, 1, none⟩ = some (.slice none 0 0) := HE.out.k2.cell 1
          have f2 := HE.out.k2.frozen 0
          have f3 := HE.out.k2.frozen 1
          have HTW := Lib.hid ((HF.out.two.storeAt HE.out.k2 (by decide) (by decide) 0 (.slice A7 (A1.length + A2.length) c7)).storeAt (HE.out.k2.set_ 0 (.slice A7 (A1.length + A2.length) c7)) (by decide) (by decide) 1 (.slice A6 (B1.length + B2.length) c6))
          have HBE := Lib.hid (HE.out.below)
          clear hvl
          go_wp2_with fail
          refine bodyPost_ret (v := .agg #[.slice A7 (A1.length + A2.length) c7, (.slice A6 (B1.length + B2.length) c6)]) (by simp [results, Tryz.results102, go_sem, f0, f1]) rfl ⟨_, rfl, HTW.out.tab.mono (by omega) (Nat.le_refl _), (HBE.out.setCell (p := ⟨w.heap.size + 1 + 1, 0, none⟩) (by show _ ≤ w.heap.size + 1 + 1; omega) _).setCell (p := ⟨w.heap.size + 1 + 1, 1, none⟩) (by show _ ≤ w.heap.size + 1 + 1; omega) _⟩
end Go.Proofs.YtdjhfeaimmpmhaaGreat

set_option maxRecDepth 100000
set_option linter.unusedVariables false
set_option linter.unusedSimpArgs false
namespace Go.Proofs.YtdjhfeaimmpmhaaGreat
open Go.RowKit

/-- bytes that can be read, in a block below B -/
def ByB (w : World) (B : Nat) (A : Option Addr) (n : Nat) : Prop := ∀ k, k < n → ∃ ad z, A = some ad ∧ ad.block < B ∧ ad.block < w.heap.size ∧ 0 ≤ z ∧ z ≤ 255 ∧ w.cell? (ad.add k) = some (.int .u8 z)
/-- a byte slice that can be read -/
def Bts (w : World) (v : Value) (n : Nat) : Prop := ∃ A c, v = .slice A n c ∧ ByB w w.heap.size A n
/-- a source of numbers in block p: the bytes, the place, the hash -/
def Src (w : World) (B : Nat) (t : TypeId) (p : Nat) : Prop := ∃ (A : Option Addr) (n c k : Nat) (h : Int), Blk w p t #[.slice A n c, .int .i64 k, .int .u64 h] ∧ B ≤ p ∧ ByB w B A n ∧ k ≤ n ∧ n ≤ 1000000 ∧ 0 ≤ h ∧ h < 18446744073709551616
abbrev at0 (p : Nat) : Value := .pointer (some ⟨p, 0, none⟩)
abbrev tDc : TypeId := 86
theorem ByB.grown {w w' : World} {B n p : Nat} {A : Option Addr} (h : ByB w B A n) (hg : w.grownBy w' (some p)) (hp : B ≤ p) : ByB w' B A n := fun k hk => by
  obtain ⟨ad, z, rfl, h1, h2, h3, h4, h5⟩ := h k hk
  refine ⟨ad, z, rfl, h1, Nat.lt_of_lt_of_le h2 hg.size, h3, h4, ?_⟩
  have hb : w'.heap[ad.block]? = w.heap[ad.block]? := hg.block ad.block h2 (fun e => by injection e with e; omega)
  rw [← h5]
  unfold World.cell?
  simp only [block_add]
  rw [hb]
theorem gset (w : World) (g i : Nat) (u : Value) : w.grownBy (w.setCell ⟨g, i, none⟩ u) (some g) := by
  have b := Below.setCell (B := 0) (Below.refl 0 w) (p := ⟨g, i, none⟩) (Nat.zero_le _) u
  exact ⟨b.os, b.tape, b.output, b.size, fun k hk hne => Below.heap_setCell w _ u k (fun e => hne (by rw [e]))⟩
theorem w64_dr (x : Int) (h : -9223372036854775808 ≤ x ∧ x ≤ 9223372036854775807) : wrap64 x = x := by unfold wrap64; omega
theorem u64_bd (x : Int) : 0 ≤ IntKind.u64.wrap x ∧ IntKind.u64.wrap x < 18446744073709551616 := by rw [IntKind.wrap_u64]; omega
theorem bits_bd {x : Int} (h0 : 0 ≤ x) (h1 : x < 18446744073709551616) : 0 ≤ bits BinOp.and IntKind.u64 x 16777215 ∧ bits BinOp.and IntKind.u64 x 16777215 ≤ 16777215 := by
  have h := bits_and_u64_nat x.toNat 16777215 (by omega) (by omega)
  rw [Int.toNat_of_nonneg h0] at h
  have h2 : x.toNat &&& 16777215 ≤ 16777215 := Nat.and_le_right
  rw [show (16777215 : Int) = ((16777215 : Nat) : Int) from rfl, h]
  omega
/-- what one step of the hash gives -/
theorem hash_bd (z : Int) : ∃ x y : Int, x = IntKind.u64.wrap z ∧ 0 ≤ x ∧ x < 18446744073709551616 ∧ y = bits BinOp.and IntKind.u64 (x / 8589934592) 16777215 ∧ wrap64 (bits BinOp.and IntKind.u64 (x / 8589934592) 16777215) = y ∧ 0 ≤ y ∧ y ≤ 16777215 := by
  have h1 := u64_bd z
  have h2 := bits_bd (x := IntKind.u64.wrap z / 8589934592) (by omega) (by omega)
  exact ⟨_, _, rfl, h1.1, h1.2, rfl, w64_dr _ (by omega), h2.1, h2.2⟩
theorem rem_bd {x n : Int} (h0 : 0 ≤ x) (h1 : 1 ≤ n) : 0 ≤ x % n ∧ x % n < n := ⟨Int.emod_nonneg _ (by omega), Int.emod_lt_of_pos _ (by omega)⟩
theorem gtrans {w w1 w2 : World} {b : Option Nat} (h : w.grownBy w1 b) (h' : w1.grownBy w2 b) : w.grownBy w2 b :=
  ⟨h'.os.trans h.os, h'.tape.trans h.tape, h'.output.trans h.output, Nat.le_trans h.size h'.size, fun k hk hne => (h'.block k (Nat.lt_of_lt_of_le hk h.size) hne).trans (h.block k hk hne)⟩
theorem gof {w w' : World} {r : Option Nat} (h : Below w.heap.size w w') : w.grownBy w' r := ⟨h.os, h.tape, h.output, h.size, fun k hk _ => h.block k hk⟩
set_option maxHeartbeats 4000000 in
theorem l_below (w : World) (B p : Nat) (n : Int) (h : Src w B tDc p) (hn : n ≤ 4611686018427387904) (hn0 : 1 ≤ n) :
    Calls Tryz.prog 82 #[at0 p, .int .i64 n] w fun e w' => ∃ x, e = .returned (.int .i64 x) ∧ 0 ≤ x ∧ x < n ∧ w.grownBy w' (some p) ∧ Src w' B tDc p := by
  obtain ⟨A, m, c, k, hs, hk, hB, hby, hkm, hm, h0, h1⟩ := h
  have HK := Lib.hid hk
  have HBY := Lib.hid hby
  have k2 : w.cell? ⟨p, 2, none⟩ = some (.int .u64 hs) := hk.cell 2
  have f2 : w.frozen? ⟨p, 2, none⟩ = false := hk.frozen 2
  clear hk hby
  go_enter Tryz.func82, Tryz.ntmps82
  go_upto_region 5 with fail
  obtain ⟨x, y, hx, x0, x1, hy, hw, y0, y1⟩ := hash_bd (IntKind.u64.wrap (hs * 6364136223846793005) + 1442695040888963407)
  rw [← hx, hw, ← hy]
  clear hx hy hw h0 h1 f2 k2
  have HK1 := Lib.hid (HK.out.set_ 2 (.int .u64 x))
  have HG1 := Lib.hid (gset w p 2 (.int .u64 x))
  generalize w.setCell ⟨p, 2, none⟩ (.int .u64 x) = w1 at HK1 HG1 ⊢
  generalize x / 8589934592 = x9
  generalize IntKind.u64.wrap (hs * 6364136223846793005) = x8
  have HBY1 := Lib.hid (HBY.out.grown HG1.out hB)
  have HK1 := Lib.hid (show Blk w1 p tDc #[.slice A m c, .int .i64 k, .int .u64 x] from HK1.out)
  have k0 : w1.cell? ⟨p, 0, none⟩ = some (.slice A m c) := HK1.out.cell 0
  have k1 : w1.cell? ⟨p, 1, none⟩ = some (.int .i64 k) := HK1.out.cell 1
  have f1 : w1.frozen? ⟨p, 1, none⟩ = false := HK1.out.frozen 1
  clear HK HBY
  by_cases hlt : k < m
  · obtain ⟨ad, z, rfl, a1, a2, z0, z1, hc⟩ := HBY1.out k hlt
    have hkk : (k : Int) < (m : Int) := by omega
    have hw1 : wrap64 (y + z) = y + z := w64_dr _ (by omega)
    have hwk : wrap64 ((k : Int) + 1) = (k : Int) + 1 := w64_dr _ (by omega)
    clear a1 a2
    go_quiet (fail)
    go_upto_region 6 with fail
    rename Nat => nq0
    have k0' : (w1.drewN nq0).cell? ⟨p, 0, none⟩ = some (.slice (some ad) m c) := k0
    have k1' : (w1.drewN nq0).cell? ⟨p, 1, none⟩ = some (.int .i64 k) := k1
    have hc' : (w1.drewN nq0).cell? (ad.add k) = some (.int .u8 z) := hc
    go_quiet (fail)
    go_wp2_with fail
    go_ret
    obtain ⟨r0, r1⟩ := rem_bd (x := y + z) (n := n) (by omega) hn0
    have HB2 : w1.grownBy ((w1.drewN (nq0 + nq)).setCell ⟨p, 1, none⟩ (.int .i64 ((k : Int) + 1))) (some p) := gtrans (gof (below_drewN (Below.refl _ _) _)) (gset _ _ _ _)
    exact ⟨_, rfl, r0, r1, gtrans HG1.out HB2, some ad, m, c, k + 1, x, by simpa using (HK1.out.drewN _).set_ 1 (.int .i64 ((k : Int) + 1)), hB, HBY1.out.grown HB2 hB, hlt, hm, x0, x1⟩
  · have hkk : ¬ ((k : Int) < (m : Int)) := by omega
    go_quiet (fail)
    go_wp2_with fail
    go_ret
    obtain ⟨r0, r1⟩ := rem_bd (x := y) (n := n) (by omega) hn0
    rename Nat => nq0
    have HB2 : w1.grownBy (w1.drewN nq0) (some p) := gof (below_drewN (Below.refl _ _) _)
    exact ⟨_, rfl, r0, r1, gtrans HG1.out HB2, A, m, c, k, x, HK1.out.drewN _, hB, HBY1.out.grown HB2 hB, hkm, hm, x0, x1⟩
/-- the source is kept where others grow -/
theorem Src.kept {w w' : World} {B p : Nat} {t : TypeId} {r : Option Nat} (h : Src w B t p) (hg : w.grownBy w' r) (hne : r ≠ some p) (hr : ∀ b, r = some b → B ≤ b) : Src w' B t p := by
  obtain ⟨A, m, c, k, hs, hk, hB, hby, h1⟩ := h
  refine ⟨A, m, c, k, hs, (hg.block p hk.lt (fun e => hne e.symm)).trans hk, hB, fun j hj => ?_, h1⟩
  obtain ⟨ad, z, rfl, a1, a2, z0, z1, hc⟩ := hby j hj
  refine ⟨ad, z, rfl, a1, Nat.lt_of_lt_of_le a2 hg.size, z0, z1, ?_⟩
  have hb : w'.heap[ad.block]? = w.heap[ad.block]? := hg.block ad.block a2 (fun e => by have := hr _ e.symm; omega)
  rw [← hc]
  unfold World.cell?
  simp only [block_add]
  rw [hb]
theorem Src.below {w w' : World} {B p : Nat} {t : TypeId} (h : Src w B t p) (hg : Below w.heap.size w w') : Src w' B t p := h.kept (r := none) (gof hg) (by simp) (by simp)
theorem Src.ge {w : World} {B p : Nat} {t : TypeId} (h : Src w B t p) : B ≤ p := by obtain ⟨A, m, c, k, hs, hk, hB, -⟩ := h; exact hB
theorem Src.lt {w : World} {B p : Nat} {t : TypeId} (h : Src w B t p) : p < w.heap.size := by obtain ⟨A, m, c, k, hs, hk, hB, -⟩ := h; exact hk.lt
set_option maxHeartbeats 4000000 in
theorem l_roll (w : World) (A : Option Addr) (n c : Nat) (s : Int) (hb : ByB w w.heap.size A n) (hn : n ≤ 1000000) (hs0 : 0 ≤ s) (hs1 : s ≤ 100000) :
    Calls Tryz.prog 23 #[.slice A n c, .int .u64 s] w fun e w' => ∃ p, e = .returned (at0 p) ∧ Src w' w.heap.size tDc p ∧ Below w.heap.size w w' := by
  have HBY := Lib.hid hb
  have hs2 : 0 ≤ s * 8111 + (n : Int) ∧ s * 8111 + (n : Int) < 18446744073709551616 := by omega
  clear hb
  go_enter Tryz.func23, Tryz.ntmps23
  go_wp2_with fail
  obtain ⟨h0, hh0⟩ : ∃ h0, h0 = s * 8111 + (n : Int) := ⟨_, rfl⟩
  rw [← hh0] at hs2 ⊢
  obtain ⟨W, hW⟩ : ∃ W, W = w.alloc (Obj.cells #[Value.slice A n c, Value.int IntKind.i64 0, Value.int IntKind.u64 h0] tDc) := ⟨_, rfl⟩
  have HBW := Lib.hid (show Below w.heap.size w W from by rw [hW]; exact below1 w _)
  have HK := Lib.hid (show Blk W w.heap.size tDc #[Value.slice A n c, Value.int IntKind.i64 0, Value.int IntKind.u64 h0] from by rw [hW]; exact Blk.new _ _ _)
  rw [← hW]
  clear hW hh0
  obtain ⟨g0, g1⟩ := hs2
  go_loopw [6] (fun x wr => ∃ (j : Nat) (h : Int), j ≤ n ∧ x = .int .i64 j ∧ 0 ≤ h ∧ h < 18446744073709551616 ∧ Blk wr w.heap.size tDc #[Value.slice A n c, Value.int IntKind.i64 0, Value.int IntKind.u64 h] ∧ Below w.heap.size w wr) (fun x _ => n - (intOf x).toNat)
  case atStart => exact ⟨0, h0, Nat.zero_le _, rfl, g0, g1, HK.out, HBW.out⟩
  case round =>
    obtain ⟨j, h, hj, rfl, q0, q1, hk, hb⟩ := hrel
    rename World => wq
    clear HK HBW
    have HK := Lib.hid hk
    have HB := Lib.hid hb
    have k2 : wq.cell? ⟨w.heap.size, 2, none⟩ = some (.int .u64 h) := hk.cell 2
    have f2 : wq.frozen? ⟨w.heap.size, 2, none⟩ = false := hk.frozen 2
    clear hk hb
    by_cases hlt : j < n
    · have hjj : (j : Int) < (n : Int) := by omega
      obtain ⟨ad, z, rfl, a1, a2, z0, z1, hc⟩ := HBY.out j hlt
      have hc1 : wq.cell? (ad.add j) = some (.int .u8 z) := by rw [HB.out.cell (by rw [block_add]; exact a1)]; exact hc
      have hjk : wrap64 ((j : Int) + 1) = (j : Int) + 1 := w64_dr _ (by omega)
      clear a1 a2 hc
      go_upto_region 5 with fail
      go_region_law (fail)
      all_goals
        obtain ⟨y, hy⟩ : ∃ y, y = IntKind.u64.wrap (IntKind.u64.wrap (IntKind.u64.wrap (h * 1099511628211) + IntKind.u64.wrap z) + 5) := ⟨_, rfl⟩
        obtain ⟨b0, b1⟩ : 0 ≤ y ∧ y < 18446744073709551616 := by rw [hy]; exact u64_bd _
        rw [← hy]
        clear hy
        go_wp2_with fail
        go_roundw
        case rel =>
          exact ⟨j + 1, _, by omega, by go_num, b0, b1, (HK.out.set_ 2 _).drewN 1, (HB.out.setCell (Nat.le_refl _) _).drew⟩
        case measure => simp [intOf]; omega
    · have hjn : j = n := by omega
      subst hjn
      go_wp2_with fail
      go_ret
      exact ⟨_, rfl, ⟨A, j, c, 0, h, HK.out, Nat.le_refl _, fun k hk => by obtain ⟨ad, z, e, a1, a2, z0, z1, hc⟩ := HBY.out k hk; exact ⟨ad, z, e, a1, Nat.lt_of_lt_of_le a1 HB.out.size, z0, z1, by rw [HB.out.cell (by rw [block_add]; exact a1)]; exact hc⟩, Nat.zero_le _, hn, q0, q1⟩, HB.out⟩
theorem gthen {w w1 w2 : World} {p : Nat} {r : Option Nat} (h : w.grownBy w1 (some p)) (h' : w1.grownBy w2 r) (hr : ∀ b, r = some b → w.heap.size ≤ b) : w.grownBy w2 (some p) :=
  ⟨h'.os.trans h.os, h'.tape.trans h.tape, h'.output.trans h.output, Nat.le_trans h.size h'.size, fun k hk hne => (h'.block k (Nat.lt_of_lt_of_le hk h.size) (fun e => by have := hr _ e.symm; omega)).trans (h.block k hk hne)⟩
theorem Own.src {w w' : World} {C p : Nat} {e : TypeId} {v : Value} {vs : List Value} (h : Own w C e v vs) (hp : p < C) (hg : w.grownBy w' (some p)) : Own w' C e v vs := h.kept hg (by
  cases hb : v.ownBlock with
  | none => exact .inl rfl
  | some b => exact .inr fun e => by injection e with e; have := h.ge b hb; omega)
end Go.Proofs.YtdjhfeaimmpmhaaGreat

