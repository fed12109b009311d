/- Walk: l10Compose of the reference. -/
import Derived.Test.YtdjhfeaimmpmhaaGreatZc21
import Derived.Test.YtdjhfeaimmpmhaaGreatZc10
import Derived.Test.YtdjhfeaimmpmhaaGreatZc19
import Derived.Test.YtdjhfeaimmpmhaaGreatZc22
set_option maxRecDepth 100000
set_option linter.unusedVariables false
set_option linter.unusedSimpArgs false
namespace Go.Proofs.YtdjhfeaimmpmhaaGreat
open Go.RowKit

def padR (n : Nat) (r : List Int) : List Int := r ++ List.replicate n 0
def compA (A1 : List (List Int)) (B1 : List Int) (A2 : List (List Int)) (B2 : List Int) : List (List Int) := A1.map (padR B2.length) ++ A2.map (B1 ++ ·)

set_option maxHeartbeats 4000000 in
theorem s_l10Compose (w : World) (v v' : Value) (A1 A2 : List (List Int)) (B1 B2 : List Int) (ha : TabArg w v A1 B1) (hb : TabArg w v' A2 B2) (hT : NumTab A1 B1) (hT' : NumTab A2 B2) (h1 : 1 ≤ B2.length) :
    Calls Tryz.prog 104 #[v, v'] w fun e w' => ∃ r, e = .returned r ∧ OT w' w.heap.size w'.heap.size r (compA A1 B1 A2 B2) (B1 ++ B2) ∧ Below w.heap.size w w' := by
  obtain ⟨va, vb, rfl, hA, hB⟩ := ha
  obtain ⟨va', vb', rfl, hA', hB'⟩ := hb
  have HB := Lib.hid hB
  have HB' := Lib.hid hB'
  obtain ⟨Xa, xa, rfl, l1, l2, h3⟩ := hA.open_
  obtain ⟨Xb, xb, rfl, -, -, -⟩ := hB.open_
  obtain ⟨Ya, ya, rfl, m1, m2, g3⟩ := hA'.open_
  obtain ⟨Yb, yb, rfl, -, -, -⟩ := hB'.open_
  have H3 := Lib.hid h3
  have G3 := Lib.hid g3
  have hal := hT.la
  have hbl := hT.lb
  have hal' := hT'.la
  have hbl' := hT'.lb
  have HT := Lib.hid hT
  have HT' := Lib.hid hT'
  clear hA hB hA' hB' h3 g3 hT hT'
  have B0 := Lib.hid (below3 w (.cells #[.slice Xa A1.length xa, .slice Xb B1.length xb] 45) (.cells #[.slice Ya A2.length ya, .slice Yb B2.length yb] 45) (.cells #[.slice none 0 0, .slice none 0 0] 45))
  have K0 := Lib.hid (((Blk.new w #[.slice Xa A1.length xa, .slice Xb B1.length xb] 45).alloc (.cells #[.slice Ya A2.length ya, .slice Yb B2.length yb] 45)).alloc (.cells #[.slice none 0 0, .slice none 0 0] 45))
  have K1 := Lib.hid ((Blk.new1 w (.cells #[.slice Xa A1.length xa, .slice Xb B1.length xb] 45) #[.slice Ya A2.length ya, .slice Yb B2.length yb] 45).alloc (.cells #[.slice none 0 0, .slice none 0 0] 45))
  have K2 := Lib.hid (Blk.new2 w (.cells #[.slice Xa A1.length xa, .slice Xb B1.length xb] 45) (.cells #[.slice Ya A2.length ya, .slice Yb B2.length yb] 45) #[.slice none 0 0, .slice none 0 0] 45)
  go_enter Tryz.func104, Tryz.ntmps104
  go_wp2_with fail
  generalize (((w.alloc (.cells #[.slice Xa A1.length xa, .slice Xb B1.length xb] 45)).alloc (.cells #[.slice Ya A2.length ya, .slice Yb B2.length yb] 45)).alloc (.cells #[.slice none 0 0, .slice none 0 0] 45)) = w1 at B0 K0 K1 K2 ⊢
  have g0 : w1.cell? ⟨w.heap.size, 1, none⟩ = some (.slice Xb B1.length xb) := K0.out.cell 1
  have g1 : w1.cell? ⟨w.heap.size + 1, 1, none⟩ = some (.slice Yb B2.length yb) := K1.out.cell 1
  have hlt1 : w.heap.size + 1 + 1 < w1.heap.size := K2.out.lt
  have HE1 := Lib.hid (show Env w w1 _ _ _ from ⟨K0.out, K1.out, K2.out, B0.out⟩)
  have HIN := Lib.hid (show ∀ z ∈ B1 ++ B2, In64 z from nums_in (fun z hz => by rcases List.mem_append.1 hz with h | h; exact HT.out.ws z h; exact HT'.out.ws z h))
  have HSB := Lib.hid (show ∀ W : World, Below w1.heap.size w1 W → (W.cell? ⟨w.heap.size, 1, none⟩ = some (.slice Xb B1.length xb) ∧ W.cell? ⟨w.heap.size + 1, 1, none⟩ = some (.slice Yb B2.length yb)) from fun W hW =>
    ⟨(K0.out.below hW K0.out.lt).cell 1, (K1.out.below hW K1.out.lt).cell 1⟩)
  refine AnyT.begin (k := 99) (S := fun b w' => (w'.cell? ⟨w.heap.size, 1, none⟩ = some (.slice Xb B1.length xb) ∧ w'.cell? ⟨w.heap.size + 1, 1, none⟩ = some (.slice Yb B2.length yb)) ∧ True) (by kernel_rfl) ?_
  have hS : (fun (b : Bool) (w' : World) => (w'.cell? ⟨w.heap.size, 1, none⟩ = some (.slice Xb B1.length xb) ∧ w'.cell? ⟨w.heap.size + 1, 1, none⟩ = some (.slice Yb B2.length yb)) ∧ True) true w1.drew := ⟨⟨g0, g1⟩, trivial⟩
  refine AnyT.take0 (i := 0) (v := ?_) rfl (by kernel_rfl) (by kernel_rfl) (by kernel_rfl) (by decide) (fun _ _ _ h => h) hS (Or.inl ⟨by first | kernel_rfl | rfl, ?_⟩) ?_
  rotate_left
  · rintro w' ⟨b, hw'⟩; obtain ⟨hw1, -⟩ := hw'; (try (obtain ⟨hw1, hw2⟩ := hw1)); (try (obtain ⟨hw2, hw3⟩ := hw2)); (try (obtain ⟨hw3, hw4⟩ := hw3)); go_simp; try with_reducible rfl
  try simp only [Act.put, List.setIfInBounds_toArray, List.set_cons_zero, List.set_cons_succ]
  refine AnyT.take0 (i := 1) (v := ?_) rfl (by kernel_rfl) (by kernel_rfl) (by kernel_rfl) (by decide) (fun _ _ _ h => h) hS (Or.inl ⟨by first | kernel_rfl | rfl, ?_⟩) ?_
  rotate_left
  · rintro w' ⟨b, hw'⟩; obtain ⟨hw1, -⟩ := hw'; (try (obtain ⟨hw1, hw2⟩ := hw1)); (try (obtain ⟨hw2, hw3⟩ := hw2)); (try (obtain ⟨hw3, hw4⟩ := hw3)); go_simp; try with_reducible rfl
  try simp only [Act.put, List.setIfInBounds_toArray, List.set_cons_zero, List.set_cons_succ]
  refine AnyT.take0 (i := 3) (v := ?_) rfl (by kernel_rfl) (by kernel_rfl) (by kernel_rfl) (by decide) (fun _ _ _ h => h) hS (Or.inl ⟨by first | kernel_rfl | rfl, ?_⟩) ?_
  rotate_left
  · rintro w' ⟨b, hw'⟩; obtain ⟨hw1, -⟩ := hw'; (try (obtain ⟨hw1, hw2⟩ := hw1)); (try (obtain ⟨hw2, hw3⟩ := hw2)); (try (obtain ⟨hw3, hw4⟩ := hw3)); go_simp; try with_reducible rfl
  try simp only [Act.put, List.setIfInBounds_toArray, List.set_cons_zero, List.set_cons_succ]
  refine AnyT.take0 (i := 4) (v := ?_) rfl (by kernel_rfl) (by kernel_rfl) (by kernel_rfl) (by decide) (fun _ _ _ h => h) hS (Or.inl ⟨by first | kernel_rfl | rfl, ?_⟩) ?_
  rotate_left
  · rintro w' ⟨b, hw'⟩; obtain ⟨hw1, -⟩ := hw'; (try (obtain ⟨hw1, hw2⟩ := hw1)); (try (obtain ⟨hw2, hw3⟩ := hw2)); (try (obtain ⟨hw3, hw4⟩ := hw3)); go_simp; try with_reducible rfl
  try simp only [Act.put, List.setIfInBounds_toArray, List.set_cons_zero, List.set_cons_succ]
  refine AnyT.go (rs := [2, 7]) (by kernel_rfl) (by simp) ?_
  refine AllT.cons rfl (fun K hK => ?_) (AllT.cons rfl (fun K hK => ?_) AllT.nil)
  · go_simp
    refine (s_l01Own _ _ B1 (by exact HB.out.below (B0.out.trans (((Below.refl w1.heap.size w1).drew).mono B0.out.size))) (by omega)).mono ?_
    rintro e w5 ⟨v5, rfl, ho5, hb5w⟩
    have hb5 : Below w1.heap.size w1 w5 := ((Below.refl w1.heap.size w1).drew).trans (hb5w.mono (by exact Nat.le_refl _))
    have ho5 := ho5.mono (B' := w1.heap.size) (by exact Nat.le_refl _)
    refine hK.out _ _ ⟨HSB.out _ hb5, trivial⟩ (fun hS => ?_)
    clear hK
    try simp only [Act.put, List.setIfInBounds_toArray, List.set_cons_zero, List.set_cons_succ]
    refine AnyT.go (rs := [5, 7]) (by kernel_rfl) (by simp) ?_
    refine AllT.cons rfl (fun K hK => ?_) (AllT.cons rfl (fun K hK => ?_) AllT.nil)
    · refine step_appN T_int (B := w1.heap.size) (W := w5) ho5.1 (HB'.out.below (B0.out.trans ((hb5).mono B0.out.size))).1 (by rw [ints_len, ints_len]; omega) hb5.size (ints_oneC _) rfl (by rfl) (by rfl) (by rfl) ?_
      intro v6 w6 hown6 hgr6
      have hb6 : Below w1.heap.size w1 w6 := hgr6.below (hb5) hb5.size ho5.1.ge
      obtain ⟨A6, c6, hv6, -, -⟩ := hown6.cells.open_
      simp only [List.length_append, ints_len] at hv6
      subst hv6
      refine hK.out _ _ ⟨HSB.out _ hb6, trivial⟩ (fun hS => ?_)
      clear hK
      try simp only [Act.put, List.setIfInBounds_toArray, List.set_cons_zero, List.set_cons_succ]
      refine AnyT.take0 (i := 6) (v := ?_) rfl (by kernel_rfl) (by kernel_rfl) (by kernel_rfl) (by decide) (fun _ _ _ h => h) hS (Or.inl ⟨by first | kernel_rfl | rfl, ?_⟩) ?_
      rotate_left
      · rintro w' ⟨b, hw'⟩; obtain ⟨hw1, -⟩ := hw'; (try (obtain ⟨hw1, hw2⟩ := hw1)); (try (obtain ⟨hw2, hw3⟩ := hw2)); (try (obtain ⟨hw3, hw4⟩ := hw3)); go_simp; try with_reducible rfl
      try simp only [Act.put, List.setIfInBounds_toArray, List.set_cons_zero, List.set_cons_succ]
      refine AnyT.go (rs := [7]) (by kernel_rfl) (by simp) ?_
      refine AllT.cons rfl (fun K hK => ?_) AllT.nil
      go_simp
      have hb7 : Below w1.heap.size w1 (w6.alloc (.cells #[.slice none 0 0, .slice none 0 0] 45)) := (hb6).alloc (by exact hb6.size) _
      refine hK.out _ _ ⟨HSB.out _ hb7, trivial⟩ (fun hS => ?_)
      clear hK
      try simp only [Act.put, List.setIfInBounds_toArray, List.set_cons_zero, List.set_cons_succ]
      refine AnyT.go (rs := [8]) (by kernel_rfl) (by simp) ?_
      refine AllT.cons rfl (fun K hK => ?_) AllT.nil
      have HBW := Lib.hid (show Below w.heap.size w (w6.alloc (.cells #[.slice none 0 0, .slice A6 (B1.length + B2.length) c6] 45)) from (B0.out.trans (hb6.mono B0.out.size)).alloc (Nat.le_trans B0.out.size hb6.size) _)
      have hpp : w.heap.size + 1 + 1 < w6.heap.size := by have := hb6.size; omega
      have HF := Lib.hid (show FillT w (w6.alloc (.cells #[.slice none 0 0, .slice A6 (B1.length + B2.length) c6] 45)) w6.heap.size (.slice none 0 0) (.slice A6 (B1.length + B2.length) c6) [] [] (B1 ++ B2) from ⟨⟨Own.nil _ _ _, RowsOwn.nil _ _ _ _, ⟨by have h := hown6.alloc (.cells #[.slice none 0 0, .slice A6 (B1.length + B2.length) c6] 45); simpa [ints] using h.mono (B' := w.heap.size + 1) (by omega), HIN.out⟩, fun k u hu => by simp at hu⟩, Blk.new _ _ _, by omega, HBW.out⟩)
      have hbs : Below w1.heap.size w1 (w6.alloc (.cells #[.slice none 0 0, .slice A6 (B1.length + B2.length) c6] 45)) := hb6.alloc hb6.size _
      have HE := Lib.hid (HE1.out.step hbs)
      go_simp
      refine hK.out _ _ ⟨HSB.out _ hbs, trivial⟩ (fun hS => ?_)
      clear hK HBW hbs
      refine AnyT.done (by kernel_rfl) ?_ _
      generalize (w6.alloc (.cells #[.slice none 0 0, .slice A6 (B1.length + B2.length) c6] 45)) = w4 at HF HE ⊢
      clear hown6 hgr6 hb5 ho5
      generalize w6.heap.size = p at HF HE hpp ⊢
      clear HSB
      go_wp2_with fail
      go_loopw [6] (fun i wr => ∃ (j : Nat) (va : Value) (vs : List Value), j ≤ A1.length ∧ i = .int .i64 j ∧ FillT w wr p va (.slice A6 (B1.length + B2.length) c6) vs ((A1.take j).map (padR B2.length)) (B1 ++ B2) ∧ Env w wr #[.slice Xa A1.length xa, .slice Xb B1.length xb] #[.slice Ya A2.length ya, .slice Yb B2.length yb] #[.slice none 0 0, .slice none 0 0]) (fun i _ => A1.length - (intOf i).toNat)
      case atStart => exact ⟨0, _, [], Nat.zero_le _, rfl, HF.out, HE.out⟩
      case round =>
        obtain ⟨j, va, vs, hj, rfl, hfill, henv⟩ := hrel
        clear HF HE
        have HF := Lib.hid hfill
        have HE := Lib.hid henv
        clear hfill henv
        have q0 : wr.cell? ⟨w.heap.size, 0, none⟩ = some (.slice Xa A1.length xa) := HE.out.k0.cell 0
        by_cases hlt : j < A1.length
        · obtain ⟨ad, u, zs, rfl, hz, hu, hc0⟩ := H3.out j hlt
          obtain ⟨A5, c5, rfl, p1, p2, -⟩ := hu.open_
          have HU := Lib.hid (hu.below HE.out.below)
          have hzl := (HT.out.rows zs (List.mem_of_getElem? hz)).2
          have HZI := Lib.hid (show ∀ z ∈ padR B2.length zs, In64 z from nums_in (fun z h => by rcases List.mem_append.1 h with h | h; exact (HT.out.rows zs (List.mem_of_getElem? hz)).1 z h; have := (List.mem_replicate.1 h).2; omega))
          have HS := Lib.hid (show (A1.take (j + 1)).map (padR B2.length) = (A1.take j).map (padR B2.length) ++ [padR B2.length zs] by rw [List.take_add_one, hz]; simp)
          have hvl : vs.length ≤ 1000 := by have := HF.out.two.rows.1; rw [List.length_map, List.length_take] at this; omega
          have hji : (j : Int) < (A1.length : Int) := by omega
          have hab : ad.block < w.heap.size := by have := World.block_lt_of_cell? w _ hc0; rwa [block_add] at this
          have HCX := Lib.hid (show ∀ W : World, Below w.heap.size w W → W.cell? (ad.add j) = some (.slice A5 zs.length c5) from fun W hW => by rw [hW.cell (by rw [block_add]; exact hab)]; exact hc0)
          clear hz hu hc0
          have HSE := Lib.hid (show ∀ W : World, Env w W #[.slice (some ad) A1.length xa, .slice Xb B1.length xb] #[.slice Ya A2.length ya, .slice Yb B2.length yb] #[.slice none 0 0, .slice none 0 0] → W.cell? ⟨w.heap.size, 0, none⟩ = some (.slice (some ad) A1.length xa) ∧ W.cell? (ad.add j) = some (.slice A5 zs.length c5) ∧ W.cell? ⟨w.heap.size + 1, 1, none⟩ = some (.slice Yb B2.length yb) from fun W hW => ⟨hW.k0.cell 0, HCX.out W hW.below, hW.k1.cell 1⟩)
          go_wp2_with fail
          refine AnyT.begin (k := 15) (S := fun b w' => (w'.cell? ⟨w.heap.size, 0, none⟩ = some (.slice (some ad) A1.length xa) ∧ w'.cell? (ad.add j) = some (.slice A5 zs.length c5) ∧ w'.cell? ⟨w.heap.size + 1, 1, none⟩ = some (.slice Yb B2.length yb)) ∧ (b = false → w'.cell? ⟨p, 0, none⟩ = some va)) (by kernel_rfl) ?_
          have hS : (fun (b : Bool) (w' : World) => (w'.cell? ⟨w.heap.size, 0, none⟩ = some (.slice (some ad) A1.length xa) ∧ w'.cell? (ad.add j) = some (.slice A5 zs.length c5) ∧ w'.cell? ⟨w.heap.size + 1, 1, none⟩ = some (.slice Yb B2.length yb)) ∧ (b = false → w'.cell? ⟨p, 0, none⟩ = some va)) false wr.drew := ⟨HSE.out wr HE.out, fun _ => HF.out.blk.cell 0⟩
          refine AnyT.take0 (i := 0) (v := ?_) rfl (by kernel_rfl) (by kernel_rfl) (by kernel_rfl) (by decide) (fun _ _ _ h => h) hS (Or.inl ⟨by first | kernel_rfl | rfl, ?_⟩) ?_
          rotate_left
          · rintro w' ⟨b, hw'⟩; obtain ⟨hw1, -⟩ := hw'; (try (obtain ⟨hw1, hw2⟩ := hw1)); (try (obtain ⟨hw2, hw3⟩ := hw2)); (try (obtain ⟨hw3, hw4⟩ := hw3)); go_simp; try with_reducible rfl
          try simp only [Act.put, List.setIfInBounds_toArray, List.set_cons_zero, List.set_cons_succ]
          refine AnyT.take1 (i := 1) (v := ?_) rfl (by kernel_rfl) (by kernel_rfl) (by kernel_rfl) (by decide) (by kernel_rfl) rfl (fun _ _ _ h => h) hS (Or.inl ⟨by first | kernel_rfl | rfl, ?_⟩) ?_
          rotate_left
          · intro w' hw'; have hw3 := hw'.2 rfl; go_simp; try with_reducible rfl
          try simp only [Act.put, List.setIfInBounds_toArray, List.set_cons_zero, List.set_cons_succ]
          refine AnyT.take0 (i := 2) (v := ?_) rfl (by kernel_rfl) (by kernel_rfl) (by kernel_rfl) (by decide) (fun _ _ _ h => h) hS (Or.inl ⟨by first | kernel_rfl | rfl, ?_⟩) ?_
          rotate_left
          · rintro w' ⟨b, hw'⟩; obtain ⟨hw1, -⟩ := hw'; (try (obtain ⟨hw1, hw2⟩ := hw1)); (try (obtain ⟨hw2, hw3⟩ := hw2)); (try (obtain ⟨hw3, hw4⟩ := hw3)); go_simp; try with_reducible rfl
          try simp only [Act.put, List.setIfInBounds_toArray, List.set_cons_zero, List.set_cons_succ]
          refine AnyT.take0 (i := 3) (v := ?_) rfl (by kernel_rfl) (by kernel_rfl) (by kernel_rfl) (by decide) (fun _ _ _ h => h) hS (Or.inl ⟨by first | kernel_rfl | rfl, ?_⟩) ?_
          rotate_left
          · rintro w' ⟨b, hw'⟩; obtain ⟨hw1, -⟩ := hw'; (try (obtain ⟨hw1, hw2⟩ := hw1)); (try (obtain ⟨hw2, hw3⟩ := hw2)); (try (obtain ⟨hw3, hw4⟩ := hw3)); go_simp; try with_reducible rfl
          try simp only [Act.put, List.setIfInBounds_toArray, List.set_cons_zero, List.set_cons_succ]
          refine AnyT.take0 (i := 4) (v := ?_) rfl (by kernel_rfl) (by kernel_rfl) (by kernel_rfl) (by decide) (fun _ _ _ h => h) hS (Or.inl ⟨by first | kernel_rfl | rfl, ?_⟩) ?_
          rotate_left
          · rintro w' ⟨b, hw'⟩; obtain ⟨hw1, -⟩ := hw'; (try (obtain ⟨hw1, hw2⟩ := hw1)); (try (obtain ⟨hw2, hw3⟩ := hw2)); (try (obtain ⟨hw3, hw4⟩ := hw3)); go_simp; try with_reducible rfl
          try simp only [Act.put, List.setIfInBounds_toArray, List.set_cons_zero, List.set_cons_succ]
          refine AnyT.take0 (i := 5) (v := ?_) rfl (by kernel_rfl) (by kernel_rfl) (by kernel_rfl) (by decide) (fun _ _ _ h => h) hS (Or.inl ⟨by first | kernel_rfl | rfl, ?_⟩) ?_
          rotate_left
          · rintro w' ⟨b, hw'⟩; obtain ⟨hw1, -⟩ := hw'; (try (obtain ⟨hw1, hw2⟩ := hw1)); (try (obtain ⟨hw2, hw3⟩ := hw2)); (try (obtain ⟨hw3, hw4⟩ := hw3)); go_simp; try with_reducible rfl
          try simp only [Act.put, List.setIfInBounds_toArray, List.set_cons_zero, List.set_cons_succ]
          refine AnyT.take0 (i := 6) (v := ?_) rfl (by kernel_rfl) (by kernel_rfl) (by kernel_rfl) (by decide) (fun _ _ _ h => h) hS (Or.inl ⟨by first | kernel_rfl | rfl, ?_⟩) ?_
          rotate_left
          · rintro w' ⟨b, hw'⟩; obtain ⟨hw1, -⟩ := hw'; (try (obtain ⟨hw1, hw2⟩ := hw1)); (try (obtain ⟨hw2, hw3⟩ := hw2)); (try (obtain ⟨hw3, hw4⟩ := hw3)); go_simp; try with_reducible rfl
          try simp only [Act.put, List.setIfInBounds_toArray, List.set_cons_zero, List.set_cons_succ]
          refine AnyT.take0 (i := 8) (v := ?_) rfl (by kernel_rfl) (by kernel_rfl) (by kernel_rfl) (by decide) (fun _ _ _ h => h) hS (Or.inl ⟨by first | kernel_rfl | rfl, ?_⟩) ?_
          rotate_left
          · rintro w' ⟨b, hw'⟩; obtain ⟨hw1, -⟩ := hw'; (try (obtain ⟨hw1, hw2⟩ := hw1)); (try (obtain ⟨hw2, hw3⟩ := hw2)); (try (obtain ⟨hw3, hw4⟩ := hw3)); go_simp; try with_reducible rfl
          try simp only [Act.put, List.setIfInBounds_toArray, List.set_cons_zero, List.set_cons_succ]
          refine AnyT.take0 (i := 9) (v := ?_) rfl (by kernel_rfl) (by kernel_rfl) (by kernel_rfl) (by decide) (fun _ _ _ h => h) hS (Or.inl ⟨by first | kernel_rfl | rfl, ?_⟩) ?_
          rotate_left
          · rintro w' ⟨b, hw'⟩; obtain ⟨hw1, -⟩ := hw'; (try (obtain ⟨hw1, hw2⟩ := hw1)); (try (obtain ⟨hw2, hw3⟩ := hw2)); (try (obtain ⟨hw3, hw4⟩ := hw3)); go_simp; try with_reducible rfl
          try simp only [Act.put, List.setIfInBounds_toArray, List.set_cons_zero, List.set_cons_succ]
          refine AnyT.take0 (i := 10) (v := ?_) rfl (by kernel_rfl) (by kernel_rfl) (by kernel_rfl) (by decide) (fun _ _ _ h => h) hS (Or.inl ⟨by first | kernel_rfl | rfl, ?_⟩) ?_
          rotate_left
          · rintro w' ⟨b, hw'⟩; obtain ⟨hw1, -⟩ := hw'; (try (obtain ⟨hw1, hw2⟩ := hw1)); (try (obtain ⟨hw2, hw3⟩ := hw2)); (try (obtain ⟨hw3, hw4⟩ := hw3)); go_simp; try with_reducible rfl
          try simp only [Act.put, List.setIfInBounds_toArray, List.set_cons_zero, List.set_cons_succ]
          refine AnyT.go (rs := [7]) (by kernel_rfl) (by simp) ?_
          refine AllT.cons rfl (fun K hK => ?_) AllT.nil
          go_simp
          refine (s_l01Own _ _ zs (by exact HU.out) (by omega)).mono ?_
          rintro e w5 ⟨v5, rfl, ho5, hb5w⟩
          have hb5 : Below wr.heap.size wr w5 := below_of_drew hb5w
          have F5 := HF.out.step hb5
          have E5 := HE.out.step hb5
          refine hK.out _ _ ⟨HSE.out _ E5, fun _ => F5.blk.cell 0⟩ (fun hS => ?_)
          clear hK
          try simp only [Act.put, List.setIfInBounds_toArray, List.set_cons_zero, List.set_cons_succ]
          refine AnyT.go (rs := [11]) (by kernel_rfl) (by simp) ?_
          refine AllT.cons rfl (fun K hK => ?_) AllT.nil
          refine step_appZ (W := w5) (B := wr.heap.size) (k := B2.length) ho5.1 (by omega) (by rw [ints_len]; omega) hb5.size (by rfl) (by rfl) (by rfl) (by rfl) ?_
          intro v7 w7 hown7 hgr7
          have hb7 : Below wr.heap.size wr w7 := hgr7.below hb5 hb5.size ho5.1.ge
          have F7 := HF.out.step hb7
          have E7 := HE.out.step hb7
          have ho7 : OwnInts w7 wr.heap.size tI v7 (padR B2.length zs) := ⟨by simpa [padR, ints] using hown7, HZI.out⟩
          obtain ⟨A7, c7, hv7, -, -, -⟩ := ho7.ints.open_
          rw [show (padR B2.length zs).length = zs.length + B2.length from by simp [padR]] at hv7
          subst hv7
          refine hK.out _ _ ⟨HSE.out _ E7, fun _ => F7.blk.cell 0⟩ (fun hS => ?_)
          clear hK
          try simp only [Act.put, List.setIfInBounds_toArray, List.set_cons_zero, List.set_cons_succ]
          refine AnyT.go (rs := [12]) (by kernel_rfl) (by simp) ?_
          refine AllT.cons rfl (fun K hK => ?_) AllT.nil
          go_simp
          have hb8 : Below wr.heap.size wr (w7.alloc (.cells #[.slice A7 (zs.length + B2.length) c7] tL)) := hb7.alloc hb7.size _
          have F8 := HF.out.step hb8
          have E8 := HE.out.step hb8
          refine hK.out _ _ ⟨HSE.out _ E8, fun _ => F8.blk.cell 0⟩ (fun hS => ?_)
          clear hK
          try simp only [Act.put, List.setIfInBounds_toArray, List.set_cons_zero, List.set_cons_succ]
          refine AnyT.go (rs := [13]) (by kernel_rfl) (by simp) ?_
          refine AllT.cons rfl (fun K hK => ?_) AllT.nil
          refine step_app1g T_row (B := w.heap.size + 1) (v := va) (vs := vs) (W := w7.alloc (.cells #[.slice A7 (zs.length + B2.length) c7] tL)) (u := .slice A7 (zs.length + B2.length) c7) (ad := ⟨w7.heap.size, 0, none⟩) F8.two.own (by omega) (by have := F8.blk.lt; have := F8.ge; omega) (by rfl) rfl (by rfl) (by rfl) (by rfl) ((Blk.new w7 _ _).cell 0) ?_
          intro v9 w9 hown9 hgr9
          obtain ⟨A9, c9, hv9, -, -⟩ := hown9.cells.open_
          rw [show (vs ++ [Value.slice A7 (zs.length + B2.length) c7]).length = vs.length + 1 from by simp] at hv9
          subst hv9
          have F9 := Lib.hid (HF.out.next hb8 (ho7.below (below1 _ _)) hown9 hgr9)
          have E9 := E8.grow F8.two.own (by decide) (by omega) hgr9
          have KP := F8.blk.grow hgr9 F8.npA
          have e0 : w9.cell? ⟨p, 0, none⟩ = some va := KP.cell 0
          have e2 : w9.frozen? ⟨p, 0, none⟩ = false := KP.frozen 0
          refine hK.out _ _ ⟨HSE.out _ E9, fun _ => e0⟩ (fun hS => ?_)
          clear hK
          try simp only [Act.put, List.setIfInBounds_toArray, List.set_cons_zero, List.set_cons_succ]
          refine AnyT.take0 (i := 14) (v := ?_) rfl (by kernel_rfl) (by kernel_rfl) (by kernel_rfl) (by decide) (fun _ _ _ h => h) hS (Or.inl ⟨by first | kernel_rfl | rfl, ?_⟩) ?_
          rotate_left
          · rintro w' ⟨b, hw'⟩; obtain ⟨hw1, -⟩ := hw'; (try (obtain ⟨hw1, hw2⟩ := hw1)); (try (obtain ⟨hw2, hw3⟩ := hw2)); (try (obtain ⟨hw3, hw4⟩ := hw3)); go_simp; try with_reducible rfl
          try simp only [Act.put, List.setIfInBounds_toArray, List.set_cons_zero, List.set_cons_succ]
          refine AnyT.go (rs := [15]) (by kernel_rfl) (by simp) ?_
          refine AllT.cons rfl (fun K hK => ?_) AllT.nil
          go_simp
          have E10 := Lib.hid (E9.store hpp 0 (.slice A9 (vs.length + 1) c9))
          refine hK.out _ _ ⟨HSE.out _ E10.out, fun h => Bool.noConfusion (show true = false from h)⟩ (fun hS => ?_)
          clear hK
          refine AnyT.done (by kernel_rfl) ?_ _
          clear hS hown9 hgr9 hown7 hgr7 F5 E5 F7 E7 F8 E8 E9 hb5 hb7 hb8 ho5 ho7 KP e0 e2 q0
          go_wp2_with fail
          go_roundw
          case rel =>
            refine ⟨j + 1, .slice A9 (vs.length + 1) c9, vs ++ [.slice A7 (zs.length + B2.length) c7], by omega, by go_num, ?_, E10.out⟩
            rw [HS.out]
            exact F9.out
          case measure => simp [intOf]; omega
        · have : j = A1.length := by omega
          subst this
          rw [List.take_length] at HF
          go_wp2_with fail
          obtain ⟨wa, rfl⟩ : ∃ wa : World, wa = wr := ⟨_, rfl⟩
          go_loopw [7] (fun i wr => ∃ (j : Nat) (va : Value) (vs : List Value), j ≤ A2.length ∧ i = .int .i64 j ∧ FillT w wr p va (.slice A6 (B1.length + B2.length) c6) vs (A1.map (padR B2.length) ++ (A2.take j).map (B1 ++ ·)) (B1 ++ B2) ∧ Env w wr #[.slice Xa A1.length xa, .slice Xb B1.length xb] #[.slice Ya A2.length ya, .slice Yb B2.length yb] #[.slice none 0 0, .slice none 0 0]) (fun i _ => A2.length - (intOf i).toNat)
          case atStart => exact ⟨0, _, vs, Nat.zero_le _, rfl, by simpa using HF.out, HE.out⟩
          case round =>
            obtain ⟨j, va, vs, hj, rfl, hfill, henv⟩ := hrel
            clear HF HE
            have HF := Lib.hid hfill
            have HE := Lib.hid henv
            clear hfill henv
            have q0 : wr.cell? ⟨w.heap.size + 1, 0, none⟩ = some (.slice Ya A2.length ya) := HE.out.k1.cell 0
            by_cases hlt2 : j < A2.length
            · obtain ⟨ad, u, zs, rfl, hz, hu, hc0⟩ := G3.out j hlt2
              obtain ⟨A5, c5, rfl, p1, p2, -⟩ := hu.open_
              have HU := Lib.hid (hu.below HE.out.below)
              have hzl := (HT'.out.rows zs (List.mem_of_getElem? hz)).2
              have HZI := Lib.hid (show ∀ z ∈ B1 ++ zs, In64 z from nums_in (fun z h => by rcases List.mem_append.1 h with h | h; exact HT.out.ws z h; exact (HT'.out.rows zs (List.mem_of_getElem? hz)).1 z h))
              have HS := Lib.hid (show A1.map (padR B2.length) ++ (A2.take (j + 1)).map (B1 ++ ·) = A1.map (padR B2.length) ++ (A2.take j).map (B1 ++ ·) ++ [B1 ++ zs] by rw [List.take_add_one, hz]; simp)
              have hvl : vs.length ≤ 2000 := by have := HF.out.two.rows.1; rw [List.length_append, List.length_map, List.length_map, List.length_take] at this; omega
              have hji : (j : Int) < (A2.length : Int) := by omega
              have hab : ad.block < w.heap.size := by have := World.block_lt_of_cell? w _ hc0; rwa [block_add] at this
              have HCX := Lib.hid (show ∀ W : World, Below w.heap.size w W → W.cell? (ad.add j) = some (.slice A5 zs.length c5) from fun W hW => by rw [hW.cell (by rw [block_add]; exact hab)]; exact hc0)
              clear hz hu hc0
              have HSE := Lib.hid (show ∀ W : World, Env w W #[.slice Xa A1.length xa, .slice Xb B1.length xb] #[.slice (some ad) A2.length ya, .slice Yb B2.length yb] #[.slice none 0 0, .slice none 0 0] → W.cell? ⟨w.heap.size, 1, none⟩ = some (.slice Xb B1.length xb) ∧ W.cell? ⟨w.heap.size + 1, 0, none⟩ = some (.slice (some ad) A2.length ya) ∧ W.cell? (ad.add j) = some (.slice A5 zs.length c5) from fun W hW => ⟨hW.k0.cell 1, hW.k1.cell 0, HCX.out W hW.below⟩)
              go_wp2_with fail
              refine AnyT.begin (k := 14) (S := fun b w' => (w'.cell? ⟨w.heap.size, 1, none⟩ = some (.slice Xb B1.length xb) ∧ w'.cell? ⟨w.heap.size + 1, 0, none⟩ = some (.slice (some ad) A2.length ya) ∧ w'.cell? (ad.add j) = some (.slice A5 zs.length c5)) ∧ (b = false → w'.cell? ⟨p, 0, none⟩ = some va)) (by kernel_rfl) ?_
              have hS : (fun (b : Bool) (w' : World) => (w'.cell? ⟨w.heap.size, 1, none⟩ = some (.slice Xb B1.length xb) ∧ w'.cell? ⟨w.heap.size + 1, 0, none⟩ = some (.slice (some ad) A2.length ya) ∧ w'.cell? (ad.add j) = some (.slice A5 zs.length c5)) ∧ (b = false → w'.cell? ⟨p, 0, none⟩ = some va)) false wr.drew := ⟨HSE.out wr HE.out, fun _ => HF.out.blk.cell 0⟩
              refine AnyT.take0 (i := 0) (v := ?_) rfl (by kernel_rfl) (by kernel_rfl) (by kernel_rfl) (by decide) (fun _ _ _ h => h) hS (Or.inl ⟨by first | kernel_rfl | rfl, ?_⟩) ?_
              rotate_left
              · rintro w' ⟨b, hw'⟩; obtain ⟨hw1, -⟩ := hw'; (try (obtain ⟨hw1, hw2⟩ := hw1)); (try (obtain ⟨hw2, hw3⟩ := hw2)); (try (obtain ⟨hw3, hw4⟩ := hw3)); go_simp; try with_reducible rfl
              try simp only [Act.put, List.setIfInBounds_toArray, List.set_cons_zero, List.set_cons_succ]
              refine AnyT.take1 (i := 1) (v := ?_) rfl (by kernel_rfl) (by kernel_rfl) (by kernel_rfl) (by decide) (by kernel_rfl) rfl (fun _ _ _ h => h) hS (Or.inl ⟨by first | kernel_rfl | rfl, ?_⟩) ?_
              rotate_left
              · intro w' hw'; have hw3 := hw'.2 rfl; go_simp; try with_reducible rfl
              try simp only [Act.put, List.setIfInBounds_toArray, List.set_cons_zero, List.set_cons_succ]
              refine AnyT.take0 (i := 2) (v := ?_) rfl (by kernel_rfl) (by kernel_rfl) (by kernel_rfl) (by decide) (fun _ _ _ h => h) hS (Or.inl ⟨by first | kernel_rfl | rfl, ?_⟩) ?_
              rotate_left
              · rintro w' ⟨b, hw'⟩; obtain ⟨hw1, -⟩ := hw'; (try (obtain ⟨hw1, hw2⟩ := hw1)); (try (obtain ⟨hw2, hw3⟩ := hw2)); (try (obtain ⟨hw3, hw4⟩ := hw3)); go_simp; try with_reducible rfl
              try simp only [Act.put, List.setIfInBounds_toArray, List.set_cons_zero, List.set_cons_succ]
              refine AnyT.take0 (i := 3) (v := ?_) rfl (by kernel_rfl) (by kernel_rfl) (by kernel_rfl) (by decide) (fun _ _ _ h => h) hS (Or.inl ⟨by first | kernel_rfl | rfl, ?_⟩) ?_
              rotate_left
              · rintro w' ⟨b, hw'⟩; obtain ⟨hw1, -⟩ := hw'; (try (obtain ⟨hw1, hw2⟩ := hw1)); (try (obtain ⟨hw2, hw3⟩ := hw2)); (try (obtain ⟨hw3, hw4⟩ := hw3)); go_simp; try with_reducible rfl
              try simp only [Act.put, List.setIfInBounds_toArray, List.set_cons_zero, List.set_cons_succ]
              refine AnyT.take0 (i := 5) (v := ?_) rfl (by kernel_rfl) (by kernel_rfl) (by kernel_rfl) (by decide) (fun _ _ _ h => h) hS (Or.inl ⟨by first | kernel_rfl | rfl, ?_⟩) ?_
              rotate_left
              · rintro w' ⟨b, hw'⟩; obtain ⟨hw1, -⟩ := hw'; (try (obtain ⟨hw1, hw2⟩ := hw1)); (try (obtain ⟨hw2, hw3⟩ := hw2)); (try (obtain ⟨hw3, hw4⟩ := hw3)); go_simp; try with_reducible rfl
              try simp only [Act.put, List.setIfInBounds_toArray, List.set_cons_zero, List.set_cons_succ]
              refine AnyT.take0 (i := 6) (v := ?_) rfl (by kernel_rfl) (by kernel_rfl) (by kernel_rfl) (by decide) (fun _ _ _ h => h) hS (Or.inl ⟨by first | kernel_rfl | rfl, ?_⟩) ?_
              rotate_left
              · rintro w' ⟨b, hw'⟩; obtain ⟨hw1, -⟩ := hw'; (try (obtain ⟨hw1, hw2⟩ := hw1)); (try (obtain ⟨hw2, hw3⟩ := hw2)); (try (obtain ⟨hw3, hw4⟩ := hw3)); go_simp; try with_reducible rfl
              try simp only [Act.put, List.setIfInBounds_toArray, List.set_cons_zero, List.set_cons_succ]
              refine AnyT.take0 (i := 7) (v := ?_) rfl (by kernel_rfl) (by kernel_rfl) (by kernel_rfl) (by decide) (fun _ _ _ h => h) hS (Or.inl ⟨by first | kernel_rfl | rfl, ?_⟩) ?_
              rotate_left
              · rintro w' ⟨b, hw'⟩; obtain ⟨hw1, -⟩ := hw'; (try (obtain ⟨hw1, hw2⟩ := hw1)); (try (obtain ⟨hw2, hw3⟩ := hw2)); (try (obtain ⟨hw3, hw4⟩ := hw3)); go_simp; try with_reducible rfl
              try simp only [Act.put, List.setIfInBounds_toArray, List.set_cons_zero, List.set_cons_succ]
              refine AnyT.take0 (i := 8) (v := ?_) rfl (by kernel_rfl) (by kernel_rfl) (by kernel_rfl) (by decide) (fun _ _ _ h => h) hS (Or.inl ⟨by first | kernel_rfl | rfl, ?_⟩) ?_
              rotate_left
              · rintro w' ⟨b, hw'⟩; obtain ⟨hw1, -⟩ := hw'; (try (obtain ⟨hw1, hw2⟩ := hw1)); (try (obtain ⟨hw2, hw3⟩ := hw2)); (try (obtain ⟨hw3, hw4⟩ := hw3)); go_simp; try with_reducible rfl
              try simp only [Act.put, List.setIfInBounds_toArray, List.set_cons_zero, List.set_cons_succ]
              refine AnyT.take0 (i := 9) (v := ?_) rfl (by kernel_rfl) (by kernel_rfl) (by kernel_rfl) (by decide) (fun _ _ _ h => h) hS (Or.inl ⟨by first | kernel_rfl | rfl, ?_⟩) ?_
              rotate_left
              · rintro w' ⟨b, hw'⟩; obtain ⟨hw1, -⟩ := hw'; (try (obtain ⟨hw1, hw2⟩ := hw1)); (try (obtain ⟨hw2, hw3⟩ := hw2)); (try (obtain ⟨hw3, hw4⟩ := hw3)); go_simp; try with_reducible rfl
              try simp only [Act.put, List.setIfInBounds_toArray, List.set_cons_zero, List.set_cons_succ]
              refine AnyT.go (rs := [4]) (by kernel_rfl) (by simp) ?_
              refine AllT.cons rfl (fun K hK => ?_) AllT.nil
              go_simp
              refine (s_l01Own _ _ B1 (by exact HB.out.below HE.out.below.drew) (by omega)).mono ?_
              rintro e w5 ⟨v5, rfl, ho5, hb5w⟩
              have hb5 : Below wr.heap.size wr w5 := below_of_drew hb5w
              have F5 := HF.out.step hb5
              have E5 := HE.out.step hb5
              refine hK.out _ _ ⟨HSE.out _ E5, fun _ => F5.blk.cell 0⟩ (fun hS => ?_)
              clear hK
              try simp only [Act.put, List.setIfInBounds_toArray, List.set_cons_zero, List.set_cons_succ]
              refine AnyT.go (rs := [10]) (by kernel_rfl) (by simp) ?_
              refine AllT.cons rfl (fun K hK => ?_) AllT.nil
              refine step_appN T_int (W := w5) (B := wr.heap.size) ho5.1 (HU.out.below hb5).1 (by rw [ints_len, ints_len]; omega) hb5.size (ints_oneC _) rfl (by rfl) (by rfl) (by rfl) ?_
              intro v7 w7 hown7 hgr7
              have hb7 : Below wr.heap.size wr w7 := hgr7.below hb5 hb5.size ho5.1.ge
              have F7 := HF.out.step hb7
              have E7 := HE.out.step hb7
              have ho7 : OwnInts w7 wr.heap.size tI v7 (B1 ++ zs) := ⟨by simpa [ints] using hown7, HZI.out⟩
              obtain ⟨A7, c7, hv7, -, -, -⟩ := ho7.ints.open_
              rw [List.length_append] at hv7
              subst hv7
              refine hK.out _ _ ⟨HSE.out _ E7, fun _ => F7.blk.cell 0⟩ (fun hS => ?_)
              clear hK
              try simp only [Act.put, List.setIfInBounds_toArray, List.set_cons_zero, List.set_cons_succ]
              refine AnyT.go (rs := [11]) (by kernel_rfl) (by simp) ?_
              refine AllT.cons rfl (fun K hK => ?_) AllT.nil
              go_simp
              have hb8 : Below wr.heap.size wr (w7.alloc (.cells #[.slice A7 (B1.length + zs.length) c7] tL)) := hb7.alloc hb7.size _
              have F8 := HF.out.step hb8
              have E8 := HE.out.step hb8
              refine hK.out _ _ ⟨HSE.out _ E8, fun _ => F8.blk.cell 0⟩ (fun hS => ?_)
              clear hK
              try simp only [Act.put, List.setIfInBounds_toArray, List.set_cons_zero, List.set_cons_succ]
              refine AnyT.go (rs := [12]) (by kernel_rfl) (by simp) ?_
              refine AllT.cons rfl (fun K hK => ?_) AllT.nil
              refine step_app1g T_row (B := w.heap.size + 1) (v := va) (vs := vs) (W := w7.alloc (.cells #[.slice A7 (B1.length + zs.length) c7] tL)) (u := .slice A7 (B1.length + zs.length) c7) (ad := ⟨w7.heap.size, 0, none⟩) F8.two.own (by omega) (by have := F8.blk.lt; have := F8.ge; omega) (by rfl) rfl (by rfl) (by rfl) (by rfl) ((Blk.new w7 _ _).cell 0) ?_
              intro v9 w9 hown9 hgr9
              obtain ⟨A9, c9, hv9, -, -⟩ := hown9.cells.open_
              rw [show (vs ++ [Value.slice A7 (B1.length + zs.length) c7]).length = vs.length + 1 from by simp] at hv9
              subst hv9
              have F9 := Lib.hid (HF.out.next hb8 (ho7.below (below1 _ _)) hown9 hgr9)
              have E9 := E8.grow F8.two.own (by decide) (by omega) hgr9
              have KP := F8.blk.grow hgr9 F8.npA
              have e0 : w9.cell? ⟨p, 0, none⟩ = some va := KP.cell 0
              have e2 : w9.frozen? ⟨p, 0, none⟩ = false := KP.frozen 0
              refine hK.out _ _ ⟨HSE.out _ E9, fun _ => e0⟩ (fun hS => ?_)
              clear hK
              try simp only [Act.put, List.setIfInBounds_toArray, List.set_cons_zero, List.set_cons_succ]
              refine AnyT.take0 (i := 13) (v := ?_) rfl (by kernel_rfl) (by kernel_rfl) (by kernel_rfl) (by decide) (fun _ _ _ h => h) hS (Or.inl ⟨by first | kernel_rfl | rfl, ?_⟩) ?_
              rotate_left
              · rintro w' ⟨b, hw'⟩; obtain ⟨hw1, -⟩ := hw'; (try (obtain ⟨hw1, hw2⟩ := hw1)); (try (obtain ⟨hw2, hw3⟩ := hw2)); (try (obtain ⟨hw3, hw4⟩ := hw3)); go_simp; try with_reducible rfl
              try simp only [Act.put, List.setIfInBounds_toArray, List.set_cons_zero, List.set_cons_succ]
              refine AnyT.go (rs := [14]) (by kernel_rfl) (by simp) ?_
              refine AllT.cons rfl (fun K hK => ?_) AllT.nil
              go_simp
              have E10 := Lib.hid (E9.store hpp 0 (.slice A9 (vs.length + 1) c9))
              refine hK.out _ _ ⟨HSE.out _ E10.out, fun h => Bool.noConfusion (show true = false from h)⟩ (fun hS => ?_)
              clear hK
              refine AnyT.done (by kernel_rfl) ?_ _
              clear hS hown9 hgr9 hown7 hgr7 F5 E5 F7 E7 F8 E8 E9 hb5 hb7 hb8 ho5 ho7 KP e0 e2 q0
              go_wp2_with fail
              go_roundw
              case rel =>
                refine ⟨j + 1, .slice A9 (vs.length + 1) c9, vs ++ [.slice A7 (B1.length + zs.length) c7], by omega, by go_num, ?_, E10.out⟩
                rw [HS.out]
                exact F9.out
              case measure => simp [intOf]; omega
            · have : j = A2.length := by omega
              subst this
              rw [List.take_length] at HF
              obtain ⟨A7, c7, hv7, -, -⟩ := HF.out.two.own.cells.open_
              have hvl : vs.length = A1.length + A2.length := by have := HF.out.two.rows.1; simpa using this
              rw [hvl] at hv7
              subst hv7
              have e0 : wr.cell? ⟨p, 0, none⟩ = some (.slice A7 (A1.length + A2.length) c7) := HF.out.blk.cell 0
              have e1 : wr.cell? ⟨p, 1, none⟩ = some (.slice A6 (B1.length + B2.length) c6) := HF.out.blk.cell 1
              have f0 : wr.cell? ⟨w.heap.size + 1 + 1, 0, none⟩ = some (.slice none 0 0) := HE.out.k2.cell 0
              have f1 : wr.cell? ⟨w.heap.size + 1 + 1, 1, none⟩ = some (.slice none 0 0) := HE.out.k2.cell 1
              have f2 := HE.out.k2.frozen 0
              have f3 := HE.out.k2.frozen 1
              have HTW := Lib.hid ((HF.out.two.storeAt HE.out.k2 (by decide) (by decide) 0 (.slice A7 (A1.length + A2.length) c7)).storeAt (HE.out.k2.set_ 0 (.slice A7 (A1.length + A2.length) c7)) (by decide) (by decide) 1 (.slice A6 (B1.length + B2.length) c6))
              have HBE := Lib.hid (HE.out.below)
              clear hvl
              go_wp2_with fail
              refine bodyPost_ret (v := .agg #[.slice A7 (A1.length + A2.length) c7, (.slice A6 (B1.length + B2.length) c6)]) (by simp [results, Tryz.results104, go_sem, f0, f1]) rfl ⟨_, rfl, HTW.out.tab.mono (by omega) (Nat.le_refl _), (HBE.out.setCell (p := ⟨w.heap.size + 1 + 1, 0, none⟩) (by show _ ≤ w.heap.size + 1 + 1; omega) _).setCell (p := ⟨w.heap.size + 1 + 1, 1, none⟩) (by show _ ≤ w.heap.size + 1 + 1; omega) _⟩
    · go_simp
      have hb7 : Below w1.heap.size w1 (w5.alloc (.cells #[.slice none 0 0, .slice none 0 0] 45)) := (hb5).alloc (by exact hb5.size) _
      refine hK.out _ _ ⟨HSB.out _ hb7, trivial⟩ (fun hS => ?_)
      clear hK
      try simp only [Act.put, List.setIfInBounds_toArray, List.set_cons_zero, List.set_cons_succ]
      refine AnyT.go (rs := [5]) (by kernel_rfl) (by simp) ?_
      refine AllT.cons rfl (fun K hK => ?_) AllT.nil
      refine step_appN T_int (B := w1.heap.size) (W := w5.alloc (.cells #[.slice none 0 0, .slice none 0 0] 45)) (ho5.1.alloc _) (HB'.out.below (B0.out.trans ((hb7).mono B0.out.size))).1 (by rw [ints_len, ints_len]; omega) (Nat.le_trans hb5.size (by simp)) (ints_oneC _) rfl (by rfl) (by rfl) (by rfl) ?_
      intro v6 w6 hown6 hgr6
      have hb6 : Below w1.heap.size w1 w6 := hgr6.below (hb7) (Nat.le_trans hb5.size (by simp)) ho5.1.ge
      obtain ⟨A6, c6, hv6, -, -⟩ := hown6.cells.open_
      simp only [List.length_append, ints_len] at hv6
      subst hv6
      refine hK.out _ _ ⟨HSB.out _ hb6, trivial⟩ (fun hS => ?_)
      clear hK
      try simp only [Act.put, List.setIfInBounds_toArray, List.set_cons_zero, List.set_cons_succ]
      refine AnyT.take0 (i := 6) (v := ?_) rfl (by kernel_rfl) (by kernel_rfl) (by kernel_rfl) (by decide) (fun _ _ _ h => h) hS (Or.inl ⟨by first | kernel_rfl | rfl, ?_⟩) ?_
      rotate_left
      · rintro w' ⟨b, hw'⟩; obtain ⟨hw1, -⟩ := hw'; (try (obtain ⟨hw1, hw2⟩ := hw1)); (try (obtain ⟨hw2, hw3⟩ := hw2)); (try (obtain ⟨hw3, hw4⟩ := hw3)); go_simp; try with_reducible rfl
      try simp only [Act.put, List.setIfInBounds_toArray, List.set_cons_zero, List.set_cons_succ]
      refine AnyT.go (rs := [8]) (by kernel_rfl) (by simp) ?_
      refine AllT.cons rfl (fun K hK => ?_) AllT.nil
      have KP : Blk w6 w5.heap.size 45 #[.slice none 0 0, .slice none 0 0] := (Blk.new w5 _ _).grow hgr6 (fun e => by have := ho5.1.lt _ e; omega)
      have e0 : (w6).cell? ⟨w5.heap.size, 0, none⟩ = some (.slice none 0 0) := KP.cell 0
      have e1 : (w6).cell? ⟨w5.heap.size, 1, none⟩ = some (.slice none 0 0) := KP.cell 1
      have e2 : (w6).frozen? ⟨w5.heap.size, 0, none⟩ = false := KP.frozen 0
      have e3 : (w6).frozen? ⟨w5.heap.size, 1, none⟩ = false := KP.frozen 1
      have HBW := Lib.hid (show Below w.heap.size w w6 from B0.out.trans ((hb6).mono B0.out.size))
      have hpp : w.heap.size + 1 + 1 < w5.heap.size := by have := hb5.size; omega
      have HF := Lib.hid (FillT.init (w0 := w) (show Two w6 (w.heap.size + 1) (.slice none 0 0) (.slice A6 (B1.length + B2.length) c6) [] [] (B1 ++ B2) from ⟨Own.nil _ _ _, RowsOwn.nil _ _ _ _, ⟨by have h := hown6; simpa [ints] using h.mono (B' := w.heap.size + 1) (by omega), HIN.out⟩, fun k u hu => by simp at hu⟩) KP HBW.out (by omega))
      have HE := Lib.hid ((HE1.out.step (hb6)).store hpp 0 (.slice none 0 0) |>.store hpp 1 (.slice A6 (B1.length + B2.length) c6))
      have hbs : Below w1.heap.size w1 (((w6).setCell ⟨w5.heap.size, 0, none⟩ (.slice none 0 0)).setCell ⟨w5.heap.size, 1, none⟩ (.slice A6 (B1.length + B2.length) c6)) := ((hb6).setCell (p := ⟨w5.heap.size, 0, none⟩) (by exact hb5.size) _).setCell (p := ⟨w5.heap.size, 1, none⟩) (by exact hb5.size) _
      go_simp
      refine hK.out _ _ ⟨HSB.out _ hbs, trivial⟩ (fun hS => ?_)
      clear hK KP e0 e1 e2 e3 HBW hbs
      refine AnyT.done (by kernel_rfl) ?_ _
      generalize (((w6).setCell ⟨w5.heap.size, 0, none⟩ (.slice none 0 0)).setCell ⟨w5.heap.size, 1, none⟩ (.slice A6 (B1.length + B2.length) c6)) = w4 at HF HE ⊢
      clear hown6 hgr6 hb6 hb5 ho5
      generalize w5.heap.size = p at HF HE hpp ⊢
      clear HSB
      go_wp2_with fail
      go_loopw [6] (fun i wr => ∃ (j : Nat) (va : Value) (vs : List Value), j ≤ A1.length ∧ i = .int .i64 j ∧ FillT w wr p va (.slice A6 (B1.length + B2.length) c6) vs ((A1.take j).map (padR B2.length)) (B1 ++ B2) ∧ Env w wr #[.slice Xa A1.length xa, .slice Xb B1.length xb] #[.slice Ya A2.length ya, .slice Yb B2.length yb] #[.slice none 0 0, .slice none 0 0]) (fun i _ => A1.length - (intOf i).toNat)
      case atStart => exact ⟨0, _, [], Nat.zero_le _, rfl, HF.out, HE.out⟩
      case round =>
        obtain ⟨j, va, vs, hj, rfl, hfill, henv⟩ := hrel
        clear HF HE
        have HF := Lib.hid hfill
        have HE := Lib.hid henv
        clear hfill henv
        have q0 : wr.cell? ⟨w.heap.size, 0, none⟩ = some (.slice Xa A1.length xa) := HE.out.k0.cell 0
        by_cases hlt : j < A1.length
        · obtain ⟨ad, u, zs, rfl, hz, hu, hc0⟩ := H3.out j hlt
          obtain ⟨A5, c5, rfl, p1, p2, -⟩ := hu.open_
          have HU := Lib.hid (hu.below HE.out.below)
          have hzl := (HT.out.rows zs (List.mem_of_getElem? hz)).2
          have HZI := Lib.hid (show ∀ z ∈ padR B2.length zs, In64 z from nums_in (fun z h => by rcases List.mem_append.1 h with h | h; exact (HT.out.rows zs (List.mem_of_getElem? hz)).1 z h; have := (List.mem_replicate.1 h).2; omega))
          have HS := Lib.hid (show (A1.take (j + 1)).map (padR B2.length) = (A1.take j).map (padR B2.length) ++ [padR B2.length zs] by rw [List.take_add_one, hz]; simp)
          have hvl : vs.length ≤ 1000 := by have := HF.out.two.rows.1; rw [List.length_map, List.length_take] at this; omega
          have hji : (j : Int) < (A1.length : Int) := by omega
          have hab : ad.block < w.heap.size := by have := World.block_lt_of_cell? w _ hc0; rwa [block_add] at this
          have HCX := Lib.hid (show ∀ W : World, Below w.heap.size w W → W.cell? (ad.add j) = some (.slice A5 zs.length c5) from fun W hW => by rw [hW.cell (by rw [block_add]; exact hab)]; exact hc0)
          clear hz hu hc0
          have HSE := Lib.hid (show ∀ W : World, Env w W #[.slice (some ad) A1.length xa, .slice Xb B1.length xb] #[.slice Ya A2.length ya, .slice Yb B2.length yb] #[.slice none 0 0, .slice none 0 0] → W.cell? ⟨w.heap.size, 0, none⟩ = some (.slice (some ad) A1.length xa) ∧ W.cell? (ad.add j) = some (.slice A5 zs.length c5) ∧ W.cell? ⟨w.heap.size + 1, 1, none⟩ = some (.slice Yb B2.length yb) from fun W hW => ⟨hW.k0.cell 0, HCX.out W hW.below, hW.k1.cell 1⟩)
          go_wp2_with fail
          refine AnyT.begin (k := 15) (S := fun b w' => (w'.cell? ⟨w.heap.size, 0, none⟩ = some (.slice (some ad) A1.length xa) ∧ w'.cell? (ad.add j) = some (.slice A5 zs.length c5) ∧ w'.cell? ⟨w.heap.size + 1, 1, none⟩ = some (.slice Yb B2.length yb)) ∧ (b = false → w'.cell? ⟨p, 0, none⟩ = some va)) (by kernel_rfl) ?_
          have hS : (fun (b : Bool) (w' : World) => (w'.cell? ⟨w.heap.size, 0, none⟩ = some (.slice (some ad) A1.length xa) ∧ w'.cell? (ad.add j) = some (.slice A5 zs.length c5) ∧ w'.cell? ⟨w.heap.size + 1, 1, none⟩ = some (.slice Yb B2.length yb)) ∧ (b = false → w'.cell? ⟨p, 0, none⟩ = some va)) false wr.drew := ⟨HSE.out wr HE.out, fun _ => HF.out.blk.cell 0⟩
          refine AnyT.take0 (i := 0) (v := ?_) rfl (by kernel_rfl) (by kernel_rfl) (by kernel_rfl) (by decide) (fun _ _ _ h => h) hS (Or.inl ⟨by first | kernel_rfl | rfl, ?_⟩) ?_
          rotate_left
          · rintro w' ⟨b, hw'⟩; obtain ⟨hw1, -⟩ := hw'; (try (obtain ⟨hw1, hw2⟩ := hw1)); (try (obtain ⟨hw2, hw3⟩ := hw2)); (try (obtain ⟨hw3, hw4⟩ := hw3)); go_simp; try with_reducible rfl
          try simp only [Act.put, List.setIfInBounds_toArray, List.set_cons_zero, List.set_cons_succ]
          refine AnyT.take1 (i := 1) (v := ?_) rfl (by kernel_rfl) (by kernel_rfl) (by kernel_rfl) (by decide) (by kernel_rfl) rfl (fun _ _ _ h => h) hS (Or.inl ⟨by first | kernel_rfl | rfl, ?_⟩) ?_
          rotate_left
          · intro w' hw'; have hw3 := hw'.2 rfl; go_simp; try with_reducible rfl
          try simp only [Act.put, List.setIfInBounds_toArray, List.set_cons_zero, List.set_cons_succ]
          refine AnyT.take0 (i := 2) (v := ?_) rfl (by kernel_rfl) (by kernel_rfl) (by kernel_rfl) (by decide) (fun _ _ _ h => h) hS (Or.inl ⟨by first | kernel_rfl | rfl, ?_⟩) ?_
          rotate_left
          · rintro w' ⟨b, hw'⟩; obtain ⟨hw1, -⟩ := hw'; (try (obtain ⟨hw1, hw2⟩ := hw1)); (try (obtain ⟨hw2, hw3⟩ := hw2)); (try (obtain ⟨hw3, hw4⟩ := hw3)); go_simp; try with_reducible rfl
          try simp only [Act.put, List.setIfInBounds_toArray, List.set_cons_zero, List.set_cons_succ]
          refine AnyT.take0 (i := 3) (v := ?_) rfl (by kernel_rfl) (by kernel_rfl) (by kernel_rfl) (by decide) (fun _ _ _ h => h) hS (Or.inl ⟨by first | kernel_rfl | rfl, ?_⟩) ?_
          rotate_left
          · rintro w' ⟨b, hw'⟩; obtain ⟨hw1, -⟩ := hw'; (try (obtain ⟨hw1, hw2⟩ := hw1)); (try (obtain ⟨hw2, hw3⟩ := hw2)); (try (obtain ⟨hw3, hw4⟩ := hw3)); go_simp; try with_reducible rfl
          try simp only [Act.put, List.setIfInBounds_toArray, List.set_cons_zero, List.set_cons_succ]
          refine AnyT.take0 (i := 4) (v := ?_) rfl (by kernel_rfl) (by kernel_rfl) (by kernel_rfl) (by decide) (fun _ _ _ h => h) hS (Or.inl ⟨by first | kernel_rfl | rfl, ?_⟩) ?_
          rotate_left
          · rintro w' ⟨b, hw'⟩; obtain ⟨hw1, -⟩ := hw'; (try (obtain ⟨hw1, hw2⟩ := hw1)); (try (obtain ⟨hw2, hw3⟩ := hw2)); (try (obtain ⟨hw3, hw4⟩ := hw3)); go_simp; try with_reducible rfl
          try simp only [Act.put, List.setIfInBounds_toArray, List.set_cons_zero, List.set_cons_succ]
          refine AnyT.take0 (i := 5) (v := ?_) rfl (by kernel_rfl) (by kernel_rfl) (by kernel_rfl) (by decide) (fun _ _ _ h => h) hS (Or.inl ⟨by first | kernel_rfl | rfl, ?_⟩) ?_
          rotate_left
          · rintro w' ⟨b, hw'⟩; obtain ⟨hw1, -⟩ := hw'; (try (obtain ⟨hw1, hw2⟩ := hw1)); (try (obtain ⟨hw2, hw3⟩ := hw2)); (try (obtain ⟨hw3, hw4⟩ := hw3)); go_simp; try with_reducible rfl
          try simp only [Act.put, List.setIfInBounds_toArray, List.set_cons_zero, List.set_cons_succ]
          refine AnyT.take0 (i := 6) (v := ?_) rfl (by kernel_rfl) (by kernel_rfl) (by kernel_rfl) (by decide) (fun _ _ _ h => h) hS (Or.inl ⟨by first | kernel_rfl | rfl, ?_⟩) ?_
          rotate_left
          · rintro w' ⟨b, hw'⟩; obtain ⟨hw1, -⟩ := hw'; (try (obtain ⟨hw1, hw2⟩ := hw1)); (try (obtain ⟨hw2, hw3⟩ := hw2)); (try (obtain ⟨hw3, hw4⟩ := hw3)); go_simp; try with_reducible rfl
          try simp only [Act.put, List.setIfInBounds_toArray, List.set_cons_zero, List.set_cons_succ]
          refine AnyT.take0 (i := 8) (v := ?_) rfl (by kernel_rfl) (by kernel_rfl) (by kernel_rfl) (by decide) (fun _ _ _ h => h) hS (Or.inl ⟨by first | kernel_rfl | rfl, ?_⟩) ?_
          rotate_left
          · rintro w' ⟨b, hw'⟩; obtain ⟨hw1, -⟩ := hw'; (try (obtain ⟨hw1, hw2⟩ := hw1)); (try (obtain ⟨hw2, hw3⟩ := hw2)); (try (obtain ⟨hw3, hw4⟩ := hw3)); go_simp; try with_reducible rfl
          try simp only [Act.put, List.setIfInBounds_toArray, List.set_cons_zero, List.set_cons_succ]
          refine AnyT.take0 (i := 9) (v := ?_) rfl (by kernel_rfl) (by kernel_rfl) (by kernel_rfl) (by decide) (fun _ _ _ h => h) hS (Or.inl ⟨by first | kernel_rfl | rfl, ?_⟩) ?_
          rotate_left
          · rintro w' ⟨b, hw'⟩; obtain ⟨hw1, -⟩ := hw'; (try (obtain ⟨hw1, hw2⟩ := hw1)); (try (obtain ⟨hw2, hw3⟩ := hw2)); (try (obtain ⟨hw3, hw4⟩ := hw3)); go_simp; try with_reducible rfl
          try simp only [Act.put, List.setIfInBounds_toArray, List.set_cons_zero, List.set_cons_succ]
          refine AnyT.take0 (i := 10) (v := ?_) rfl (by kernel_rfl) (by kernel_rfl) (by kernel_rfl) (by decide) (fun _ _ _ h => h) hS (Or.inl ⟨by first | kernel_rfl | rfl, ?_⟩) ?_
          rotate_left
          · rintro w' ⟨b, hw'⟩; obtain ⟨hw1, -⟩ := hw'; (try (obtain ⟨hw1, hw2⟩ := hw1)); (try (obtain ⟨hw2, hw3⟩ := hw2)); (try (obtain ⟨hw3, hw4⟩ := hw3)); go_simp; try with_reducible rfl
          try simp only [Act.put, List.setIfInBounds_toArray, List.set_cons_zero, List.set_cons_succ]
          refine AnyT.go (rs := [7]) (by kernel_rfl) (by simp) ?_
          refine AllT.cons rfl (fun K hK => ?_) AllT.nil
          go_simp
          refine (s_l01Own _ _ zs (by exact HU.out) (by omega)).mono ?_
          rintro e w5 ⟨v5, rfl, ho5, hb5w⟩
          have hb5 : Below wr.heap.size wr w5 := below_of_drew hb5w
          have F5 := HF.out.step hb5
          have E5 := HE.out.step hb5
          refine hK.out _ _ ⟨HSE.out _ E5, fun _ => F5.blk.cell 0⟩ (fun hS => ?_)
          clear hK
          try simp only [Act.put, List.setIfInBounds_toArray, List.set_cons_zero, List.set_cons_succ]
          refine AnyT.go (rs := [11]) (by kernel_rfl) (by simp) ?_
          refine AllT.cons rfl (fun K hK => ?_) AllT.nil
          refine step_appZ (W := w5) (B := wr.heap.size) (k := B2.length) ho5.1 (by omega) (by rw [ints_len]; omega) hb5.size (by rfl) (by rfl) (by rfl) (by rfl) ?_
          intro v7 w7 hown7 hgr7
          have hb7 : Below wr.heap.size wr w7 := hgr7.below hb5 hb5.size ho5.1.ge
          have F7 := HF.out.step hb7
          have E7 := HE.out.step hb7
          have ho7 : OwnInts w7 wr.heap.size tI v7 (padR B2.length zs) := ⟨by simpa [padR, ints] using hown7, HZI.out⟩
          obtain ⟨A7, c7, hv7, -, -, -⟩ := ho7.ints.open_
          rw [show (padR B2.length zs).length = zs.length + B2.length from by simp [padR]] at hv7
          subst hv7
          refine hK.out _ _ ⟨HSE.out _ E7, fun _ => F7.blk.cell 0⟩ (fun hS => ?_)
          clear hK
          try simp only [Act.put, List.setIfInBounds_toArray, List.set_cons_zero, List.set_cons_succ]
          refine AnyT.go (rs := [12]) (by kernel_rfl) (by simp) ?_
          refine AllT.cons rfl (fun K hK => ?_) AllT.nil
          go_simp
          have hb8 : Below wr.heap.size wr (w7.alloc (.cells #[.slice A7 (zs.length + B2.length) c7] tL)) := hb7.alloc hb7.size _
          have F8 := HF.out.step hb8
          have E8 := HE.out.step hb8
          refine hK.out _ _ ⟨HSE.out _ E8, fun _ => F8.blk.cell 0⟩ (fun hS => ?_)
          clear hK
          try simp only [Act.put, List.setIfInBounds_toArray, List.set_cons_zero, List.set_cons_succ]
          refine AnyT.go (rs := [13]) (by kernel_rfl) (by simp) ?_
          refine AllT.cons rfl (fun K hK => ?_) AllT.nil
          refine step_app1g T_row (B := w.heap.size + 1) (v := va) (vs := vs) (W := w7.alloc (.cells #[.slice A7 (zs.length + B2.length) c7] tL)) (u := .slice A7 (zs.length + B2.length) c7) (ad := ⟨w7.heap.size, 0, none⟩) F8.two.own (by omega) (by have := F8.blk.lt; have := F8.ge; omega) (by rfl) rfl (by rfl) (by rfl) (by rfl) ((Blk.new w7 _ _).cell 0) ?_
          intro v9 w9 hown9 hgr9
          obtain ⟨A9, c9, hv9, -, -⟩ := hown9.cells.open_
          rw [show (vs ++ [Value.slice A7 (zs.length + B2.length) c7]).length = vs.length + 1 from by simp] at hv9
          subst hv9
          have F9 := Lib.hid (HF.out.next hb8 (ho7.below (below1 _ _)) hown9 hgr9)
          have E9 := E8.grow F8.two.own (by decide) (by omega) hgr9
          have KP := F8.blk.grow hgr9 F8.npA
          have e0 : w9.cell? ⟨p, 0, none⟩ = some va := KP.cell 0
          have e2 : w9.frozen? ⟨p, 0, none⟩ = false := KP.frozen 0
          refine hK.out _ _ ⟨HSE.out _ E9, fun _ => e0⟩ (fun hS => ?_)
          clear hK
          try simp only [Act.put, List.setIfInBounds_toArray, List.set_cons_zero, List.set_cons_succ]
          refine AnyT.take0 (i := 14) (v := ?_) rfl (by kernel_rfl) (by kernel_rfl) (by kernel_rfl) (by decide) (fun _ _ _ h => h) hS (Or.inl ⟨by first | kernel_rfl | rfl, ?_⟩) ?_
          rotate_left
          · rintro w' ⟨b, hw'⟩; obtain ⟨hw1, -⟩ := hw'; (try (obtain ⟨hw1, hw2⟩ := hw1)); (try (obtain ⟨hw2, hw3⟩ := hw2)); (try (obtain ⟨hw3, hw4⟩ := hw3)); go_simp; try with_reducible rfl
          try simp only [Act.put, List.setIfInBounds_toArray, List.set_cons_zero, List.set_cons_succ]
          refine AnyT.go (rs := [15]) (by kernel_rfl) (by simp) ?_
          refine AllT.cons rfl (fun K hK => ?_) AllT.nil
          go_simp
          have E10 := Lib.hid (E9.store hpp 0 (.slice A9 (vs.length + 1) c9))
          refine hK.out _ _ ⟨HSE.out _ E10.out, fun h => Bool.noConfusion (show true = false from h)⟩ (fun hS => ?_)
          clear hK
          refine AnyT.done (by kernel_rfl) ?_ _
          clear hS hown9 hgr9 hown7 hgr7 F5 E5 F7 E7 F8 E8 E9 hb5 hb7 hb8 ho5 ho7 KP e0 e2 q0
          go_wp2_with fail
          go_roundw
          case rel =>
            refine ⟨j + 1, .slice A9 (vs.length + 1) c9, vs ++ [.slice A7 (zs.length + B2.length) c7], by omega, by go_num, ?_, E10.out⟩
            rw [HS.out]
            exact F9.out
          case measure => simp [intOf]; omega
        · have : j = A1.length := by omega
          subst this
          rw [List.take_length] at HF
          go_wp2_with fail
          obtain ⟨wa, rfl⟩ : ∃ wa : World, wa = wr := ⟨_, rfl⟩
          go_loopw [7] (fun i wr => ∃ (j : Nat) (va : Value) (vs : List Value), j ≤ A2.length ∧ i = .int .i64 j ∧ FillT w wr p va (.slice A6 (B1.length + B2.length) c6) vs (A1.map (padR B2.length) ++ (A2.take j).map (B1 ++ ·)) (B1 ++ B2) ∧ Env w wr #[.slice Xa A1.length xa, .slice Xb B1.length xb] #[.slice Ya A2.length ya, .slice Yb B2.length yb] #[.slice none 0 0, .slice none 0 0]) (fun i _ => A2.length - (intOf i).toNat)
          case atStart => exact ⟨0, _, vs, Nat.zero_le _, rfl, by simpa using HF.out, HE.out⟩
          case round =>
            obtain ⟨j, va, vs, hj, rfl, hfill, henv⟩ := hrel
            clear HF HE
            have HF := Lib.hid hfill
            have HE := Lib.hid henv
            clear hfill henv
            have q0 : wr.cell? ⟨w.heap.size + 1, 0, none⟩ = some (.slice Ya A2.length ya) := HE.out.k1.cell 0
            by_cases hlt2 : j < A2.length
            · obtain ⟨ad, u, zs, rfl, hz, hu, hc0⟩ := G3.out j hlt2
              obtain ⟨A5, c5, rfl, p1, p2, -⟩ := hu.open_
              have HU := Lib.hid (hu.below HE.out.below)
              have hzl := (HT'.out.rows zs (List.mem_of_getElem? hz)).2
              have HZI := Lib.hid (show ∀ z ∈ B1 ++ zs, In64 z from nums_in (fun z h => by rcases List.mem_append.1 h with h | h; exact HT.out.ws z h; exact (HT'.out.rows zs (List.mem_of_getElem? hz)).1 z h))
              have HS := Lib.hid (show A1.map (padR B2.length) ++ (A2.take (j + 1)).map (B1 ++ ·) = A1.map (padR B2.length) ++ (A2.take j).map (B1 ++ ·) ++ [B1 ++ zs] by rw [List.take_add_one, hz]; simp)
              have hvl : vs.length ≤ 2000 := by have := HF.out.two.rows.1; rw [List.length_append, List.length_map, List.length_map, List.length_take] at this; omega
              have hji : (j : Int) < (A2.length : Int) := by omega
              have hab : ad.block < w.heap.size := by have := World.block_lt_of_cell? w _ hc0; rwa [block_add] at this
              have HCX := Lib.hid (show ∀ W : World, Below w.heap.size w W → W.cell? (ad.add j) = some (.slice A5 zs.length c5) from fun W hW => by rw [hW.cell (by rw [block_add]; exact hab)]; exact hc0)
              clear hz hu hc0
              have HSE := Lib.hid (show ∀ W : World, Env w W #[.slice Xa A1.length xa, .slice Xb B1.length xb] #[.slice (some ad) A2.length ya, .slice Yb B2.length yb] #[.slice none 0 0, .slice none 0 0] → W.cell? ⟨w.heap.size, 1, none⟩ = some (.slice Xb B1.length xb) ∧ W.cell? ⟨w.heap.size + 1, 0, none⟩ = some (.slice (some ad) A2.length ya) ∧ W.cell? (ad.add j) = some (.slice A5 zs.length c5) from fun W hW => ⟨hW.k0.cell 1, hW.k1.cell 0, HCX.out W hW.below⟩)
              go_wp2_with fail
              refine AnyT.begin (k := 14) (S := fun b w' => (w'.cell? ⟨w.heap.size, 1, none⟩ = some (.slice Xb B1.length xb) ∧ w'.cell? ⟨w.heap.size + 1, 0, none⟩ = some (.slice (some ad) A2.length ya) ∧ w'.cell? (ad.add j) = some (.slice A5 zs.length c5)) ∧ (b = false → w'.cell? ⟨p, 0, none⟩ = some va)) (by kernel_rfl) ?_
              have hS : (fun (b : Bool) (w' : World) => (w'.cell? ⟨w.heap.size, 1, none⟩ = some (.slice Xb B1.length xb) ∧ w'.cell? ⟨w.heap.size + 1, 0, none⟩ = some (.slice (some ad) A2.length ya) ∧ w'.cell? (ad.add j) = some (.slice A5 zs.length c5)) ∧ (b = false → w'.cell? ⟨p, 0, none⟩ = some va)) false wr.drew := ⟨HSE.out wr HE.out, fun _ => HF.out.blk.cell 0⟩
              refine AnyT.take0 (i := 0) (v := ?_) rfl (by kernel_rfl) (by kernel_rfl) (by kernel_rfl) (by decide) (fun _ _ _ h => h) hS (Or.inl ⟨by first | kernel_rfl | rfl, ?_⟩) ?_
              rotate_left
              · rintro w' ⟨b, hw'⟩; obtain ⟨hw1, -⟩ := hw'; (try (obtain ⟨hw1, hw2⟩ := hw1)); (try (obtain ⟨hw2, hw3⟩ := hw2)); (try (obtain ⟨hw3, hw4⟩ := hw3)); go_simp; try with_reducible rfl
              try simp only [Act.put, List.setIfInBounds_toArray, List.set_cons_zero, List.set_cons_succ]
              refine AnyT.take1 (i := 1) (v := ?_) rfl (by kernel_rfl) (by kernel_rfl) (by kernel_rfl) (by decide) (by kernel_rfl) rfl (fun _ _ _ h => h) hS (Or.inl ⟨by first | kernel_rfl | rfl, ?_⟩) ?_
              rotate_left
              · intro w' hw'; have hw3 := hw'.2 rfl; go_simp; try with_reducible rfl
              try simp only [Act.put, List.setIfInBounds_toArray, List.set_cons_zero, List.set_cons_succ]
              refine AnyT.take0 (i := 2) (v := ?_) rfl (by kernel_rfl) (by kernel_rfl) (by kernel_rfl) (by decide) (fun _ _ _ h => h) hS (Or.inl ⟨by first | kernel_rfl | rfl, ?_⟩) ?_
              rotate_left
              · rintro w' ⟨b, hw'⟩; obtain ⟨hw1, -⟩ := hw'; (try (obtain ⟨hw1, hw2⟩ := hw1)); (try (obtain ⟨hw2, hw3⟩ := hw2)); (try (obtain ⟨hw3, hw4⟩ := hw3)); go_simp; try with_reducible rfl
              try simp only [Act.put, List.setIfInBounds_toArray, List.set_cons_zero, List.set_cons_succ]
              refine AnyT.take0 (i := 3) (v := ?_) rfl (by kernel_rfl) (by kernel_rfl) (by kernel_rfl) (by decide) (fun _ _ _ h => h) hS (Or.inl ⟨by first | kernel_rfl | rfl, ?_⟩) ?_
              rotate_left
              · rintro w' ⟨b, hw'⟩; obtain ⟨hw1, -⟩ := hw'; (try (obtain ⟨hw1, hw2⟩ := hw1)); (try (obtain ⟨hw2, hw3⟩ := hw2)); (try (obtain ⟨hw3, hw4⟩ := hw3)); go_simp; try with_reducible rfl
              try simp only [Act.put, List.setIfInBounds_toArray, List.set_cons_zero, List.set_cons_succ]
              refine AnyT.take0 (i := 5) (v := ?_) rfl (by kernel_rfl) (by kernel_rfl) (by kernel_rfl) (by decide) (fun _ _ _ h => h) hS (Or.inl ⟨by first | kernel_rfl | rfl, ?_⟩) ?_
              rotate_left
              · rintro w' ⟨b, hw'⟩; obtain ⟨hw1, -⟩ := hw'; (try (obtain ⟨hw1, hw2⟩ := hw1)); (try (obtain ⟨hw2, hw3⟩ := hw2)); (try (obtain ⟨hw3, hw4⟩ := hw3)); go_simp; try with_reducible rfl
              try simp only [Act.put, List.setIfInBounds_toArray, List.set_cons_zero, List.set_cons_succ]
              refine AnyT.take0 (i := 6) (v := ?_) rfl (by kernel_rfl) (by kernel_rfl) (by kernel_rfl) (by decide) (fun _ _ _ h => h) hS (Or.inl ⟨by first | kernel_rfl | rfl, ?_⟩) ?_
              rotate_left
              · rintro w' ⟨b, hw'⟩; obtain ⟨hw1, -⟩ := hw'; (try (obtain ⟨hw1, hw2⟩ := hw1)); (try (obtain ⟨hw2, hw3⟩ := hw2)); (try (obtain ⟨hw3, hw4⟩ := hw3)); go_simp; try with_reducible rfl
              try simp only [Act.put, List.setIfInBounds_toArray, List.set_cons_zero, List.set_cons_succ]
              refine AnyT.take0 (i := 7) (v := ?_) rfl (by kernel_rfl) (by kernel_rfl) (by kernel_rfl) (by decide) (fun _ _ _ h => h) hS (Or.inl ⟨by first | kernel_rfl | rfl, ?_⟩) ?_
              rotate_left
              · rintro w' ⟨b, hw'⟩; obtain ⟨hw1, -⟩ := hw'; (try (obtain ⟨hw1, hw2⟩ := hw1)); (try (obtain ⟨hw2, hw3⟩ := hw2)); (try (obtain ⟨hw3, hw4⟩ := hw3)); go_simp; try with_reducible rfl
              try simp only [Act.put, List.setIfInBounds_toArray, List.set_cons_zero, List.set_cons_succ]
              refine AnyT.take0 (i := 8) (v := ?_) rfl (by kernel_rfl) (by kernel_rfl) (by kernel_rfl) (by decide) (fun _ _ _ h => h) hS (Or.inl ⟨by first | kernel_rfl | rfl, ?_⟩) ?_
              rotate_left
              · rintro w' ⟨b, hw'⟩; obtain ⟨hw1, -⟩ := hw'; (try (obtain ⟨hw1, hw2⟩ := hw1)); (try (obtain ⟨hw2, hw3⟩ := hw2)); (try (obtain ⟨hw3, hw4⟩ := hw3)); go_simp; try with_reducible rfl
              try simp only [Act.put, List.setIfInBounds_toArray, List.set_cons_zero, List.set_cons_succ]
              refine AnyT.take0 (i := 9) (v := ?_) rfl (by kernel_rfl) (by kernel_rfl) (by kernel_rfl) (by decide) (fun _ _ _ h => h) hS (Or.inl ⟨by first | kernel_rfl | rfl, ?_⟩) ?_
              rotate_left
              · rintro w' ⟨b, hw'⟩; obtain ⟨hw1, -⟩ := hw'; (try (obtain ⟨hw1, hw2⟩ := hw1)); (try (obtain ⟨hw2, hw3⟩ := hw2)); (try (obtain ⟨hw3, hw4⟩ := hw3)); go_simp; try with_reducible rfl
              try simp only [Act.put, List.setIfInBounds_toArray, List.set_cons_zero, List.set_cons_succ]
              refine AnyT.go (rs := [4]) (by kernel_rfl) (by simp) ?_
              refine AllT.cons rfl (fun K hK => ?_) AllT.nil
              go_simp
              refine (s_l01Own _ _ B1 (by exact HB.out.below HE.out.below.drew) (by omega)).mono ?_
              rintro e w5 ⟨v5, rfl, ho5, hb5w⟩
              have hb5 : Below wr.heap.size wr w5 := below_of_drew hb5w
              have F5 := HF.out.step hb5
              have E5 := HE.out.step hb5
              refine hK.out _ _ ⟨HSE.out _ E5, fun _ => F5.blk.cell 0⟩ (fun hS => ?_)
              clear hK
              try simp only [Act.put, List.setIfInBounds_toArray, List.set_cons_zero, List.set_cons_succ]
              refine AnyT.go (rs := [10]) (by kernel_rfl) (by simp) ?_
              refine AllT.cons rfl (fun K hK => ?_) AllT.nil
              refine step_appN T_int (W := w5) (B := wr.heap.size) ho5.1 (HU.out.below hb5).1 (by rw [ints_len, ints_len]; omega) hb5.size (ints_oneC _) rfl (by rfl) (by rfl) (by rfl) ?_
              intro v7 w7 hown7 hgr7
              have hb7 : Below wr.heap.size wr w7 := hgr7.below hb5 hb5.size ho5.1.ge
              have F7 := HF.out.step hb7
              have E7 := HE.out.step hb7
              have ho7 : OwnInts w7 wr.heap.size tI v7 (B1 ++ zs) := ⟨by simpa [ints] using hown7, HZI.out⟩
              obtain ⟨A7, c7, hv7, -, -, -⟩ := ho7.ints.open_
              rw [List.length_append] at hv7
              subst hv7
              refine hK.out _ _ ⟨HSE.out _ E7, fun _ => F7.blk.cell 0⟩ (fun hS => ?_)
              clear hK
              try simp only [Act.put, List.setIfInBounds_toArray, List.set_cons_zero, List.set_cons_succ]
              refine AnyT.go (rs := [11]) (by kernel_rfl) (by simp) ?_
              refine AllT.cons rfl (fun K hK => ?_) AllT.nil
              go_simp
              have hb8 : Below wr.heap.size wr (w7.alloc (.cells #[.slice A7 (B1.length + zs.length) c7] tL)) := hb7.alloc hb7.size _
              have F8 := HF.out.step hb8
              have E8 := HE.out.step hb8
              refine hK.out _ _ ⟨HSE.out _ E8, fun _ => F8.blk.cell 0⟩ (fun hS => ?_)
              clear hK
              try simp only [Act.put, List.setIfInBounds_toArray, List.set_cons_zero, List.set_cons_succ]
              refine AnyT.go (rs := [12]) (by kernel_rfl) (by simp) ?_
              refine AllT.cons rfl (fun K hK => ?_) AllT.nil
              refine step_app1g T_row (B := w.heap.size + 1) (v := va) (vs := vs) (W := w7.alloc (.cells #[.slice A7 (B1.length + zs.length) c7] tL)) (u := .slice A7 (B1.length + zs.length) c7) (ad := ⟨w7.heap.size, 0, none⟩) F8.two.own (by omega) (by have := F8.blk.lt; have := F8.ge; omega) (by rfl) rfl (by rfl) (by rfl) (by rfl) ((Blk.new w7 _ _).cell 0) ?_
              intro v9 w9 hown9 hgr9
              obtain ⟨A9, c9, hv9, -, -⟩ := hown9.cells.open_
              rw [show (vs ++ [Value.slice A7 (B1.length + zs.length) c7]).length = vs.length + 1 from by simp] at hv9
              subst hv9
              have F9 := Lib.hid (HF.out.next hb8 (ho7.below (below1 _ _)) hown9 hgr9)
              have E9 := E8.grow F8.two.own (by decide) (by omega) hgr9
              have KP := F8.blk.grow hgr9 F8.npA
              have e0 : w9.cell? ⟨p, 0, none⟩ = some va := KP.cell 0
              have e2 : w9.frozen? ⟨p, 0, none⟩ = false := KP.frozen 0
              refine hK.out _ _ ⟨HSE.out _ E9, fun _ => e0⟩ (fun hS => ?_)
              clear hK
              try simp only [Act.put, List.setIfInBounds_toArray, List.set_cons_zero, List.set_cons_succ]
              refine AnyT.take0 (i := 13) (v := ?_) rfl (by kernel_rfl) (by kernel_rfl) (by kernel_rfl) (by decide) (fun _ _ _ h => h) hS (Or.inl ⟨by first | kernel_rfl | rfl, ?_⟩) ?_
              rotate_left
              · rintro w' ⟨b, hw'⟩; obtain ⟨hw1, -⟩ := hw'; (try (obtain ⟨hw1, hw2⟩ := hw1)); (try (obtain ⟨hw2, hw3⟩ := hw2)); (try (obtain ⟨hw3, hw4⟩ := hw3)); go_simp; try with_reducible rfl
              try simp only [Act.put, List.setIfInBounds_toArray, List.set_cons_zero, List.set_cons_succ]
              refine AnyT.go (rs := [14]) (by kernel_rfl) (by simp) ?_
              refine AllT.cons rfl (fun K hK => ?_) AllT.nil
              go_simp
              have E10 := Lib.hid (E9.store hpp 0 (.slice A9 (vs.length + 1) c9))
              refine hK.out _ _ ⟨HSE.out _ E10.out, fun h => Bool.noConfusion (show true = false from h)⟩ (fun hS => ?_)
              clear hK
              refine AnyT.done (by kernel_rfl) ?_ _
              clear hS hown9 hgr9 hown7 hgr7 F5 E5 F7 E7 F8 E8 E9 hb5 hb7 hb8 ho5 ho7 KP e0 e2 q0
              go_wp2_with fail
              go_roundw
              case rel =>
                refine ⟨j + 1, .slice A9 (vs.length + 1) c9, vs ++ [.slice A7 (B1.length + zs.length) c7], by omega, by go_num, ?_, E10.out⟩
                rw [HS.out]
                exact F9.out
              case measure => simp [intOf]; omega
            · have : j = A2.length := by omega
              subst this
              rw [List.take_length] at HF
              obtain ⟨A7, c7, hv7, -, -⟩ := HF.out.two.own.cells.open_
              have hvl : vs.length = A1.length + A2.length := by have := HF.out.two.rows.1; simpa using this
              rw [hvl] at hv7
              subst hv7
              have e0 : wr.cell? ⟨p, 0, none⟩ = some (.slice A7 (A1.length + A2.length) c7) := HF.out.blk.cell 0
              have e1 : wr.cell? ⟨p, 1, none⟩ = some (.slice A6 (B1.length + B2.length) c6) := HF.out.blk.cell 1
              have f0 : wr.cell? ⟨w.heap.size + 1 + 1, 0, none⟩ = some (.slice none 0 0) := HE.out.k2.cell 0
              have f1 : wr.cell? ⟨w.heap.size + 1 + 1, 1, none⟩ = some (.slice none 0 0) := HE.out.k2.cell 1
              have f2 := HE.out.k2.frozen 0
              have f3 := HE.out.k2.frozen 1
              have HTW := Lib.hid ((HF.out.two.storeAt HE.out.k2 (by decide) (by decide) 0 (.slice A7 (A1.length + A2.length) c7)).storeAt (HE.out.k2.set_ 0 (.slice A7 (A1.length + A2.length) c7)) (by decide) (by decide) 1 (.slice A6 (B1.length + B2.length) c6))
              have HBE := Lib.hid (HE.out.below)
              clear hvl
              go_wp2_with fail
              refine bodyPost_ret (v := .agg #[.slice A7 (A1.length + A2.length) c7, (.slice A6 (B1.length + B2.length) c6)]) (by simp [results, Tryz.results104, go_sem, f0, f1]) rfl ⟨_, rfl, HTW.out.tab.mono (by omega) (Nat.le_refl _), (HBE.out.setCell (p := ⟨w.heap.size + 1 + 1, 0, none⟩) (by show _ ≤ w.heap.size + 1 + 1; omega) _).setCell (p := ⟨w.heap.size + 1 + 1, 1, none⟩) (by show _ ≤ w.heap.size + 1 + 1; omega) _⟩
  · go_simp
    have hb7 : Below w1.heap.size w1 (w1.drew.alloc (.cells #[.slice none 0 0, .slice none 0 0] 45)) := ((Below.refl w1.heap.size w1).drew).alloc (by exact Nat.le_refl _) _
    refine hK.out _ _ ⟨HSB.out _ hb7, trivial⟩ (fun hS => ?_)
    clear hK
    try simp only [Act.put, List.setIfInBounds_toArray, List.set_cons_zero, List.set_cons_succ]
    refine AnyT.go (rs := [2]) (by kernel_rfl) (by simp) ?_
    refine AllT.cons rfl (fun K hK => ?_) AllT.nil
    go_simp
    refine (s_l01Own _ _ B1 (by exact HB.out.below (B0.out.trans ((hb7).mono B0.out.size))) (by omega)).mono ?_
    rintro e w5 ⟨v5, rfl, ho5, hb5w⟩
    have hb5 : Below w1.heap.size w1 w5 := (hb7).trans (hb5w.mono (by simp))
    have hoA := ho5
    have ho5 := ho5.mono (B' := w1.heap.size) (by simp)
    refine hK.out _ _ ⟨HSB.out _ hb5, trivial⟩ (fun hS => ?_)
    clear hK
    try simp only [Act.put, List.setIfInBounds_toArray, List.set_cons_zero, List.set_cons_succ]
    refine AnyT.go (rs := [5]) (by kernel_rfl) (by simp) ?_
    refine AllT.cons rfl (fun K hK => ?_) AllT.nil
    refine step_appN T_int (B := w1.heap.size) (W := w5) ho5.1 (HB'.out.below (B0.out.trans ((hb5).mono B0.out.size))).1 (by rw [ints_len, ints_len]; omega) hb5.size (ints_oneC _) rfl (by rfl) (by rfl) (by rfl) ?_
    intro v6 w6 hown6 hgr6
    have hb6 : Below w1.heap.size w1 w6 := hgr6.below (hb5) hb5.size ho5.1.ge
    obtain ⟨A6, c6, hv6, -, -⟩ := hown6.cells.open_
    simp only [List.length_append, ints_len] at hv6
    subst hv6
    refine hK.out _ _ ⟨HSB.out _ hb6, trivial⟩ (fun hS => ?_)
    clear hK
    try simp only [Act.put, List.setIfInBounds_toArray, List.set_cons_zero, List.set_cons_succ]
    refine AnyT.take0 (i := 6) (v := ?_) rfl (by kernel_rfl) (by kernel_rfl) (by kernel_rfl) (by decide) (fun _ _ _ h => h) hS (Or.inl ⟨by first | kernel_rfl | rfl, ?_⟩) ?_
    rotate_left
    · rintro w' ⟨b, hw'⟩; obtain ⟨hw1, -⟩ := hw'; (try (obtain ⟨hw1, hw2⟩ := hw1)); (try (obtain ⟨hw2, hw3⟩ := hw2)); (try (obtain ⟨hw3, hw4⟩ := hw3)); go_simp; try with_reducible rfl
    try simp only [Act.put, List.setIfInBounds_toArray, List.set_cons_zero, List.set_cons_succ]
    refine AnyT.go (rs := [8]) (by kernel_rfl) (by simp) ?_
    refine AllT.cons rfl (fun K hK => ?_) AllT.nil
    have KP : Blk w6 w1.heap.size 45 #[.slice none 0 0, .slice none 0 0] := ((Blk.new w1.drew _ _).below hb5w (by simp)).grow hgr6 (fun e => by have := hoA.1.ge _ e; simp at this; omega)
    have e0 : (w6).cell? ⟨w1.heap.size, 0, none⟩ = some (.slice none 0 0) := KP.cell 0
    have e1 : (w6).cell? ⟨w1.heap.size, 1, none⟩ = some (.slice none 0 0) := KP.cell 1
    have e2 : (w6).frozen? ⟨w1.heap.size, 0, none⟩ = false := KP.frozen 0
    have e3 : (w6).frozen? ⟨w1.heap.size, 1, none⟩ = false := KP.frozen 1
    have HBW := Lib.hid (show Below w.heap.size w w6 from B0.out.trans ((hb6).mono B0.out.size))
    have hpp : w.heap.size + 1 + 1 < w1.heap.size := by omega
    have HF := Lib.hid (FillT.init (w0 := w) (show Two w6 (w.heap.size + 1) (.slice none 0 0) (.slice A6 (B1.length + B2.length) c6) [] [] (B1 ++ B2) from ⟨Own.nil _ _ _, RowsOwn.nil _ _ _ _, ⟨by have h := hown6; simpa [ints] using h.mono (B' := w.heap.size + 1) (by omega), HIN.out⟩, fun k u hu => by simp at hu⟩) KP HBW.out (by omega))
    have HE := Lib.hid ((HE1.out.step (hb6)).store hpp 0 (.slice none 0 0) |>.store hpp 1 (.slice A6 (B1.length + B2.length) c6))
    have hbs : Below w1.heap.size w1 (((w6).setCell ⟨w1.heap.size, 0, none⟩ (.slice none 0 0)).setCell ⟨w1.heap.size, 1, none⟩ (.slice A6 (B1.length + B2.length) c6)) := ((hb6).setCell (p := ⟨w1.heap.size, 0, none⟩) (by exact Nat.le_refl _) _).setCell (p := ⟨w1.heap.size, 1, none⟩) (by exact Nat.le_refl _) _
    go_simp
    refine hK.out _ _ ⟨HSB.out _ hbs, trivial⟩ (fun hS => ?_)
    clear hK KP e0 e1 e2 e3 HBW hbs
    refine AnyT.done (by kernel_rfl) ?_ _
    generalize (((w6).setCell ⟨w1.heap.size, 0, none⟩ (.slice none 0 0)).setCell ⟨w1.heap.size, 1, none⟩ (.slice A6 (B1.length + B2.length) c6)) = w4 at HF HE ⊢
    clear hown6 hgr6 hb6 hb5 ho5
    generalize w1.heap.size = p at HF HE hpp ⊢
    clear HSB
    go_wp2_with fail
    go_loopw [6] (fun i wr => ∃ (j : Nat) (va : Value) (vs : List Value), j ≤ A1.length ∧ i = .int .i64 j ∧ FillT w wr p va (.slice A6 (B1.length + B2.length) c6) vs ((A1.take j).map (padR B2.length)) (B1 ++ B2) ∧ Env w wr #[.slice Xa A1.length xa, .slice Xb B1.length xb] #[.slice Ya A2.length ya, .slice Yb B2.length yb] #[.slice none 0 0, .slice none 0 0]) (fun i _ => A1.length - (intOf i).toNat)
    case atStart => exact ⟨0, _, [], Nat.zero_le _, rfl, HF.out, HE.out⟩
    case round =>
      obtain ⟨j, va, vs, hj, rfl, hfill, henv⟩ := hrel
      clear HF HE
      have HF := Lib.hid hfill
      have HE := Lib.hid henv
      clear hfill henv
      have q0 : wr.cell? ⟨w.heap.size, 0, none⟩ = some (.slice Xa A1.length xa) := HE.out.k0.cell 0
      by_cases hlt : j < A1.length
      · obtain ⟨ad, u, zs, rfl, hz, hu, hc0⟩ := H3.out j hlt
        obtain ⟨A5, c5, rfl, p1, p2, -⟩ := hu.open_
        have HU := Lib.hid (hu.below HE.out.below)
        have hzl := (HT.out.rows zs (List.mem_of_getElem? hz)).2
        have HZI := Lib.hid (show ∀ z ∈ padR B2.length zs, In64 z from nums_in (fun z h => by rcases List.mem_append.1 h with h | h; exact (HT.out.rows zs (List.mem_of_getElem? hz)).1 z h; have := (List.mem_replicate.1 h).2; omega))
        have HS := Lib.hid (show (A1.take (j + 1)).map (padR B2.length) = (A1.take j).map (padR B2.length) ++ [padR B2.length zs] by rw [List.take_add_one, hz]; simp)
        have hvl : vs.length ≤ 1000 := by have := HF.out.two.rows.1; rw [List.length_map, List.length_take] at this; omega
        have hji : (j : Int) < (A1.length : Int) := by omega
        have hab : ad.block < w.heap.size := by have := World.block_lt_of_cell? w _ hc0; rwa [block_add] at this
        have HCX := Lib.hid (show ∀ W : World, Below w.heap.size w W → W.cell? (ad.add j) = some (.slice A5 zs.length c5) from fun W hW => by rw [hW.cell (by rw [block_add]; exact hab)]; exact hc0)
        clear hz hu hc0
        have HSE := Lib.hid (show ∀ W : World, Env w W #[.slice (some ad) A1.length xa, .slice Xb B1.length xb] #[.slice Ya A2.length ya, .slice Yb B2.length yb] #[.slice none 0 0, .slice none 0 0] → W.cell? ⟨w.heap.size, 0, none⟩ = some (.slice (some ad) A1.length xa) ∧ W.cell? (ad.add j) = some (.slice A5 zs.length c5) ∧ W.cell? ⟨w.heap.size + 1, 1, none⟩ = some (.slice Yb B2.length yb) from fun W hW => ⟨hW.k0.cell 0, HCX.out W hW.below, hW.k1.cell 1⟩)
        go_wp2_with fail
        refine AnyT.begin (k := 15) (S := fun b w' => (w'.cell? ⟨w.heap.size, 0, none⟩ = some (.slice (some ad) A1.length xa) ∧ w'.cell? (ad.add j) = some (.slice A5 zs.length c5) ∧ w'.cell? ⟨w.heap.size + 1, 1, none⟩ = some (.slice Yb B2.length yb)) ∧ (b = false → w'.cell? ⟨p, 0, none⟩ = some va)) (by kernel_rfl) ?_
        have hS : (fun (b : Bool) (w' : World) => (w'.cell? ⟨w.heap.size, 0, none⟩ = some (.slice (some ad) A1.length xa) ∧ w'.cell? (ad.add j) = some (.slice A5 zs.length c5) ∧ w'.cell? ⟨w.heap.size + 1, 1, none⟩ = some (.slice Yb B2.length yb)) ∧ (b = false → w'.cell? ⟨p, 0, none⟩ = some va)) false wr.drew := ⟨HSE.out wr HE.out, fun _ => HF.out.blk.cell 0⟩
        refine AnyT.take0 (i := 0) (v := ?_) rfl (by kernel_rfl) (by kernel_rfl) (by kernel_rfl) (by decide) (fun _ _ _ h => h) hS (Or.inl ⟨by first | kernel_rfl | rfl, ?_⟩) ?_
        rotate_left
        · rintro w' ⟨b, hw'⟩; obtain ⟨hw1, -⟩ := hw'; (try (obtain ⟨hw1, hw2⟩ := hw1)); (try (obtain ⟨hw2, hw3⟩ := hw2)); (try (obtain ⟨hw3, hw4⟩ := hw3)); go_simp; try with_reducible rfl
        try simp only [Act.put, List.setIfInBounds_toArray, List.set_cons_zero, List.set_cons_succ]
        refine AnyT.take1 (i := 1) (v := ?_) rfl (by kernel_rfl) (by kernel_rfl) (by kernel_rfl) (by decide) (by kernel_rfl) rfl (fun _ _ _ h => h) hS (Or.inl ⟨by first | kernel_rfl | rfl, ?_⟩) ?_
        rotate_left
        · intro w' hw'; have hw3 := hw'.2 rfl; go_simp; try with_reducible rfl
        try simp only [Act.put, List.setIfInBounds_toArray, List.set_cons_zero, List.set_cons_succ]
        refine AnyT.take0 (i := 2) (v := ?_) rfl (by kernel_rfl) (by kernel_rfl) (by kernel_rfl) (by decide) (fun _ _ _ h => h) hS (Or.inl ⟨by first | kernel_rfl | rfl, ?_⟩) ?_
        rotate_left
        · rintro w' ⟨b, hw'⟩; obtain ⟨hw1, -⟩ := hw'; (try (obtain ⟨hw1, hw2⟩ := hw1)); (try (obtain ⟨hw2, hw3⟩ := hw2)); (try (obtain ⟨hw3, hw4⟩ := hw3)); go_simp; try with_reducible rfl
        try simp only [Act.put, List.setIfInBounds_toArray, List.set_cons_zero, List.set_cons_succ]
        refine AnyT.take0 (i := 3) (v := ?_) rfl (by kernel_rfl) (by kernel_rfl) (by kernel_rfl) (by decide) (fun _ _ _ h => h) hS (Or.inl ⟨by first | kernel_rfl | rfl, ?_⟩) ?_
        rotate_left
        · rintro w' ⟨b, hw'⟩; obtain ⟨hw1, -⟩ := hw'; (try (obtain ⟨hw1, hw2⟩ := hw1)); (try (obtain ⟨hw2, hw3⟩ := hw2)); (try (obtain ⟨hw3, hw4⟩ := hw3)); go_simp; try with_reducible rfl
        try simp only [Act.put, List.setIfInBounds_toArray, List.set_cons_zero, List.set_cons_succ]
        refine AnyT.take0 (i := 4) (v := ?_) rfl (by kernel_rfl) (by kernel_rfl) (by kernel_rfl) (by decide) (fun _ _ _ h => h) hS (Or.inl ⟨by first | kernel_rfl | rfl, ?_⟩) ?_
        rotate_left
        · rintro w' ⟨b, hw'⟩; obtain ⟨hw1, -⟩ := hw'; (try (obtain ⟨hw1, hw2⟩ := hw1)); (try (obtain ⟨hw2, hw3⟩ := hw2)); (try (obtain ⟨hw3, hw4⟩ := hw3)); go_simp; try with_reducible rfl
        try simp only [Act.put, List.setIfInBounds_toArray, List.set_cons_zero, List.set_cons_succ]
        refine AnyT.take0 (i := 5) (v := ?_) rfl (by kernel_rfl) (by kernel_rfl) (by kernel_rfl) (by decide) (fun _ _ _ h => h) hS (Or.inl ⟨by first | kernel_rfl | rfl, ?_⟩) ?_
        rotate_left
        · rintro w' ⟨b, hw'⟩; obtain ⟨hw1, -⟩ := hw'; (try (obtain ⟨hw1, hw2⟩ := hw1)); (try (obtain ⟨hw2, hw3⟩ := hw2)); (try (obtain ⟨hw3, hw4⟩ := hw3)); go_simp; try with_reducible rfl
        try simp only [Act.put, List.setIfInBounds_toArray, List.set_cons_zero, List.set_cons_succ]
        refine AnyT.take0 (i := 6) (v := ?_) rfl (by kernel_rfl) (by kernel_rfl) (by kernel_rfl) (by decide) (fun _ _ _ h => h) hS (Or.inl ⟨by first | kernel_rfl | rfl, ?_⟩) ?_
        rotate_left
        · rintro w' ⟨b, hw'⟩; obtain ⟨hw1, -⟩ := hw'; (try (obtain ⟨hw1, hw2⟩ := hw1)); (try (obtain ⟨hw2, hw3⟩ := hw2)); (try (obtain ⟨hw3, hw4⟩ := hw3)); go_simp; try with_reducible rfl
        try simp only [Act.put, List.setIfInBounds_toArray, List.set_cons_zero, List.set_cons_succ]
        refine AnyT.take0 (i := 8) (v := ?_) rfl (by kernel_rfl) (by kernel_rfl) (by kernel_rfl) (by decide) (fun _ _ _ h => h) hS (Or.inl ⟨by first | kernel_rfl | rfl, ?_⟩) ?_
        rotate_left
        · rintro w' ⟨b, hw'⟩; obtain ⟨hw1, -⟩ := hw'; (try (obtain ⟨hw1, hw2⟩ := hw1)); (try (obtain ⟨hw2, hw3⟩ := hw2)); (try (obtain ⟨hw3, hw4⟩ := hw3)); go_simp; try with_reducible rfl
        try simp only [Act.put, List.setIfInBounds_toArray, List.set_cons_zero, List.set_cons_succ]
        refine AnyT.take0 (i := 9) (v := ?_) rfl (by kernel_rfl) (by kernel_rfl) (by kernel_rfl) (by decide) (fun _ _ _ h => h) hS (Or.inl ⟨by first | kernel_rfl | rfl, ?_⟩) ?_
        rotate_left
        · rintro w' ⟨b, hw'⟩; obtain ⟨hw1, -⟩ := hw'; (try (obtain ⟨hw1, hw2⟩ := hw1)); (try (obtain ⟨hw2, hw3⟩ := hw2)); (try (obtain ⟨hw3, hw4⟩ := hw3)); go_simp; try with_reducible rfl
        try simp only [Act.put, List.setIfInBounds_toArray, List.set_cons_zero, List.set_cons_succ]
        refine AnyT.take0 (i := 10) (v := ?_) rfl (by kernel_rfl) (by kernel_rfl) (by kernel_rfl) (by decide) (fun _ _ _ h => h) hS (Or.inl ⟨by first | kernel_rfl | rfl, ?_⟩) ?_
        rotate_left
        · rintro w' ⟨b, hw'⟩; obtain ⟨hw1, -⟩ := hw'; (try (obtain ⟨hw1, hw2⟩ := hw1)); (try (obtain ⟨hw2, hw3⟩ := hw2)); (try (obtain ⟨hw3, hw4⟩ := hw3)); go_simp; try with_reducible rfl
        try simp only [Act.put, List.setIfInBounds_toArray, List.set_cons_zero, List.set_cons_succ]
        refine AnyT.go (rs := [7]) (by kernel_rfl) (by simp) ?_
        refine AllT.cons rfl (fun K hK => ?_) AllT.nil
        go_simp
        refine (s_l01Own _ _ zs (by exact HU.out) (by omega)).mono ?_
        rintro e w5 ⟨v5, rfl, ho5, hb5w⟩
        have hb5 : Below wr.heap.size wr w5 := below_of_drew hb5w
        have F5 := HF.out.step hb5
        have E5 := HE.out.step hb5
        refine hK.out _ _ ⟨HSE.out _ E5, fun _ => F5.blk.cell 0⟩ (fun hS => ?_)
        clear hK
        try simp only [Act.put, List.setIfInBounds_toArray, List.set_cons_zero, List.set_cons_succ]
        refine AnyT.go (rs := [11]) (by kernel_rfl) (by simp) ?_
        refine AllT.cons rfl (fun K hK => ?_) AllT.nil
        refine step_appZ (W := w5) (B := wr.heap.size) (k := B2.length) ho5.1 (by omega) (by rw [ints_len]; omega) hb5.size (by rfl) (by rfl) (by rfl) (by rfl) ?_
        intro v7 w7 hown7 hgr7
        have hb7 : Below wr.heap.size wr w7 := hgr7.below hb5 hb5.size ho5.1.ge
        have F7 := HF.out.step hb7
        have E7 := HE.out.step hb7
        have ho7 : OwnInts w7 wr.heap.size tI v7 (padR B2.length zs) := ⟨by simpa [padR, ints] using hown7, HZI.out⟩
        obtain ⟨A7, c7, hv7, -, -, -⟩ := ho7.ints.open_
        rw [show (padR B2.length zs).length = zs.length + B2.length from by simp [padR]] at hv7
        subst hv7
        refine hK.out _ _ ⟨HSE.out _ E7, fun _ => F7.blk.cell 0⟩ (fun hS => ?_)
        clear hK
        try simp only [Act.put, List.setIfInBounds_toArray, List.set_cons_zero, List.set_cons_succ]
        refine AnyT.go (rs := [12]) (by kernel_rfl) (by simp) ?_
        refine AllT.cons rfl (fun K hK => ?_) AllT.nil
        go_simp
        have hb8 : Below wr.heap.size wr (w7.alloc (.cells #[.slice A7 (zs.length + B2.length) c7] tL)) := hb7.alloc hb7.size _
        have F8 := HF.out.step hb8
        have E8 := HE.out.step hb8
        refine hK.out _ _ ⟨HSE.out _ E8, fun _ => F8.blk.cell 0⟩ (fun hS => ?_)
        clear hK
        try simp only [Act.put, List.setIfInBounds_toArray, List.set_cons_zero, List.set_cons_succ]
        refine AnyT.go (rs := [13]) (by kernel_rfl) (by simp) ?_
        refine AllT.cons rfl (fun K hK => ?_) AllT.nil
        refine step_app1g T_row (B := w.heap.size + 1) (v := va) (vs := vs) (W := w7.alloc (.cells #[.slice A7 (zs.length + B2.length) c7] tL)) (u := .slice A7 (zs.length + B2.length) c7) (ad := ⟨w7.heap.size, 0, none⟩) F8.two.own (by omega) (by have := F8.blk.lt; have := F8.ge; omega) (by rfl) rfl (by rfl) (by rfl) (by rfl) ((Blk.new w7 _ _).cell 0) ?_
        intro v9 w9 hown9 hgr9
        obtain ⟨A9, c9, hv9, -, -⟩ := hown9.cells.open_
        rw [show (vs ++ [Value.slice A7 (zs.length + B2.length) c7]).length = vs.length + 1 from by simp] at hv9
        subst hv9
        have F9 := Lib.hid (HF.out.next hb8 (ho7.below (below1 _ _)) hown9 hgr9)
        have E9 := E8.grow F8.two.own (by decide) (by omega) hgr9
        have KP := F8.blk.grow hgr9 F8.npA
        have e0 : w9.cell? ⟨p, 0, none⟩ = some va := KP.cell 0
        have e2 : w9.frozen? ⟨p, 0, none⟩ = false := KP.frozen 0
        refine hK.out _ _ ⟨HSE.out _ E9, fun _ => e0⟩ (fun hS => ?_)
        clear hK
        try simp only [Act.put, List.setIfInBounds_toArray, List.set_cons_zero, List.set_cons_succ]
        refine AnyT.take0 (i := 14) (v := ?_) rfl (by kernel_rfl) (by kernel_rfl) (by kernel_rfl) (by decide) (fun _ _ _ h => h) hS (Or.inl ⟨by first | kernel_rfl | rfl, ?_⟩) ?_
        rotate_left
        · rintro w' ⟨b, hw'⟩; obtain ⟨hw1, -⟩ := hw'; (try (obtain ⟨hw1, hw2⟩ := hw1)); (try (obtain ⟨hw2, hw3⟩ := hw2)); (try (obtain ⟨hw3, hw4⟩ := hw3)); go_simp; try with_reducible rfl
        try simp only [Act.put, List.setIfInBounds_toArray, List.set_cons_zero, List.set_cons_succ]
        refine AnyT.go (rs := [15]) (by kernel_rfl) (by simp) ?_
        refine AllT.cons rfl (fun K hK => ?_) AllT.nil
        go_simp
        have E10 := Lib.hid (E9.store hpp 0 (.slice A9 (vs.length + 1) c9))
        refine hK.out _ _ ⟨HSE.out _ E10.out, fun h => Bool.noConfusion (show true = false from h)⟩ (fun hS => ?_)
        clear hK
        refine AnyT.done (by kernel_rfl) ?_ _
        clear hS hown9 hgr9 hown7 hgr7 F5 E5 F7 E7 F8 E8 E9 hb5 hb7 hb8 ho5 ho7 KP e0 e2 q0
        go_wp2_with fail
        go_roundw
        case rel =>
          refine ⟨j + 1, .slice A9 (vs.length + 1) c9, vs ++ [.slice A7 (zs.length + B2.length) c7], by omega, by go_num, ?_, E10.out⟩
          rw [HS.out]
          exact F9.out
        case measure => simp [intOf]; omega
      · have : j = A1.length := by omega
        subst this
        rw [List.take_length] at HF
        go_wp2_with fail
        obtain ⟨wa, rfl⟩ : ∃ wa : World, wa = wr := ⟨_, rfl⟩
        go_loopw [7] (fun i wr => ∃ (j : Nat) (va : Value) (vs : List Value), j ≤ A2.length ∧ i = .int .i64 j ∧ FillT w wr p va (.slice A6 (B1.length + B2.length) c6) vs (A1.map (padR B2.length) ++ (A2.take j).map (B1 ++ ·)) (B1 ++ B2) ∧ Env w wr #[.slice Xa A1.length xa, .slice Xb B1.length xb] #[.slice Ya A2.length ya, .slice Yb B2.length yb] #[.slice none 0 0, .slice none 0 0]) (fun i _ => A2.length - (intOf i).toNat)
        case atStart => exact ⟨0, _, vs, Nat.zero_le _, rfl, by simpa using HF.out, HE.out⟩
        case round =>
          obtain ⟨j, va, vs, hj, rfl, hfill, henv⟩ := hrel
          clear HF HE
          have HF := Lib.hid hfill
          have HE := Lib.hid henv
          clear hfill henv
          have q0 : wr.cell? ⟨w.heap.size + 1, 0, none⟩ = some (.slice Ya A2.length ya) := HE.out.k1.cell 0
          by_cases hlt2 : j < A2.length
          · obtain ⟨ad, u, zs, rfl, hz, hu, hc0⟩ := G3.out j hlt2
            obtain ⟨A5, c5, rfl, p1, p2, -⟩ := hu.open_
            have HU := Lib.hid (hu.below HE.out.below)
            have hzl := (HT'.out.rows zs (List.mem_of_getElem? hz)).2
            have HZI := Lib.hid (show ∀ z ∈ B1 ++ zs, In64 z from nums_in (fun z h => by rcases List.mem_append.1 h with h | h; exact HT.out.ws z h; exact (HT'.out.rows zs (List.mem_of_getElem? hz)).1 z h))
            have HS := Lib.hid (show A1.map (padR B2.length) ++ (A2.take (j + 1)).map (B1 ++ ·) = A1.map (padR B2.length) ++ (A2.take j).map (B1 ++ ·) ++ [B1 ++ zs] by rw [List.take_add_one, hz]; simp)
            have hvl : vs.length ≤ 2000 := by have := HF.out.two.rows.1; rw [List.length_append, List.length_map, List.length_map, List.length_take] at this; omega
            have hji : (j : Int) < (A2.length : Int) := by omega
            have hab : ad.block < w.heap.size := by have := World.block_lt_of_cell? w _ hc0; rwa [block_add] at this
            have HCX := Lib.hid (show ∀ W : World, Below w.heap.size w W → W.cell? (ad.add j) = some (.slice A5 zs.length c5) from fun W hW => by rw [hW.cell (by rw [block_add]; exact hab)]; exact hc0)
            clear hz hu hc0
            have HSE := Lib.hid (show ∀ W : World, Env w W #[.slice Xa A1.length xa, .slice Xb B1.length xb] #[.slice (some ad) A2.length ya, .slice Yb B2.length yb] #[.slice none 0 0, .slice none 0 0] → W.cell? ⟨w.heap.size, 1, none⟩ = some (.slice Xb B1.length xb) ∧ W.cell? ⟨w.heap.size + 1, 0, none⟩ = some (.slice (some ad) A2.length ya) ∧ W.cell? (ad.add j) = some (.slice A5 zs.length c5) from fun W hW => ⟨hW.k0.cell 1, hW.k1.cell 0, HCX.out W hW.below⟩)
            go_wp2_with fail
            refine AnyT.begin (k := 14) (S := fun b w' => (w'.cell? ⟨w.heap.size, 1, none⟩ = some (.slice Xb B1.length xb) ∧ w'.cell? ⟨w.heap.size + 1, 0, none⟩ = some (.slice (some ad) A2.length ya) ∧ w'.cell? (ad.add j) = some (.slice A5 zs.length c5)) ∧ (b = false → w'.cell? ⟨p, 0, none⟩ = some va)) (by kernel_rfl) ?_
            have hS : (fun (b : Bool) (w' : World) => (w'.cell? ⟨w.heap.size, 1, none⟩ = some (.slice Xb B1.length xb) ∧ w'.cell? ⟨w.heap.size + 1, 0, none⟩ = some (.slice (some ad) A2.length ya) ∧ w'.cell? (ad.add j) = some (.slice A5 zs.length c5)) ∧ (b = false → w'.cell? ⟨p, 0, none⟩ = some va)) false wr.drew := ⟨HSE.out wr HE.out, fun _ => HF.out.blk.cell 0⟩
            refine AnyT.take0 (i := 0) (v := ?_) rfl (by kernel_rfl) (by kernel_rfl) (by kernel_rfl) (by decide) (fun _ _ _ h => h) hS (Or.inl ⟨by first | kernel_rfl | rfl, ?_⟩) ?_
            rotate_left
            · rintro w' ⟨b, hw'⟩; obtain ⟨hw1, -⟩ := hw'; (try (obtain ⟨hw1, hw2⟩ := hw1)); (try (obtain ⟨hw2, hw3⟩ := hw2)); (try (obtain ⟨hw3, hw4⟩ := hw3)); go_simp; try with_reducible rfl
            try simp only [Act.put, List.setIfInBounds_toArray, List.set_cons_zero, List.set_cons_succ]
            refine AnyT.take1 (i := 1) (v := ?_) rfl (by kernel_rfl) (by kernel_rfl) (by kernel_rfl) (by decide) (by kernel_rfl) rfl (fun _ _ _ h => h) hS (Or.inl ⟨by first | kernel_rfl | rfl, ?_⟩) ?_
            rotate_left
            · intro w' hw'; have hw3 := hw'.2 rfl; go_simp; try with_reducible rfl
            try simp only [Act.put, List.setIfInBounds_toArray, List.set_cons_zero, List.set_cons_succ]
            refine AnyT.take0 (i := 2) (v := ?_) rfl (by kernel_rfl) (by kernel_rfl) (by kernel_rfl) (by decide) (fun _ _ _ h => h) hS (Or.inl ⟨by first | kernel_rfl | rfl, ?_⟩) ?_
            rotate_left
            · rintro w' ⟨b, hw'⟩; obtain ⟨hw1, -⟩ := hw'; (try (obtain ⟨hw1, hw2⟩ := hw1)); (try (obtain ⟨hw2, hw3⟩ := hw2)); (try (obtain ⟨hw3, hw4⟩ := hw3)); go_simp; try with_reducible rfl
            try simp only [Act.put, List.setIfInBounds_toArray, List.set_cons_zero, List.set_cons_succ]
            refine AnyT.take0 (i := 3) (v := ?_) rfl (by kernel_rfl) (by kernel_rfl) (by kernel_rfl) (by decide) (fun _ _ _ h => h) hS (Or.inl ⟨by first | kernel_rfl | rfl, ?_⟩) ?_
            rotate_left
            · rintro w' ⟨b, hw'⟩; obtain ⟨hw1, -⟩ := hw'; (try (obtain ⟨hw1, hw2⟩ := hw1)); (try (obtain ⟨hw2, hw3⟩ := hw2)); (try (obtain ⟨hw3, hw4⟩ := hw3)); go_simp; try with_reducible rfl
            try simp only [Act.put, List.setIfInBounds_toArray, List.set_cons_zero, List.set_cons_succ]
            refine AnyT.take0 (i := 5) (v := ?_) rfl (by kernel_rfl) (by kernel_rfl) (by kernel_rfl) (by decide) (fun _ _ _ h => h) hS (Or.inl ⟨by first | kernel_rfl | rfl, ?_⟩) ?_
            rotate_left
            · rintro w' ⟨b, hw'⟩; obtain ⟨hw1, -⟩ := hw'; (try (obtain ⟨hw1, hw2⟩ := hw1)); (try (obtain ⟨hw2, hw3⟩ := hw2)); (try (obtain ⟨hw3, hw4⟩ := hw3)); go_simp; try with_reducible rfl
            try simp only [Act.put, List.setIfInBounds_toArray, List.set_cons_zero, List.set_cons_succ]
            refine AnyT.take0 (i := 6) (v := ?_) rfl (by kernel_rfl) (by kernel_rfl) (by kernel_rfl) (by decide) (fun _ _ _ h => h) hS (Or.inl ⟨by first | kernel_rfl | rfl, ?_⟩) ?_
            rotate_left
            · rintro w' ⟨b, hw'⟩; obtain ⟨hw1, -⟩ := hw'; (try (obtain ⟨hw1, hw2⟩ := hw1)); (try (obtain ⟨hw2, hw3⟩ := hw2)); (try (obtain ⟨hw3, hw4⟩ := hw3)); go_simp; try with_reducible rfl
            try simp only [Act.put, List.setIfInBounds_toArray, List.set_cons_zero, List.set_cons_succ]
            refine AnyT.take0 (i := 7) (v := ?_) rfl (by kernel_rfl) (by kernel_rfl) (by kernel_rfl) (by decide) (fun _ _ _ h => h) hS (Or.inl ⟨by first | kernel_rfl | rfl, ?_⟩) ?_
            rotate_left
            · rintro w' ⟨b, hw'⟩; obtain ⟨hw1, -⟩ := hw'; (try (obtain ⟨hw1, hw2⟩ := hw1)); (try (obtain ⟨hw2, hw3⟩ := hw2)); (try (obtain ⟨hw3, hw4⟩ := hw3)); go_simp; try with_reducible rfl
            try simp only [Act.put, List.setIfInBounds_toArray, List.set_cons_zero, List.set_cons_succ]
            refine AnyT.take0 (i := 8) (v := ?_) rfl (by kernel_rfl) (by kernel_rfl) (by kernel_rfl) (by decide) (fun _ _ _ h => h) hS (Or.inl ⟨by first | kernel_rfl | rfl, ?_⟩) ?_
            rotate_left
            · rintro w' ⟨b, hw'⟩; obtain ⟨hw1, -⟩ := hw'; (try (obtain ⟨hw1, hw2⟩ := hw1)); (try (obtain ⟨hw2, hw3⟩ := hw2)); (try (obtain ⟨hw3, hw4⟩ := hw3)); go_simp; try with_reducible rfl
            try simp only [Act.put, List.setIfInBounds_toArray, List.set_cons_zero, List.set_cons_succ]
            refine AnyT.take0 (i := 9) (v := ?_) rfl (by kernel_rfl) (by kernel_rfl) (by kernel_rfl) (by decide) (fun _ _ _ h => h) hS (Or.inl ⟨by first | kernel_rfl | rfl, ?_⟩) ?_
            rotate_left
            · rintro w' ⟨b, hw'⟩; obtain ⟨hw1, -⟩ := hw'; (try (obtain ⟨hw1, hw2⟩ := hw1)); (try (obtain ⟨hw2, hw3⟩ := hw2)); (try (obtain ⟨hw3, hw4⟩ := hw3)); go_simp; try with_reducible rfl
            try simp only [Act.put, List.setIfInBounds_toArray, List.set_cons_zero, List.set_cons_succ]
            refine AnyT.go (rs := [4]) (by kernel_rfl) (by simp) ?_
            refine AllT.cons rfl (fun K hK => ?_) AllT.nil
            go_simp
            refine (s_l01Own _ _ B1 (by exact HB.out.below HE.out.below.drew) (by omega)).mono ?_
            rintro e w5 ⟨v5, rfl, ho5, hb5w⟩
            have hb5 : Below wr.heap.size wr w5 := below_of_drew hb5w
            have F5 := HF.out.step hb5
            have E5 := HE.out.step hb5
            refine hK.out _ _ ⟨HSE.out _ E5, fun _ => F5.blk.cell 0⟩ (fun hS => ?_)
            clear hK
            try simp only [Act.put, List.setIfInBounds_toArray, List.set_cons_zero, List.set_cons_succ]
            refine AnyT.go (rs := [10]) (by kernel_rfl) (by simp) ?_
            refine AllT.cons rfl (fun K hK => ?_) AllT.nil
            refine step_appN T_int (W := w5) (B := wr.heap.size) ho5.1 (HU.out.below hb5).1 (by rw [ints_len, ints_len]; omega) hb5.size (ints_oneC _) rfl (by rfl) (by rfl) (by rfl) ?_
            intro v7 w7 hown7 hgr7
            have hb7 : Below wr.heap.size wr w7 := hgr7.below hb5 hb5.size ho5.1.ge
            have F7 := HF.out.step hb7
            have E7 := HE.out.step hb7
            have ho7 : OwnInts w7 wr.heap.size tI v7 (B1 ++ zs) := ⟨by simpa [ints] using hown7, HZI.out⟩
            obtain ⟨A7, c7, hv7, -, -, -⟩ := ho7.ints.open_
            rw [List.length_append] at hv7
            subst hv7
            refine hK.out _ _ ⟨HSE.out _ E7, fun _ => F7.blk.cell 0⟩ (fun hS => ?_)
            clear hK
            try simp only [Act.put, List.setIfInBounds_toArray, List.set_cons_zero, List.set_cons_succ]
            refine AnyT.go (rs := [11]) (by kernel_rfl) (by simp) ?_
            refine AllT.cons rfl (fun K hK => ?_) AllT.nil
            go_simp
            have hb8 : Below wr.heap.size wr (w7.alloc (.cells #[.slice A7 (B1.length + zs.length) c7] tL)) := hb7.alloc hb7.size _
            have F8 := HF.out.step hb8
            have E8 := HE.out.step hb8
            refine hK.out _ _ ⟨HSE.out _ E8, fun _ => F8.blk.cell 0⟩ (fun hS => ?_)
            clear hK
            try simp only [Act.put, List.setIfInBounds_toArray, List.set_cons_zero, List.set_cons_succ]
            refine AnyT.go (rs := [12]) (by kernel_rfl) (by simp) ?_
            refine AllT.cons rfl (fun K hK => ?_) AllT.nil
            refine step_app1g T_row (B := w.heap.size + 1) (v := va) (vs := vs) (W := w7.alloc (.cells #[.slice A7 (B1.length + zs.length) c7] tL)) (u := .slice A7 (B1.length + zs.length) c7) (ad := ⟨w7.heap.size, 0, none⟩) F8.two.own (by omega) (by have := F8.blk.lt; have := F8.ge; omega) (by rfl) rfl (by rfl) (by rfl) (by rfl) ((Blk.new w7 _ _).cell 0) ?_
            intro v9 w9 hown9 hgr9
            obtain ⟨A9, c9, hv9, -, -⟩ := hown9.cells.open_
            rw [show (vs ++ [Value.slice A7 (B1.length + zs.length) c7]).length = vs.length + 1 from by simp] at hv9
            subst hv9
            have F9 := Lib.hid (HF.out.next hb8 (ho7.below (below1 _ _)) hown9 hgr9)
            have E9 := E8.grow F8.two.own (by decide) (by omega) hgr9
            have KP := F8.blk.grow hgr9 F8.npA
            have e0 : w9.cell? ⟨p, 0, none⟩ = some va := KP.cell 0
            have e2 : w9.frozen? ⟨p, 0, none⟩ = false := KP.frozen 0
            refine hK.out _ _ ⟨HSE.out _ E9, fun _ => e0⟩ (fun hS => ?_)
            clear hK
            try simp only [Act.put, List.setIfInBounds_toArray, List.set_cons_zero, List.set_cons_succ]
            refine AnyT.take0 (i := 13) (v := ?_) rfl (by kernel_rfl) (by kernel_rfl) (by kernel_rfl) (by decide) (fun _ _ _ h => h) hS (Or.inl ⟨by first | kernel_rfl | rfl, ?_⟩) ?_
            rotate_left
            · rintro w' ⟨b, hw'⟩; obtain ⟨hw1, -⟩ := hw'; (try (obtain ⟨hw1, hw2⟩ := hw1)); (try (obtain ⟨hw2, hw3⟩ := hw2)); (try (obtain ⟨hw3, hw4⟩ := hw3)); go_simp; try with_reducible rfl
            try simp only [Act.put, List.setIfInBounds_toArray, List.set_cons_zero, List.set_cons_succ]
            refine AnyT.go (rs := [14]) (by kernel_rfl) (by simp) ?_
            refine AllT.cons rfl (fun K hK => ?_) AllT.nil
            go_simp
            have E10 := Lib.hid (E9.store hpp 0 (.slice A9 (vs.length + 1) c9))
            refine hK.out _ _ ⟨HSE.out _ E10.out, fun h => Bool.noConfusion (show true = false from h)⟩ (fun hS => ?_)
            clear hK
            refine AnyT.done (by kernel_rfl) ?_ _
            clear hS hown9 hgr9 hown7 hgr7 F5 E5 F7 E7 F8 E8 E9 hb5 hb7 hb8 ho5 ho7 KP e0 e2 q0
            go_wp2_with fail
            go_roundw
            case rel =>
              refine ⟨j + 1, .slice A9 (vs.length + 1) c9, vs ++ [.slice A7 (B1.length + zs.length) c7], by omega, by go_num, ?_, E10.out⟩
              rw [HS.out]
              exact F9.out
            case measure => simp [intOf]; omega
          · have : j = A2.length := by omega
            subst this
            rw [List.take_length] at HF
            obtain ⟨A7, c7, hv7, -, -⟩ := HF.out.two.own.cells.open_
            have hvl : vs.length = A1.length + A2.length := by have := HF.out.two.rows.1; simpa using this
            rw [hvl] at hv7
            subst hv7
            have e0 : wr.cell? ⟨p, 0, none⟩ = some (.slice A7 (A1.length + A2.length) c7) := HF.out.blk.cell 0
            have e1 : wr.cell? ⟨p, 1, none⟩ = some (.slice A6 (B1.length + B2.length) c6) := HF.out.blk.cell 1
            have f0 : wr.cell? ⟨w.heap.size + 1 + 1, 0, none⟩ = some (.slice none 0 0) := HE.out.k2.cell 0
            have f1 : wr.cell? ⟨w.heap.size + 1 + 1, 1, none⟩ = some (.slice none 0 0) := HE.out.k2.cell 1
            have f2 := HE.out.k2.frozen 0
            have f3 := HE.out.k2.frozen 1
            have HTW := Lib.hid ((HF.out.two.storeAt HE.out.k2 (by decide) (by decide) 0 (.slice A7 (A1.length + A2.length) c7)).storeAt (HE.out.k2.set_ 0 (.slice A7 (A1.length + A2.length) c7)) (by decide) (by decide) 1 (.slice A6 (B1.length + B2.length) c6))
            have HBE := Lib.hid (HE.out.below)
            clear hvl
            go_wp2_with fail
            refine bodyPost_ret (v := .agg #[.slice A7 (A1.length + A2.length) c7, (.slice A6 (B1.length + B2.length) c6)]) (by simp [results, Tryz.results104, go_sem, f0, f1]) rfl ⟨_, rfl, HTW.out.tab.mono (by omega) (Nat.le_refl _), (HBE.out.setCell (p := ⟨w.heap.size + 1 + 1, 0, none⟩) (by show _ ≤ w.heap.size + 1 + 1; omega) _).setCell (p := ⟨w.heap.size + 1 + 1, 1, none⟩) (by show _ ≤ w.heap.size + 1 + 1; omega) _⟩
end Go.Proofs.YtdjhfeaimmpmhaaGreat

