/- DROP Walks: productsTo of the program; SymplecticTo, HamiltonianTo. -/
import Derived.Test.YtdjhfeaimmpmhaaGreatZf23
import Derived.Test.YtdjhfeaimmpmhaaGreatZf24
import Derived.Test.YtdjhfeaimmpmhaaGreatZf19
import Derived.Test.YtdjhfeaimmpmhaaGreatZf18
import Derived.Test.YtdjhfeaimmpmhaaGreatZf20
import Derived.Test.YtdjhfeaimmpmhaaGreatZf16
import Derived.Test.YtdjhfeaimmpmhaaGreatZf12
set_option maxRecDepth 100000
set_option linter.unusedVariables false
set_option linter.unusedSimpArgs false
namespace Go.Proofs.YtdjhfeaimmpmhaaGreat
open Go.RowKit

set_option maxHeartbeats 400000 in
theorem i_symplecticTo1 (w : World) (x y : Int) (hx : 0 ≤ x ∧ x ≤ 10006) (hy : 0 ≤ y ∧ y ≤ 10006) :
    Calls Tryz.prog 148 #[.int .i64 x, .int .i64 y] w fun e w' => e = .returned (.int .i64 (1 * (x * y % 10007) % 10007)) ∧ w = w' := by
  obtain ⟨p1, p2⟩ := mul_bd 10006 10006 hx.1 hx.2 hy.1 hy.2
  have HQ := Lib.hid (show 1 * (x * y % 10007) % 10007 = x * y % 10007 from by omega)
  obtain ⟨hx0, hx1⟩ := hx
  obtain ⟨hy0, hy1⟩ := hy
  go_enter Tryz.func148, Tryz.ntmps148
  go_wp2_with (go_at_call 60; refine (i_num _ _ (by omega) (by omega)).mono ?_; rintro e w' ⟨rfl, rfl⟩)
  go_ret
  exact ⟨ret_i64 HQ.out.symm, rfl⟩
set_option maxHeartbeats 400000 in
theorem i_hamiltonianTo1 (w : World) (x y : Int) :
    Calls Tryz.prog 126 #[.int .i64 x, .int .i64 y] w fun e w' => e = .returned (.int .i64 (0 * (x * y % 10007) % 10007)) ∧ w = w' := by
  have HQ := Lib.hid (show 0 * (x * y % 10007) % 10007 = 0 from by simp)
  go_enter Tryz.func126, Tryz.ntmps126
  go_wp2_with fail
  go_ret
  exact ⟨ret_i64 HQ.out.symm, rfl⟩

set_option maxHeartbeats 16000000 in
theorem i_productsTo (w : World) (v va : Value) (B : Option Addr) (m0 d g : Nat) (a : List Int) (c : Int) (ha : Rows w v (T6n.map up)) (h1 : Ints w va a) (l1 : a.length = 38) (hN : Nums a)
    (hcf : ∀ (args : Array Value) (w : World), Sem.run Tryz.prog (callFunc g args) w = .ok (.enter g args) w)
    (hp : ∀ (W : World) (x y : Int), 0 ≤ x ∧ x ≤ 10006 → 0 ≤ y ∧ y ≤ 10006 → Calls Tryz.prog g #[.int .i64 x, .int .i64 y] W fun e w' => e = .returned (.int .i64 (c * (x * y % 10007) % 10007)) ∧ W = w') :
    Calls Tryz.prog 125 #[.agg #[v, .slice B m0 d], va, .func (.func g) #[] #[]] w fun e w' => ∃ r : Nat, e = .returned (.int .i64 r) ∧ ToR a c r ∧ Below w.heap.size w w' := by
  obtain ⟨A, cA, he, -, -, -⟩ := ha.open_
  rw [List.length_map, T6n_len] at he
  subst he
  have hbel : Below w.heap.size w (w.alloc (.cells #[.slice A 37 cA, .slice B m0 d] 71)) := below1 w _
  have HRA := Lib.hid (ha.below hbel)
  have HIA := Lib.hid (h1.below hbel)
  obtain ⟨A1, c1, rfl, -, -, -⟩ := h1.open_
  rw [l1] at HIA ⊢
  have HP := Lib.hid hp
  have HNN := Lib.hid hN
  have HBX := Lib.hid (Blk.new w #[.slice A 37 cA, .slice B m0 d] 71)
  have HBE := Lib.hid hbel
  have hb0 := HBX.out.cell 0
  obtain ⟨ad0, -, -, -, rfl, -⟩ := HRA.out.tree (i := 0) (by omega)
  have hcA : 37 ≤ cA := by
    obtain ⟨A', c', he, hcc, -, -⟩ := HRA.out.open_
    simp only [Value.slice.injEq] at he
    obtain ⟨-, -, rfl⟩ := he
    rw [List.length_map, T6n_len] at hcc
    exact hcc
  have HCA := Lib.hid hcA
  clear ha hbel h1 l1 hp hN hcA
  go_enter Tryz.func125, Tryz.ntmps125
  go_wp2_with fail
  generalize hwq : (w.alloc (.cells #[.slice (some ad0) 37 cA, .slice B m0 d] 71)) = wq at HRA HIA HBX HBE ⊢
  clear hwq
  go_loopw [7, 18] (fun o x wr => ∃ i m : Nat, i ≤ 37 ∧ x = .int .i64 i ∧ o = .int .i64 m ∧ Hid (ToM a c i 0 m) ∧ Below wq.heap.size wq wr) (fun _ x _ => 37 - (intOf x).toNat)
  case atStart => exact ⟨0, 6, by omega, rfl, rfl, ToM.start a c, Below.refl _ _⟩
  case round =>
    obtain ⟨i, m, hi, rfl, rfl, hT, hb⟩ := hrel
    rename World => wr
    have HB := Lib.hid hb
    clear hb
    by_cases hlt : i < 37
    · obtain ⟨ad, Au, cu, u, hade, hu, hui, hcuq⟩ := HRA.out.tree hlt
      injection hade with hade
      subst hade
      have htu := tr_at hu
      obtain ⟨-, hu1, hu6, hul⟩ := T6n_at (List.mem_of_getElem? hu)
      have hbk := HBX.out.below HB.out HBX.out.lt
      have hf0 : wr.cell? ⟨w.heap.size, 0, none⟩ = some (.slice (some ad0) 37 cA) := hbk.cell 0
      have hsl : ∀ W, (Instr.slice 43 (.slice (some ad0) 37 cA) none (some (.int .i64 ((i : Int) + 1))) none).run Tryz.prog W = .ok (.slice (some ad0) (i + 1) cA) W := by
        intro W
        have := HCA.out
        rw [sl_to Tryz.underlying43 sizeL W _ _ _ (i + 1) _ (by omega) (by omega)]
        have hne : ¬ cA = 0 := by omega
        simp [sliced, hne, Addr.add]
      have hii : (i : Int) < 37 := by omega
      have hcu := keepCell HB.out hcuq
      have HU := Lib.hid hui
      have HTU := Lib.hid htu
      have HUM := Lib.hid (List.mem_of_getElem? hu)
      clear hu hui htu hbk hcuq
      go_wp2_with fail
      go_loopw [7, 29] (fun o x wk => ∃ k m : Nat, k ≤ i + 1 ∧ x = .int .i64 k ∧ o = .int .i64 m ∧ Hid (ToM a c i k m) ∧ Below wq.heap.size wq wk) (fun _ x _ => i + 1 - (intOf x).toNat)
      case atStart => exact ⟨0, m, Nat.zero_le _, rfl, rfl, hT, HB.out⟩
      case round =>
        obtain ⟨k, m, hk, rfl, rfl, hTk, hbk0⟩ := hrel
        rename World => wk
        have HBK := Lib.hid hbk0
        have hm6 := hTk.out.le
        clear hbk0 hcu hf0 hsl
        by_cases hlk : k < i + 1
        · obtain ⟨ad, Av, cv, v, hade, hv, hvi, hcvq⟩ := HRA.out.tree (i := k) (by omega)
          injection hade with hade
          subst hade
          have htv := tr_at hv
          obtain ⟨-, hv1, hv6, hvl⟩ := T6n_at (List.mem_of_getElem? hv)
          have hcv := keepCell HBK.out hcvq
          have HTV := Lib.hid htv
          have HVM := Lib.hid (List.mem_of_getElem? hv)
          have HIu := Lib.hid (HU.out.below HBK.out)
          have HIv := Lib.hid (hvi.below HBK.out)
          have HVQ := Lib.hid hvi
          have HLU := Lib.hid (lib_lengthI wk _ _ HIu.out)
          have HLV := Lib.hid (lib_lengthI wk _ _ HIv.out)
          rw [up_len] at HLU HLV
          have hkk : (k : Int) < (i : Int) + 1 := by omega
          have hw1 : wrap64 ((u.length : Int) + (v.length : Int)) = (u.length : Int) + (v.length : Int) := by unfold wrap64; omega
          have hw2 : IntKind.i64.wrap ((u.length : Int) + (v.length : Int)) = (u.length : Int) + (v.length : Int) := IntWalk.i64_in _ (by omega)
          clear hv hvi htv hcvq
          by_cases hs : m < u.length + v.length
          · have hgt : decide ((m : Int) < (u.length : Int) + (v.length : Int)) = true := decide_eq_true (by omega)
            have hgt2 : (m : Int) < (u.length : Int) + (v.length : Int) := by omega
            have HT2 := Lib.hid (hTk.out.skip (by rw [HTU.out, HTV.out]; exact hs))
            clear hs
            go_wp2_with (go_at_call 154; first | (refine HLU.out.mono ?_; rintro e w0 ⟨rfl, rfl⟩) | (refine HLV.out.mono ?_; rintro e w0 ⟨rfl, rfl⟩))
            go_roundw
            case rel => exact ⟨k + 1, m, by omega, by go_num, rfl, HT2.out, HBK.out⟩
            case measure => simp [intOf]; omega
          · have hgt : decide ((m : Int) < (u.length : Int) + (v.length : Int)) = false := decide_eq_false (by omega)
            have hgt2 : ¬ (m : Int) < (u.length : Int) + (v.length : Int) := by omega
            obtain ⟨r1, -, g1t, g1i, -, g11, g17, g1l⟩ := gOk_at HUM.out HVM.out (by omega)
            obtain ⟨r2, -, g2t, g2i, -, g21, g27, g2l⟩ := gOk_at HVM.out HUM.out (by omega)
            obtain ⟨n1l, n1b⟩ := gNr_at HUM.out HVM.out (by omega)
            obtain ⟨n2l, n2b⟩ := gNr_at HVM.out HUM.out (by omega)
            obtain ⟨p1, hp1⟩ : ∃ p : Nat, gIdx u v = p := ⟨_, rfl⟩
            obtain ⟨p2, hp2⟩ : ∃ p : Nat, gIdx v u = p := ⟨_, rfl⟩
            have HX1 := Lib.hid (fun W x y an al (h1 : Ints W x (up u)) (h2 : Ints W y (up v)) (h3 : W.cell? an = some (.int .i64 0)) (h4 : W.cell? al = some y) => show Calls Tryz.prog 175 #[x, .slice (some an) 1 1, .slice (some al) 1 1] W _ from i_grafted W x y an al 1 1 u v r1 h1 h2 h3 h4 hu6 hv6 hu1 hul hvl g1t g1l (by rw [n1l]; omega) n1b (by rw [n1l]; omega))
            have HX2 := Lib.hid (fun W x y an al (h1 : Ints W x (up v)) (h2 : Ints W y (up u)) (h3 : W.cell? an = some (.int .i64 0)) (h4 : W.cell? al = some y) => show Calls Tryz.prog 175 #[x, .slice (some an) 1 1, .slice (some al) 1 1] W _ from i_grafted W x y an al 1 1 v u r2 h1 h2 h3 h4 hv6 hu6 hv1 hvl hul g2t g2l (by rw [n2l]; omega) n2b (by rw [n2l]; omega))
            have HP1 := Lib.hid (fun W x tv (h1 : Rows W x (T6n.map up)) (h2 : Ints W tv (up r1)) => show Calls Tryz.prog 66 #[.agg #[x, .slice B m0 d], tv] W fun e w' => e = .returned (.int .i64 (p1 : Nat)) ∧ Below W.heap.size W w' from by
              have h := i_place W x tv B m0 d T6n r1 h1 h2 (by rw [T6n_len]; omega)
              rw [g1i, hp1] at h
              exact h.mono fun e w' ⟨he, hw⟩ => ⟨he, by rw [hw]; exact below1 _ _⟩)
            have HP2 := Lib.hid (fun W x tv (h1 : Rows W x (T6n.map up)) (h2 : Ints W tv (up r2)) => show Calls Tryz.prog 66 #[.agg #[x, .slice B m0 d], tv] W fun e w' => e = .returned (.int .i64 (p2 : Nat)) ∧ Below W.heap.size W w' from by
              have h := i_place W x tv B m0 d T6n r2 h1 h2 (by rw [T6n_len]; omega)
              rw [g2i, hp2] at h
              exact h.mono fun e w' ⟨he, hw⟩ => ⟨he, by rw [hw]; exact below1 _ _⟩)
            have HE1 := Lib.hid hp1
            have HE2 := Lib.hid hp2
            have hp17 : p1 < 38 := by omega
            have hp27 : p2 < 38 := by omega
            have HRKwk := Lib.hid (HRA.out.below HBK.out)
            have hbkk := HBX.out.below HBK.out HBX.out.lt
            have hf0 : wk.cell? ⟨w.heap.size, 0, none⟩ = some (.slice (some ad0) 37 cA) := hbkk.cell 0
            have hf1 : wk.cell? ⟨w.heap.size, 1, none⟩ = some (.slice B m0 d) := hbkk.cell 1
            have hulen : 1 ≤ u.length + v.length := by omega
            clear g1t g1i g11 g17 g1l g2t g2i g21 g27 g2l n1l n1b n2l n2b hp1 hp2 hul hvl hbkk
            go_upto_region 10 with (go_at_call 154; first | (refine HLU.out.mono ?_; rintro e w0 ⟨rfl, rfl⟩) | (refine HLV.out.mono ?_; rintro e w0 ⟨rfl, rfl⟩))
            refine AnyT.begin (k := 7) (S := fun b w' => (w'.cell? ⟨w.heap.size, 0, none⟩ = some (.slice (some ad0) 37 cA) ∧ w'.cell? ⟨w.heap.size, 1, none⟩ = some (.slice B m0 d)) ∧ True) (by kernel_rfl) ?_
            have hS : (fun (b : Bool) (w' : World) => (w'.cell? ⟨w.heap.size, 0, none⟩ = some (.slice (some ad0) 37 cA) ∧ w'.cell? ⟨w.heap.size, 1, none⟩ = some (.slice B m0 d)) ∧ True) false wk.drew := ⟨⟨hf0, hf1⟩, trivial⟩
            have HF0 := Lib.hid hf0
            have HF1 := Lib.hid hf1
            clear hf0 hf1
            refine AnyT.take0 (i := 0) (v := ?_) rfl (by kernel_rfl) (by kernel_rfl) (by kernel_rfl) (by decide) (fun _ _ _ h => h) hS (Or.inl ⟨by first | kernel_rfl | rfl, ?_⟩) ?_
            rotate_left
            · rintro w' ⟨b, hw'⟩; obtain ⟨hw1, -⟩ := hw'; (try (obtain ⟨hw1, hw2⟩ := hw1)); (try (obtain ⟨hw2, hw3⟩ := hw2)); (try (obtain ⟨hw3, hw4⟩ := hw3)); go_simp; try with_reducible rfl
            try simp only [Act.put, List.setIfInBounds_toArray, List.set_cons_zero, List.set_cons_succ]
            refine AnyT.take0 (i := 1) (v := ?_) rfl (by kernel_rfl) (by kernel_rfl) (by kernel_rfl) (by decide) (fun _ _ _ h => h) hS (Or.inl ⟨by first | kernel_rfl | rfl, ?_⟩) ?_
            rotate_left
            · intro w' hw'; clear hw'; go_simp; try with_reducible rfl
            try simp only [Act.put, List.setIfInBounds_toArray, List.set_cons_zero, List.set_cons_succ]
            refine AnyT.take0 (i := 3) (v := ?_) rfl (by kernel_rfl) (by kernel_rfl) (by kernel_rfl) (by decide) (fun _ _ _ h => h) hS (Or.inl ⟨by first | kernel_rfl | rfl, ?_⟩) ?_
            rotate_left
            · intro w' hw'; clear hw'; go_simp; try with_reducible rfl
            try simp only [Act.put, List.setIfInBounds_toArray, List.set_cons_zero, List.set_cons_succ]
            refine AnyT.go (rs := [2, 4]) (by kernel_rfl) (by simp) ?_
            refine AllT.cons rfl (fun K hK => ?_) (AllT.cons rfl (fun K hK => ?_) AllT.nil)
            focus
              go_simp
              have hb1 : Below wk.heap.size wk (wk.drew.alloc (.cells #[.int .i64 0] tN)) := (((Below.refl wk.heap.size wk).drew).alloc (Nat.le_refl _) _)
              refine hK.out _ _ ⟨⟨keepCell hb1 HF0.out, keepCell hb1 HF1.out⟩, trivial⟩ (fun hS => ?_)
              clear hK
              try simp only [Act.put, List.setIfInBounds_toArray, List.set_cons_zero, List.set_cons_succ]
              refine AnyT.go (rs := [4]) (by kernel_rfl) (by simp) ?_
              refine AllT.cons rfl (fun K hK => ?_) AllT.nil
              go_simp
              have hb2 : Below wk.heap.size wk ((wk.drew.alloc (.cells #[.int .i64 0] tN)).alloc (.cells #[.slice Av v.length cv] tL)) := hb1.trans ((below1 _ _).mono hb1.size)
              refine hK.out _ _ ⟨⟨keepCell hb2 HF0.out, keepCell hb2 HF1.out⟩, trivial⟩ (fun hS => ?_)
              clear hK
              try simp only [Act.put, List.setIfInBounds_toArray, List.set_cons_zero, List.set_cons_succ]
              refine AnyT.go (rs := [5]) (by kernel_rfl) (by simp) ?_
              refine AllT.cons rfl (fun K hK => ?_) AllT.nil
              go_simp
              refine (HX1.out ((wk.drew.alloc (.cells #[.int .i64 0] tN)).alloc (.cells #[.slice Av v.length cv] tL)) _ _ ⟨wk.heap.size, 0, none⟩ ⟨wk.heap.size + 1, 0, none⟩ (HIu.out.below hb2) (HIv.out.below hb2) (((Blk.new wk.drew #[.int .i64 0] tN).alloc _).cell 0) ((Blk.new1 wk.drew _ #[.slice Av v.length cv] tL).cell 0)).mono ?_
              rintro e w5 ⟨x5, rfl, ho5, hb5'⟩
              have hb5 : Below wk.heap.size wk w5 := hb2.trans (hb5'.mono hb2.size)
              refine hK.out _ _ ⟨⟨keepCell hb5 HF0.out, keepCell hb5 HF1.out⟩, trivial⟩ (fun hS => ?_)
              clear hK
              try simp only [Act.put, List.setIfInBounds_toArray, List.set_cons_zero, List.set_cons_succ]
              refine AnyT.go (rs := [6]) (by kernel_rfl) (by simp) ?_
              refine AllT.cons rfl (fun K hK => ?_) AllT.nil
              go_simp
              refine (HP1.out w5 _ _ (HRKwk.out.below hb5) ho5.ints).mono ?_
              rintro e wy ⟨rfl, hb6'⟩
              have hb6 : Below wk.heap.size wk wy := hb5.trans (hb6'.mono hb5.size)
              refine hK.out _ _ ⟨⟨keepCell hb6 HF0.out, keepCell hb6 HF1.out⟩, trivial⟩ (fun hS => ?_)
              clear hK
              try simp only [Act.put, List.setIfInBounds_toArray, List.set_cons_zero, List.set_cons_succ]
              refine AnyT.go (rs := [7]) (by kernel_rfl) (by simp) ?_
              refine AllT.cons rfl (fun K hK => ?_) AllT.nil
              go_simp
              refine hK.out _ _ ⟨⟨keepCell hb6 HF0.out, keepCell hb6 HF1.out⟩, trivial⟩ (fun hS => ?_)
              clear hK hS hb1 hb2 ho5 hb5' hb5 hb6'
              refine AnyT.done (by kernel_rfl) ?_ _
            rotate_left
            focus
              go_simp
              have hb1 : Below wk.heap.size wk (wk.drew.alloc (.cells #[.slice Av v.length cv] tL)) := (((Below.refl wk.heap.size wk).drew).alloc (Nat.le_refl _) _)
              refine hK.out _ _ ⟨⟨keepCell hb1 HF0.out, keepCell hb1 HF1.out⟩, trivial⟩ (fun hS => ?_)
              clear hK
              try simp only [Act.put, List.setIfInBounds_toArray, List.set_cons_zero, List.set_cons_succ]
              refine AnyT.go (rs := [2]) (by kernel_rfl) (by simp) ?_
              refine AllT.cons rfl (fun K hK => ?_) AllT.nil
              go_simp
              have hb2 : Below wk.heap.size wk ((wk.drew.alloc (.cells #[.slice Av v.length cv] tL)).alloc (.cells #[.int .i64 0] tN)) := hb1.trans ((below1 _ _).mono hb1.size)
              refine hK.out _ _ ⟨⟨keepCell hb2 HF0.out, keepCell hb2 HF1.out⟩, trivial⟩ (fun hS => ?_)
              clear hK
              try simp only [Act.put, List.setIfInBounds_toArray, List.set_cons_zero, List.set_cons_succ]
              refine AnyT.go (rs := [5]) (by kernel_rfl) (by simp) ?_
              refine AllT.cons rfl (fun K hK => ?_) AllT.nil
              go_simp
              refine (HX1.out ((wk.drew.alloc (.cells #[.slice Av v.length cv] tL)).alloc (.cells #[.int .i64 0] tN)) _ _ ⟨wk.heap.size + 1, 0, none⟩ ⟨wk.heap.size, 0, none⟩ (HIu.out.below hb2) (HIv.out.below hb2) ((Blk.new1 wk.drew _ #[.int .i64 0] tN).cell 0) (((Blk.new wk.drew #[.slice Av v.length cv] tL).alloc _).cell 0)).mono ?_
              rintro e w5 ⟨x5, rfl, ho5, hb5'⟩
              have hb5 : Below wk.heap.size wk w5 := hb2.trans (hb5'.mono hb2.size)
              refine hK.out _ _ ⟨⟨keepCell hb5 HF0.out, keepCell hb5 HF1.out⟩, trivial⟩ (fun hS => ?_)
              clear hK
              try simp only [Act.put, List.setIfInBounds_toArray, List.set_cons_zero, List.set_cons_succ]
              refine AnyT.go (rs := [6]) (by kernel_rfl) (by simp) ?_
              refine AllT.cons rfl (fun K hK => ?_) AllT.nil
              go_simp
              refine (HP1.out w5 _ _ (HRKwk.out.below hb5) ho5.ints).mono ?_
              rintro e wy ⟨rfl, hb6'⟩
              have hb6 : Below wk.heap.size wk wy := hb5.trans (hb6'.mono hb5.size)
              refine hK.out _ _ ⟨⟨keepCell hb6 HF0.out, keepCell hb6 HF1.out⟩, trivial⟩ (fun hS => ?_)
              clear hK
              try simp only [Act.put, List.setIfInBounds_toArray, List.set_cons_zero, List.set_cons_succ]
              refine AnyT.go (rs := [7]) (by kernel_rfl) (by simp) ?_
              refine AllT.cons rfl (fun K hK => ?_) AllT.nil
              go_simp
              refine hK.out _ _ ⟨⟨keepCell hb6 HF0.out, keepCell hb6 HF1.out⟩, trivial⟩ (fun hS => ?_)
              clear hK hS hb1 hb2 ho5 hb5' hb5 hb6'
              refine AnyT.done (by kernel_rfl) ?_ _
            all_goals
              have HRKwy := Lib.hid (HRKwk.out.below hb6)
              have HBY := Lib.hid (HBK.out.trans (hb6.mono HBK.out.size))
              have HIu2 := HIu
              have HIv2 := HIv
              have hf0 := keepCell hb6 HF0.out
              have hf1 := keepCell hb6 HF1.out
              have hiu := HIu.out.below hb6
              have hiv := HIv.out.below hb6
              clear HIu HIv HF0 HF1 hb6
              have HIu := Lib.hid hiu
              have HIv := Lib.hid hiv
              clear hiu hiv
              go_upto_region 11 with fail
              refine AnyT.begin (k := 7) (S := fun b w' => (w'.cell? ⟨w.heap.size, 0, none⟩ = some (.slice (some ad0) 37 cA) ∧ w'.cell? ⟨w.heap.size, 1, none⟩ = some (.slice B m0 d)) ∧ True) (by kernel_rfl) ?_
              have hS : (fun (b : Bool) (w' : World) => (w'.cell? ⟨w.heap.size, 0, none⟩ = some (.slice (some ad0) 37 cA) ∧ w'.cell? ⟨w.heap.size, 1, none⟩ = some (.slice B m0 d)) ∧ True) false wy.drew := ⟨⟨hf0, hf1⟩, trivial⟩
              have HF0 := Lib.hid hf0
              have HF1 := Lib.hid hf1
              clear hf0 hf1
              refine AnyT.take0 (i := 0) (v := ?_) rfl (by kernel_rfl) (by kernel_rfl) (by kernel_rfl) (by decide) (fun _ _ _ h => h) hS (Or.inl ⟨by first | kernel_rfl | rfl, ?_⟩) ?_
              rotate_left
              · rintro w' ⟨b, hw'⟩; obtain ⟨hw1, -⟩ := hw'; (try (obtain ⟨hw1, hw2⟩ := hw1)); (try (obtain ⟨hw2, hw3⟩ := hw2)); (try (obtain ⟨hw3, hw4⟩ := hw3)); go_simp; try with_reducible rfl
              try simp only [Act.put, List.setIfInBounds_toArray, List.set_cons_zero, List.set_cons_succ]
              refine AnyT.take0 (i := 1) (v := ?_) rfl (by kernel_rfl) (by kernel_rfl) (by kernel_rfl) (by decide) (fun _ _ _ h => h) hS (Or.inl ⟨by first | kernel_rfl | rfl, ?_⟩) ?_
              rotate_left
              · intro w' hw'; clear hw'; go_simp; try with_reducible rfl
              try simp only [Act.put, List.setIfInBounds_toArray, List.set_cons_zero, List.set_cons_succ]
              refine AnyT.take0 (i := 3) (v := ?_) rfl (by kernel_rfl) (by kernel_rfl) (by kernel_rfl) (by decide) (fun _ _ _ h => h) hS (Or.inl ⟨by first | kernel_rfl | rfl, ?_⟩) ?_
              rotate_left
              · intro w' hw'; clear hw'; go_simp; try with_reducible rfl
              try simp only [Act.put, List.setIfInBounds_toArray, List.set_cons_zero, List.set_cons_succ]
              refine AnyT.go (rs := [2, 4]) (by kernel_rfl) (by simp) ?_
              refine AllT.cons rfl (fun K hK => ?_) (AllT.cons rfl (fun K hK => ?_) AllT.nil)
              focus
                go_simp
                have hb1 : Below wy.heap.size wy (wy.drew.alloc (.cells #[.int .i64 0] tN)) := (((Below.refl wy.heap.size wy).drew).alloc (Nat.le_refl _) _)
                refine hK.out _ _ ⟨⟨keepCell hb1 HF0.out, keepCell hb1 HF1.out⟩, trivial⟩ (fun hS => ?_)
                clear hK
                try simp only [Act.put, List.setIfInBounds_toArray, List.set_cons_zero, List.set_cons_succ]
                refine AnyT.go (rs := [4]) (by kernel_rfl) (by simp) ?_
                refine AllT.cons rfl (fun K hK => ?_) AllT.nil
                go_simp
                have hb2 : Below wy.heap.size wy ((wy.drew.alloc (.cells #[.int .i64 0] tN)).alloc (.cells #[.slice Au u.length cu] tL)) := hb1.trans ((below1 _ _).mono hb1.size)
                refine hK.out _ _ ⟨⟨keepCell hb2 HF0.out, keepCell hb2 HF1.out⟩, trivial⟩ (fun hS => ?_)
                clear hK
                try simp only [Act.put, List.setIfInBounds_toArray, List.set_cons_zero, List.set_cons_succ]
                refine AnyT.go (rs := [5]) (by kernel_rfl) (by simp) ?_
                refine AllT.cons rfl (fun K hK => ?_) AllT.nil
                go_simp
                refine (HX2.out ((wy.drew.alloc (.cells #[.int .i64 0] tN)).alloc (.cells #[.slice Au u.length cu] tL)) _ _ ⟨wy.heap.size, 0, none⟩ ⟨wy.heap.size + 1, 0, none⟩ (HIv.out.below hb2) (HIu.out.below hb2) (((Blk.new wy.drew #[.int .i64 0] tN).alloc _).cell 0) ((Blk.new1 wy.drew _ #[.slice Au u.length cu] tL).cell 0)).mono ?_
                rintro e w5 ⟨x5, rfl, ho5, hb5'⟩
                have hb5 : Below wy.heap.size wy w5 := hb2.trans (hb5'.mono hb2.size)
                refine hK.out _ _ ⟨⟨keepCell hb5 HF0.out, keepCell hb5 HF1.out⟩, trivial⟩ (fun hS => ?_)
                clear hK
                try simp only [Act.put, List.setIfInBounds_toArray, List.set_cons_zero, List.set_cons_succ]
                refine AnyT.go (rs := [6]) (by kernel_rfl) (by simp) ?_
                refine AllT.cons rfl (fun K hK => ?_) AllT.nil
                go_simp
                refine (HP2.out w5 _ _ (HRKwy.out.below hb5) ho5.ints).mono ?_
                rintro e wz ⟨rfl, hb6'⟩
                have hb6 : Below wy.heap.size wy wz := hb5.trans (hb6'.mono hb5.size)
                refine hK.out _ _ ⟨⟨keepCell hb6 HF0.out, keepCell hb6 HF1.out⟩, trivial⟩ (fun hS => ?_)
                clear hK
                try simp only [Act.put, List.setIfInBounds_toArray, List.set_cons_zero, List.set_cons_succ]
                refine AnyT.go (rs := [7]) (by kernel_rfl) (by simp) ?_
                refine AllT.cons rfl (fun K hK => ?_) AllT.nil
                go_simp
                refine hK.out _ _ ⟨⟨keepCell hb6 HF0.out, keepCell hb6 HF1.out⟩, trivial⟩ (fun hS => ?_)
                clear hK hS hb1 hb2 ho5 hb5' hb5 hb6'
                refine AnyT.done (by kernel_rfl) ?_ _
              rotate_left
              focus
                go_simp
                have hb1 : Below wy.heap.size wy (wy.drew.alloc (.cells #[.slice Au u.length cu] tL)) := (((Below.refl wy.heap.size wy).drew).alloc (Nat.le_refl _) _)
                refine hK.out _ _ ⟨⟨keepCell hb1 HF0.out, keepCell hb1 HF1.out⟩, trivial⟩ (fun hS => ?_)
                clear hK
                try simp only [Act.put, List.setIfInBounds_toArray, List.set_cons_zero, List.set_cons_succ]
                refine AnyT.go (rs := [2]) (by kernel_rfl) (by simp) ?_
                refine AllT.cons rfl (fun K hK => ?_) AllT.nil
                go_simp
                have hb2 : Below wy.heap.size wy ((wy.drew.alloc (.cells #[.slice Au u.length cu] tL)).alloc (.cells #[.int .i64 0] tN)) := hb1.trans ((below1 _ _).mono hb1.size)
                refine hK.out _ _ ⟨⟨keepCell hb2 HF0.out, keepCell hb2 HF1.out⟩, trivial⟩ (fun hS => ?_)
                clear hK
                try simp only [Act.put, List.setIfInBounds_toArray, List.set_cons_zero, List.set_cons_succ]
                refine AnyT.go (rs := [5]) (by kernel_rfl) (by simp) ?_
                refine AllT.cons rfl (fun K hK => ?_) AllT.nil
                go_simp
                refine (HX2.out ((wy.drew.alloc (.cells #[.slice Au u.length cu] tL)).alloc (.cells #[.int .i64 0] tN)) _ _ ⟨wy.heap.size + 1, 0, none⟩ ⟨wy.heap.size, 0, none⟩ (HIv.out.below hb2) (HIu.out.below hb2) ((Blk.new1 wy.drew _ #[.int .i64 0] tN).cell 0) (((Blk.new wy.drew #[.slice Au u.length cu] tL).alloc _).cell 0)).mono ?_
                rintro e w5 ⟨x5, rfl, ho5, hb5'⟩
                have hb5 : Below wy.heap.size wy w5 := hb2.trans (hb5'.mono hb2.size)
                refine hK.out _ _ ⟨⟨keepCell hb5 HF0.out, keepCell hb5 HF1.out⟩, trivial⟩ (fun hS => ?_)
                clear hK
                try simp only [Act.put, List.setIfInBounds_toArray, List.set_cons_zero, List.set_cons_succ]
                refine AnyT.go (rs := [6]) (by kernel_rfl) (by simp) ?_
                refine AllT.cons rfl (fun K hK => ?_) AllT.nil
                go_simp
                refine (HP2.out w5 _ _ (HRKwy.out.below hb5) ho5.ints).mono ?_
                rintro e wz ⟨rfl, hb6'⟩
                have hb6 : Below wy.heap.size wy wz := hb5.trans (hb6'.mono hb5.size)
                refine hK.out _ _ ⟨⟨keepCell hb6 HF0.out, keepCell hb6 HF1.out⟩, trivial⟩ (fun hS => ?_)
                clear hK
                try simp only [Act.put, List.setIfInBounds_toArray, List.set_cons_zero, List.set_cons_succ]
                refine AnyT.go (rs := [7]) (by kernel_rfl) (by simp) ?_
                refine AllT.cons rfl (fun K hK => ?_) AllT.nil
                go_simp
                refine hK.out _ _ ⟨⟨keepCell hb6 HF0.out, keepCell hb6 HF1.out⟩, trivial⟩ (fun hS => ?_)
                clear hK hS hb1 hb2 ho5 hb5' hb5 hb6'
                refine AnyT.done (by kernel_rfl) ?_ _
              all_goals
                have HBZ := Lib.hid (HBY.out.trans (hb6.mono HBY.out.size))
                clear hb6 HF0 HF1
                have hia := HIA.out.below HBZ.out
                obtain ⟨a0, hea, hc1, hi0, hi1⟩ := map_cell hia HNN.out (k := i + 1) (by omega)
                subst hea
                obtain ⟨_, he, hc2, hk0, hk1⟩ := map_cell hia HNN.out (k := k + 1) (by omega)
                injection he with he
                subst he
                obtain ⟨_, he, hc3, hx0, hx1⟩ := map_cell hia HNN.out (k := p1) hp17
                injection he with he
                subst he
                obtain ⟨_, he, hc4, hy0, hy1⟩ := map_cell hia HNN.out (k := p2) hp27
                injection he with he
                subst he
                obtain ⟨P, hP⟩ : ∃ P : Prop, P = prB a c i k := ⟨_, rfl⟩
                have HPR := Lib.hid (show P ↔ (a.getD p1 0 + a.getD p2 0) % 10007 = c * (a.getD (i + 1) 0 * a.getD (k + 1) 0 % 10007) % 10007 from by rw [hP]; unfold prB; rw [HTU.out, HTV.out, HE1.out, HE2.out])
                have HTG := Lib.hid (fun h : P => hTk.out.good (by rw [← hP]; exact h))
                have HTB := Lib.hid (fun h : ¬ P => show ToM a c i (k + 1) (u.length + v.length - 1) from by
                  have h2 := hTk.out.bad hlt (by omega) (by rw [HTU.out, HTV.out]; omega) (by rw [HTU.out, HTV.out]; omega) (by rw [← hP]; exact h)
                  rwa [HTU.out, HTV.out] at h2)
                clear hP
                generalize a.getD (i + 1) 0 = zi at hc1 hi0 hi1 HPR
                generalize a.getD (k + 1) 0 = zk at hc2 hk0 hk1 HPR
                generalize a.getD p1 0 = zx at hc3 hx0 hx1 HPR
                generalize a.getD p2 0 = zy at hc4 hy0 hy1 HPR
                obtain ⟨i1, hei⟩ : ∃ i1 : Nat, i1 = i + 1 := ⟨_, rfl⟩
                obtain ⟨k1, hek⟩ : ∃ k1 : Nat, k1 = k + 1 := ⟨_, rfl⟩
                have hwi : IntKind.i64.wrap ((i : Int) + 1) = (i1 : Int) := by rw [hei]; exact IntWalk.i64_in _ (by omega)
                have hwk : IntKind.i64.wrap ((k : Int) + 1) = (k1 : Int) := by rw [hek]; exact IntWalk.i64_in _ (by omega)
                have hwn : wrap64 ((u.length : Int) + (v.length : Int) - 1) = ((u.length + v.length - 1 : Nat) : Int) := by unfold wrap64; omega
                have hwm : IntKind.i64.wrap ((u.length : Int) + (v.length : Int) - 1) = ((u.length + v.length - 1 : Nat) : Int) := by rw [IntWalk.i64_in _ (by omega)]; omega
                have hws : IntKind.i64.wrap (zx + zy) = zx + zy := IntWalk.i64_in _ (by omega)
                have hbi1 : (i1 : Int) < 38 := by omega
                have hbi2 : i1 < 38 := by omega
                have hbk1 : (k1 : Int) < 38 := by omega
                have hbk2 : k1 < 38 := by omega
                have hbx1 : (p1 : Int) < 38 := by omega
                have hby1 : (p2 : Int) < 38 := by omega
                rw [← hei] at hc1
                rw [← hek] at hc2
                have HEK := Lib.hid hek
                clear hei hek hia
                obtain ⟨q, hq⟩ : ∃ q, q = c * (zi * zk % 10007) % 10007 := ⟨_, rfl⟩
                have HCL := Lib.hid (fun W => show Calls Tryz.prog g #[.int .i64 zi, .int .i64 zk] W fun e w' => e = .returned (.int .i64 q) ∧ W = w' from by rw [hq]; exact HP.out W zi zk ⟨hi0, hi1⟩ ⟨hk0, hk1⟩)
                have HNU := Lib.hid (fun W => i_num (zx + zy) W (by omega) (by omega))
                have HQ := Lib.hid (show P ↔ (zx + zy) % 10007 = q from by rw [HPR.out, hq])
                clear hq HPR
                go_upto_region 12 with fail
                go_quiet ((first
                  | (go_at_call 60; first | exact quiet_same0 (HNU.out _) | exact quiet_same (HNU.out _))
                  | (with_reducible first | exact quiet_same0 (HCL.out _) | exact quiet_same (HCL.out _))))
                by_cases hpq : (zx + zy) % 10007 = q
                · have hne2 : ((zx + zy) % 10007 != q) = false := by simp [hpq]
                  have HT2 := Lib.hid (HTG.out (HQ.out.2 hpq))
                  clear hpq
                  go_wp2_with fail
                  go_roundw
                  case rel => exact ⟨k + 1, m, by omega, by first | rw [← HEK.out] | go_num, rfl, HT2.out, below_drewN HBZ.out _⟩
                  case measure => have := HEK.out; simp [intOf]; omega
                · have hne2 : ((zx + zy) % 10007 != q) = true := by simp [hpq]
                  have HT2 := Lib.hid (HTB.out (fun h => hpq (HQ.out.1 h)))
                  clear hpq
                  go_wp2_with fail
                  go_roundw
                  case rel => exact ⟨k + 1, u.length + v.length - 1, by omega, by first | rw [← HEK.out] | go_num, rfl, HT2.out, below_drewN HBZ.out _⟩
                  case measure => have := HEK.out; simp [intOf]; omega
        · have hkl : k = i + 1 := by omega
          subst hkl
          have HT2 := Lib.hid hTk.out.row
          go_wp2_with fail
          go_roundw
          case rel => exact ⟨i + 1, m, by omega, by go_num, rfl, HT2.out, HBK.out⟩
          case measure => simp [intOf]; omega
    · have hil : i = 37 := by omega
      subst hil
      have HT2 := Lib.hid hT.out.fin
      go_wp2_with fail
      go_ret
      exact ⟨m, rfl, HT2.out, HBE.out.trans (HB.out.mono HBE.out.size)⟩
end Go.Proofs.YtdjhfeaimmpmhaaGreat

