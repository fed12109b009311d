/- Walks: productsTo of the program; SymplecticTo, HamiltonianTo. | Walks: symplecticTo, hamiltonianTo; SymplecticTo, HamiltonianTo of the program and of the reference. (printed by vgen.py) | Walk: l04Cut of the reference. | Walk: l04Turn of the reference: the recursion. -/
import Derived.Test.YtheldcjiogpbjaaGreatG15
import Derived.Test.YtheldcjiogpbjaaGreatG16
import Derived.Test.YtheldcjiogpbjaaGreatG17
import Derived.Test.YtheldcjiogpbjaaGreatG13
import Derived.Test.YtheldcjiogpbjaaGreatG9
import Derived.Test.YtheldcjiogpbjaaGreatG14
set_option maxRecDepth 100000
set_option linter.unusedVariables false
set_option linter.unusedSimpArgs false
namespace Go.Proofs.YtheldcjiogpbjaaGreat
open Go.RowKit

set_option maxHeartbeats 400000 in
theorem i_hamiltonianTo1 (w : World) (x y : Int) :
    Calls Tryz.prog 121 #[.int .i64 x, .int .i64 y] w fun e w' => e = .returned (.int .i64 (0 * (x * y % 10007) % 10007)) ∧ w = w' := by
  have HQ := Lib.hid (show 0 * (x * y % 10007) % 10007 = 0 from by simp)
  go_enter Tryz.func121, Tryz.ntmps121
  go_wp2_with fail
  go_ret
  exact ⟨ret_i64 HQ.out.symm, rfl⟩

set_option maxHeartbeats 16000000 in
theorem i_productsTo (w : World) (v va : Value) (B : Option Addr) (m0 d g : Nat) (a : List Int) (c : Int) (ha : Rows w v (T6n.map up)) (h1 : Ints w va a) (l1 : a.length = 38) (hN : Nums a)
    (hcf : ∀ (args : Array Value) (w : World), Sem.run Tryz.prog (callFunc g args) w = .ok (.enter g args) w)
    (hp : ∀ (W : World) (x y : Int), 0 ≤ x ∧ x ≤ 10006 → 0 ≤ y ∧ y ≤ 10006 → Calls Tryz.prog g #[.int .i64 x, .int .i64 y] W fun e w' => e = .returned (.int .i64 (c * (x * y % 10007) % 10007)) ∧ W = w') :
    Calls Tryz.prog 120 #[.agg #[v, .slice B m0 d], va, .func (.func g) #[] #[]] w fun e w' => ∃ r : Nat, e = .returned (.int .i64 r) ∧ ToR a c r ∧ Below w.heap.size w w' := by
  obtain ⟨A, cA, he, -, -, -⟩ := ha.open_
  rw [List.length_map, T6n_len] at he
  subst he
  have hbel : Below w.heap.size w (w.alloc (.cells #[.slice A 37 cA, .slice B m0 d] 46)) := below1 w _
  have HRA := Lib.hid (ha.below hbel)
  have HIA := Lib.hid (h1.below hbel)
  obtain ⟨A1, c1, rfl, -, -, -⟩ := h1.open_
  rw [l1] at HIA ⊢
  have HP := Lib.hid hp
  have HNN := Lib.hid hN
  have HBX := Lib.hid (Blk.new w #[.slice A 37 cA, .slice B m0 d] 46)
  have HBE := Lib.hid hbel
  have hb0 := HBX.out.cell 0
  obtain ⟨ad0, -, -, -, rfl, -⟩ := HRA.out.tree (i := 0) (by omega)
  have hcA : 37 ≤ cA := by
    obtain ⟨A', c', he, hcc, -, -⟩ := HRA.out.open_
    simp only [Value.slice.injEq] at he
    obtain ⟨-, -, rfl⟩ := he
    rw [List.length_map, T6n_len] at hcc
    exact hcc
  have HCA := Lib.hid hcA
  clear ha hbel h1 l1 hp hN hcA
  go_enter Tryz.func120, Tryz.ntmps120
  go_wp2_with fail
  generalize hwq : (w.alloc (.cells #[.slice (some ad0) 37 cA, .slice B m0 d] 46)) = wq at HRA HIA HBX HBE ⊢
  clear hwq
  go_loopw [7, 18] (fun o x wr => ∃ i m : Nat, i ≤ 37 ∧ x = .int .i64 i ∧ o = .int .i64 m ∧ Hid (ToM a c i 0 m) ∧ Below wq.heap.size wq wr) (fun _ x _ => 37 - (intOf x).toNat)
  case atStart => exact ⟨0, 6, by omega, rfl, rfl, ToM.start a c, Below.refl _ _⟩
  case round =>
    obtain ⟨i, m, hi, rfl, rfl, hT, hb⟩ := hrel
    rename World => wr
    have HB := Lib.hid hb
    clear hb
    by_cases hlt : i < 37
    · obtain ⟨ad, Au, cu, u, hade, hu, hui, hcuq⟩ := HRA.out.tree hlt
      injection hade with hade
      subst hade
      have htu := tr_at hu
      obtain ⟨-, hu1, hu6, hul⟩ := T6n_at (List.mem_of_getElem? hu)
      have hbk := HBX.out.below HB.out HBX.out.lt
      have hf0 : wr.cell? ⟨w.heap.size, 0, none⟩ = some (.slice (some ad0) 37 cA) := hbk.cell 0
      have hsl : ∀ W, (Instr.slice 43 (.slice (some ad0) 37 cA) none (some (.int .i64 ((i : Int) + 1))) none).run Tryz.prog W = .ok (.slice (some ad0) (i + 1) cA) W := by
        intro W
        have := HCA.out
        rw [sl_to Tryz.underlying43 sizeL W _ _ _ (i + 1) _ (by omega) (by omega)]
        have hne : ¬ cA = 0 := by omega
        simp [sliced, hne, Addr.add]
      have hii : (i : Int) < 37 := by omega
      have hcu := keepCell HB.out hcuq
      have HU := Lib.hid hui
      have HTU := Lib.hid htu
      have HUM := Lib.hid (List.mem_of_getElem? hu)
      clear hu hui htu hbk hcuq
      go_wp2_with fail
      go_loopw [7, 29] (fun o x wk => ∃ k m : Nat, k ≤ i + 1 ∧ x = .int .i64 k ∧ o = .int .i64 m ∧ Hid (ToM a c i k m) ∧ Below wq.heap.size wq wk) (fun _ x _ => i + 1 - (intOf x).toNat)
      case atStart => exact ⟨0, m, Nat.zero_le _, rfl, rfl, hT, HB.out⟩
      case round =>
        obtain ⟨k, m, hk, rfl, rfl, hTk, hbk0⟩ := hrel
        rename World => wk
        have HBK := Lib.hid hbk0
        have hm6 := hTk.out.le
        clear hbk0 hcu hf0 hsl
        by_cases hlk : k < i + 1
        · obtain ⟨ad, Av, cv, v, hade, hv, hvi, hcvq⟩ := HRA.out.tree (i := k) (by omega)
          injection hade with hade
          subst hade
          have htv := tr_at hv
          obtain ⟨-, hv1, hv6, hvl⟩ := T6n_at (List.mem_of_getElem? hv)
          have hcv := keepCell HBK.out hcvq
          have HTV := Lib.hid htv
          have HVM := Lib.hid (List.mem_of_getElem? hv)
          have HIu := Lib.hid (HU.out.below HBK.out)
          have HIv := Lib.hid (hvi.below HBK.out)
          have HVQ := Lib.hid hvi
          have HLU := Lib.hid (lib_lengthI wk _ _ HIu.out)
          have HLV := Lib.hid (lib_lengthI wk _ _ HIv.out)
          rw [up_len] at HLU HLV
          have hkk : (k : Int) < (i : Int) + 1 := by omega
          have hw1 : wrap64 ((u.length : Int) + (v.length : Int)) = (u.length : Int) + (v.length : Int) := by unfold wrap64; omega
          have hw2 : IntKind.i64.wrap ((u.length : Int) + (v.length : Int)) = (u.length : Int) + (v.length : Int) := IntWalk.i64_in _ (by omega)
          clear hv hvi htv hcvq
          by_cases hs : m < u.length + v.length
          · have hgt : decide ((m : Int) < (u.length : Int) + (v.length : Int)) = true := decide_eq_true (by omega)
            have hgt2 : (m : Int) < (u.length : Int) + (v.length : Int) := by omega
            have HT2 := Lib.hid (hTk.out.skip (by rw [HTU.out, HTV.out]; exact hs))
            clear hs
            go_wp2_with (go_at_call 68; first | (refine HLU.out.mono ?_; rintro e w0 ⟨rfl, rfl⟩) | (refine HLV.out.mono ?_; rintro e w0 ⟨rfl, rfl⟩))
            go_roundw
            case rel => exact ⟨k + 1, m, by omega, by go_num, rfl, HT2.out, HBK.out⟩
            case measure => simp [intOf]; omega
          · have hgt : decide ((m : Int) < (u.length : Int) + (v.length : Int)) = false := decide_eq_false (by omega)
            have hgt2 : ¬ (m : Int) < (u.length : Int) + (v.length : Int) := by omega
            obtain ⟨r1, -, g1t, g1i, -, g11, g17, g1l⟩ := gOk_at HUM.out HVM.out (by omega)
            obtain ⟨r2, -, g2t, g2i, -, g21, g27, g2l⟩ := gOk_at HVM.out HUM.out (by omega)
            obtain ⟨n1l, n1b⟩ := gNr_at HUM.out HVM.out (by omega)
            obtain ⟨n2l, n2b⟩ := gNr_at HVM.out HUM.out (by omega)
            obtain ⟨p1, hp1⟩ : ∃ p : Nat, gIdx u v = p := ⟨_, rfl⟩
            obtain ⟨p2, hp2⟩ : ∃ p : Nat, gIdx v u = p := ⟨_, rfl⟩
            have HX1 := Lib.hid (fun W x y an al (h1 : Ints W x (up u)) (h2 : Ints W y (up v)) (h3 : W.cell? an = some (.int .i64 0)) (h4 : W.cell? al = some y) => show Calls Tryz.prog 150 #[x, .slice (some an) 1 1, .slice (some al) 1 1] W _ from i_grafted W x y an al 1 1 u v r1 h1 h2 h3 h4 hu6 hv6 hu1 hul hvl g1t g1l (by rw [n1l]; omega) n1b (by rw [n1l]; omega))
            have HX2 := Lib.hid (fun W x y an al (h1 : Ints W x (up v)) (h2 : Ints W y (up u)) (h3 : W.cell? an = some (.int .i64 0)) (h4 : W.cell? al = some y) => show Calls Tryz.prog 150 #[x, .slice (some an) 1 1, .slice (some al) 1 1] W _ from i_grafted W x y an al 1 1 v u r2 h1 h2 h3 h4 hv6 hu6 hv1 hvl hul g2t g2l (by rw [n2l]; omega) n2b (by rw [n2l]; omega))
            have HP1 := Lib.hid (fun W x tv (h1 : Rows W x (T6n.map up)) (h2 : Ints W tv (up r1)) => show Calls Tryz.prog 66 #[.agg #[x, .slice B m0 d], tv] W fun e w' => e = .returned (.int .i64 (p1 : Nat)) ∧ Below W.heap.size W w' from by
              have h := i_place W x tv B m0 d T6n r1 h1 h2 (by rw [T6n_len]; omega)
              rw [g1i, hp1] at h
              exact h.mono fun e w' ⟨he, hw⟩ => ⟨he, by rw [hw]; exact below1 _ _⟩)
            have HP2 := Lib.hid (fun W x tv (h1 : Rows W x (T6n.map up)) (h2 : Ints W tv (up r2)) => show Calls Tryz.prog 66 #[.agg #[x, .slice B m0 d], tv] W fun e w' => e = .returned (.int .i64 (p2 : Nat)) ∧ Below W.heap.size W w' from by
              have h := i_place W x tv B m0 d T6n r2 h1 h2 (by rw [T6n_len]; omega)
              rw [g2i, hp2] at h
              exact h.mono fun e w' ⟨he, hw⟩ => ⟨he, by rw [hw]; exact below1 _ _⟩)
            have HE1 := Lib.hid hp1
            have HE2 := Lib.hid hp2
            have hp17 : p1 < 38 := by omega
            have hp27 : p2 < 38 := by omega
            have HRKwk := Lib.hid (HRA.out.below HBK.out)
            have hbkk := HBX.out.below HBK.out HBX.out.lt
            have hf0 : wk.cell? ⟨w.heap.size, 0, none⟩ = some (.slice (some ad0) 37 cA) := hbkk.cell 0
            have hf1 : wk.cell? ⟨w.heap.size, 1, none⟩ = some (.slice B m0 d) := hbkk.cell 1
            have hulen : 1 ≤ u.length + v.length := by omega
            clear g1t g1i g11 g17 g1l g2t g2i g21 g27 g2l n1l n1b n2l n2b hp1 hp2 hul hvl hbkk
            go_upto_region 10 with (go_at_call 68; first | (refine HLU.out.mono ?_; rintro e w0 ⟨rfl, rfl⟩) | (refine HLV.out.mono ?_; rintro e w0 ⟨rfl, rfl⟩))
            refine AnyT.begin (k := 7) (S := fun b w' => (w'.cell? ⟨w.heap.size, 0, none⟩ = some (.slice (some ad0) 37 cA) ∧ w'.cell? ⟨w.heap.size, 1, none⟩ = some (.slice B m0 d)) ∧ True) (by kernel_rfl) ?_
            have hS : (fun (b : Bool) (w' : World) => (w'.cell? ⟨w.heap.size, 0, none⟩ = some (.slice (some ad0) 37 cA) ∧ w'.cell? ⟨w.heap.size, 1, none⟩ = some (.slice B m0 d)) ∧ True) false wk.drew := ⟨⟨hf0, hf1⟩, trivial⟩
            have HF0 := Lib.hid hf0
            have HF1 := Lib.hid hf1
            clear hf0 hf1
            refine AnyT.take0 (i := 0) (v := ?_) rfl (by kernel_rfl) (by kernel_rfl) (by kernel_rfl) (by decide) (fun _ _ _ h => h) hS (Or.inl ⟨by first | kernel_rfl | rfl, ?_⟩) ?_
            rotate_left
            · rintro w' ⟨b, hw'⟩; obtain ⟨hw1, -⟩ := hw'; (try (obtain ⟨hw1, hw2⟩ := hw1)); (try (obtain ⟨hw2, hw3⟩ := hw2)); (try (obtain ⟨hw3, hw4⟩ := hw3)); go_simp; try with_reducible rfl
            try simp only [Act.put, List.setIfInBounds_toArray, List.set_cons_zero, List.set_cons_succ]
            refine AnyT.take0 (i := 1) (v := ?_) rfl (by kernel_rfl) (by kernel_rfl) (by kernel_rfl) (by decide) (fun _ _ _ h => h) hS (Or.inl ⟨by first | kernel_rfl | rfl, ?_⟩) ?_
            rotate_left
            · intro w' hw'; clear hw'; go_simp; try with_reducible rfl
            try simp only [Act.put, List.setIfInBounds_toArray, List.set_cons_zero, List.set_cons_succ]
            refine AnyT.take0 (i := 3) (v := ?_) rfl (by kernel_rfl) (by kernel_rfl) (by kernel_rfl) (by decide) (fun _ _ _ h => h) hS (Or.inl ⟨by first | kernel_rfl | rfl, ?_⟩) ?_
            rotate_left
            · intro w' hw'; clear hw'; go_simp; try with_reducible rfl
            try simp only [Act.put, List.setIfInBounds_toArray, List.set_cons_zero, List.set_cons_succ]
            refine AnyT.go (rs := [2, 4]) (by kernel_rfl) (by simp) ?_
            refine AllT.cons rfl (fun K hK => ?_) (AllT.cons rfl (fun K hK => ?_) AllT.nil)
            focus
              go_simp
              have hb1 : Below wk.heap.size wk (wk.drew.alloc (.cells #[.int .i64 0] tN)) := (((Below.refl wk.heap.size wk).drew).alloc (Nat.le_refl _) _)
              refine hK.out _ _ ⟨⟨keepCell hb1 HF0.out, keepCell hb1 HF1.out⟩, trivial⟩ (fun hS => ?_)
              clear hK
              try simp only [Act.put, List.setIfInBounds_toArray, List.set_cons_zero, List.set_cons_succ]
              refine AnyT.go (rs := [4]) (by kernel_rfl) (by simp) ?_
              refine AllT.cons rfl (fun K hK => ?_) AllT.nil
              go_simp
              have hb2 : Below wk.heap.size wk ((wk.drew.alloc (.cells #[.int .i64 0] tN)).alloc (.cells #[.slice Av v.length cv] tL)) := hb1.trans ((below1 _ _).mono hb1.size)
              refine hK.out _ _ ⟨⟨keepCell hb2 HF0.out, keepCell hb2 HF1.out⟩, trivial⟩ (fun hS => ?_)
              clear hK
              try simp only [Act.put, List.setIfInBounds_toArray, List.set_cons_zero, List.set_cons_succ]
              refine AnyT.go (rs := [5]) (by kernel_rfl) (by simp) ?_
              refine AllT.cons rfl (fun K hK => ?_) AllT.nil
              go_simp
              refine (HX1.out ((wk.drew.alloc (.cells #[.int .i64 0] tN)).alloc (.cells #[.slice Av v.length cv] tL)) _ _ ⟨wk.heap.size, 0, none⟩ ⟨wk.heap.size + 1, 0, none⟩ (HIu.out.below hb2) (HIv.out.below hb2) (((Blk.new wk.drew #[.int .i64 0] tN).alloc _).cell 0) ((Blk.new1 wk.drew _ #[.slice Av v.length cv] tL).cell 0)).mono ?_
              rintro e w5 ⟨x5, rfl, ho5, hb5'⟩
              have hb5 : Below wk.heap.size wk w5 := hb2.trans (hb5'.mono hb2.size)
              refine hK.out _ _ ⟨⟨keepCell hb5 HF0.out, keepCell hb5 HF1.out⟩, trivial⟩ (fun hS => ?_)
              clear hK
              try simp only [Act.put, List.setIfInBounds_toArray, List.set_cons_zero, List.set_cons_succ]
              refine AnyT.go (rs := [6]) (by kernel_rfl) (by simp) ?_
              refine AllT.cons rfl (fun K hK => ?_) AllT.nil
              go_simp
              refine (HP1.out w5 _ _ (HRKwk.out.below hb5) ho5.ints).mono ?_
              rintro e wy ⟨rfl, hb6'⟩
              have hb6 : Below wk.heap.size wk wy := hb5.trans (hb6'.mono hb5.size)
              refine hK.out _ _ ⟨⟨keepCell hb6 HF0.out, keepCell hb6 HF1.out⟩, trivial⟩ (fun hS => ?_)
              clear hK
              try simp only [Act.put, List.setIfInBounds_toArray, List.set_cons_zero, List.set_cons_succ]
              refine AnyT.go (rs := [7]) (by kernel_rfl) (by simp) ?_
              refine AllT.cons rfl (fun K hK => ?_) AllT.nil
              go_simp
              refine hK.out _ _ ⟨⟨keepCell hb6 HF0.out, keepCell hb6 HF1.out⟩, trivial⟩ (fun hS => ?_)
              clear hK hS hb1 hb2 ho5 hb5' hb5 hb6'
              refine AnyT.done (by kernel_rfl) ?_ _
            rotate_left
            focus
              go_simp
              have hb1 : Below wk.heap.size wk (wk.drew.alloc (.cells #[.slice Av v.length cv] tL)) := (((Below.refl wk.heap.size wk).drew).alloc (Nat.le_refl _) _)
              refine hK.out _ _ ⟨⟨keepCell hb1 HF0.out, keepCell hb1 HF1.out⟩, trivial⟩ (fun hS => ?_)
              clear hK
              try simp only [Act.put, List.setIfInBounds_toArray, List.set_cons_zero, List.set_cons_succ]
              refine AnyT.go (rs := [2]) (by kernel_rfl) (by simp) ?_
              refine AllT.cons rfl (fun K hK => ?_) AllT.nil
              go_simp
              have hb2 : Below wk.heap.size wk ((wk.drew.alloc (.cells #[.slice Av v.length cv] tL)).alloc (.cells #[.int .i64 0] tN)) := hb1.trans ((below1 _ _).mono hb1.size)
              refine hK.out _ _ ⟨⟨keepCell hb2 HF0.out, keepCell hb2 HF1.out⟩, trivial⟩ (fun hS => ?_)
              clear hK
              try simp only [Act.put, List.setIfInBounds_toArray, List.set_cons_zero, List.set_cons_succ]
              refine AnyT.go (rs := [5]) (by kernel_rfl) (by simp) ?_
              refine AllT.cons rfl (fun K hK => ?_) AllT.nil
              go_simp
              refine (HX1.out ((wk.drew.alloc (.cells #[.slice Av v.length cv] tL)).alloc (.cells #[.int .i64 0] tN)) _ _ ⟨wk.heap.size + 1, 0, none⟩ ⟨wk.heap.size, 0, none⟩ (HIu.out.below hb2) (HIv.out.below hb2) ((Blk.new1 wk.drew _ #[.int .i64 0] tN).cell 0) (((Blk.new wk.drew #[.slice Av v.length cv] tL).alloc _).cell 0)).mono ?_
              rintro e w5 ⟨x5, rfl, ho5, hb5'⟩
              have hb5 : Below wk.heap.size wk w5 := hb2.trans (hb5'.mono hb2.size)
              refine hK.out _ _ ⟨⟨keepCell hb5 HF0.out, keepCell hb5 HF1.out⟩, trivial⟩ (fun hS => ?_)
              clear hK
              try simp only [Act.put, List.setIfInBounds_toArray, List.set_cons_zero, List.set_cons_succ]
              refine AnyT.go (rs := [6]) (by kernel_rfl) (by simp) ?_
              refine AllT.cons rfl (fun K hK => ?_) AllT.nil
              go_simp
              refine (HP1.out w5 _ _ (HRKwk.out.below hb5) ho5.ints).mono ?_
              rintro e wy ⟨rfl, hb6'⟩
              have hb6 : Below wk.heap.size wk wy := hb5.trans (hb6'.mono hb5.size)
              refine hK.out _ _ ⟨⟨keepCell hb6 HF0.out, keepCell hb6 HF1.out⟩, trivial⟩ (fun hS => ?_)
              clear hK
              try simp only [Act.put, List.setIfInBounds_toArray, List.set_cons_zero, List.set_cons_succ]
              refine AnyT.go (rs := [7]) (by kernel_rfl) (by simp) ?_
              refine AllT.cons rfl (fun K hK => ?_) AllT.nil
              go_simp
              refine hK.out _ _ ⟨⟨keepCell hb6 HF0.out, keepCell hb6 HF1.out⟩, trivial⟩ (fun hS => ?_)
              clear hK hS hb1 hb2 ho5 hb5' hb5 hb6'
              refine AnyT.done (by kernel_rfl) ?_ _
            all_goals
              have HRKwy := Lib.hid (HRKwk.out.below hb6)
              have HBY := Lib.hid (HBK.out.trans (hb6.mono HBK.out.size))
              have HIu2 := HIu
              have HIv2 := HIv
              have hf0 := keepCell hb6 HF0.out
              have hf1 := keepCell hb6 HF1.out
              have hiu := HIu.out.below hb6
              have hiv := HIv.out.below hb6
              clear HIu HIv HF0 HF1 hb6
              have HIu := Lib.hid hiu
              have HIv := Lib.hid hiv
              clear hiu hiv
              go_upto_region 11 with fail
              refine AnyT.begin (k := 7) (S := fun b w' => (w'.cell? ⟨w.heap.size, 0, none⟩ = some (.slice (some ad0) 37 cA) ∧ w'.cell? ⟨w.heap.size, 1, none⟩ = some (.slice B m0 d)) ∧ True) (by kernel_rfl) ?_
              have hS : (fun (b : Bool) (w' : World) => (w'.cell? ⟨w.heap.size, 0, none⟩ = some (.slice (some ad0) 37 cA) ∧ w'.cell? ⟨w.heap.size, 1, none⟩ = some (.slice B m0 d)) ∧ True) false wy.drew := ⟨⟨hf0, hf1⟩, trivial⟩
              have HF0 := Lib.hid hf0
              have HF1 := Lib.hid hf1
              clear hf0 hf1
              refine AnyT.take0 (i := 0) (v := ?_) rfl (by kernel_rfl) (by kernel_rfl) (by kernel_rfl) (by decide) (fun _ _ _ h => h) hS (Or.inl ⟨by first | kernel_rfl | rfl, ?_⟩) ?_
              rotate_left
              · rintro w' ⟨b, hw'⟩; obtain ⟨hw1, -⟩ := hw'; (try (obtain ⟨hw1, hw2⟩ := hw1)); (try (obtain ⟨hw2, hw3⟩ := hw2)); (try (obtain ⟨hw3, hw4⟩ := hw3)); go_simp; try with_reducible rfl
              try simp only [Act.put, List.setIfInBounds_toArray, List.set_cons_zero, List.set_cons_succ]
              refine AnyT.take0 (i := 1) (v := ?_) rfl (by kernel_rfl) (by kernel_rfl) (by kernel_rfl) (by decide) (fun _ _ _ h => h) hS (Or.inl ⟨by first | kernel_rfl | rfl, ?_⟩) ?_
              rotate_left
              · intro w' hw'; clear hw'; go_simp; try with_reducible rfl
              try simp only [Act.put, List.setIfInBounds_toArray, List.set_cons_zero, List.set_cons_succ]
              refine AnyT.take0 (i := 3) (v := ?_) rfl (by kernel_rfl) (by kernel_rfl) (by kernel_rfl) (by decide) (fun _ _ _ h => h) hS (Or.inl ⟨by first | kernel_rfl | rfl, ?_⟩) ?_
              rotate_left
              · intro w' hw'; clear hw'; go_simp; try with_reducible rfl
              try simp only [Act.put, List.setIfInBounds_toArray, List.set_cons_zero, List.set_cons_succ]
              refine AnyT.go (rs := [2, 4]) (by kernel_rfl) (by simp) ?_
              refine AllT.cons rfl (fun K hK => ?_) (AllT.cons rfl (fun K hK => ?_) AllT.nil)
              focus
                go_simp
                have hb1 : Below wy.heap.size wy (wy.drew.alloc (.cells #[.int .i64 0] tN)) := (((Below.refl wy.heap.size wy).drew).alloc (Nat.le_refl _) _)
                refine hK.out _ _ ⟨⟨keepCell hb1 HF0.out, keepCell hb1 HF1.out⟩, trivial⟩ (fun hS => ?_)
                clear hK
                try simp only [Act.put, List.setIfInBounds_toArray, List.set_cons_zero, List.set_cons_succ]
                refine AnyT.go (rs := [4]) (by kernel_rfl) (by simp) ?_
                refine AllT.cons rfl (fun K hK => ?_) AllT.nil
                go_simp
                have hb2 : Below wy.heap.size wy ((wy.drew.alloc (.cells #[.int .i64 0] tN)).alloc (.cells #[.slice Au u.length cu] tL)) := hb1.trans ((below1 _ _).mono hb1.size)
                refine hK.out _ _ ⟨⟨keepCell hb2 HF0.out, keepCell hb2 HF1.out⟩, trivial⟩ (fun hS => ?_)
                clear hK
                try simp only [Act.put, List.setIfInBounds_toArray, List.set_cons_zero, List.set_cons_succ]
                refine AnyT.go (rs := [5]) (by kernel_rfl) (by simp) ?_
                refine AllT.cons rfl (fun K hK => ?_) AllT.nil
                go_simp
                refine (HX2.out ((wy.drew.alloc (.cells #[.int .i64 0] tN)).alloc (.cells #[.slice Au u.length cu] tL)) _ _ ⟨wy.heap.size, 0, none⟩ ⟨wy.heap.size + 1, 0, none⟩ (HIv.out.below hb2) (HIu.out.below hb2) (((Blk.new wy.drew #[.int .i64 0] tN).alloc _).cell 0) ((Blk.new1 wy.drew _ #[.slice Au u.length cu] tL).cell 0)).mono ?_
                rintro e w5 ⟨x5, rfl, ho5, hb5'⟩
                have hb5 : Below wy.heap.size wy w5 := hb2.trans (hb5'.mono hb2.size)
                refine hK.out _ _ ⟨⟨keepCell hb5 HF0.out, keepCell hb5 HF1.out⟩, trivial⟩ (fun hS => ?_)
                clear hK
                try simp only [Act.put, List.setIfInBounds_toArray, List.set_cons_zero, List.set_cons_succ]
                refine AnyT.go (rs := [6]) (by kernel_rfl) (by simp) ?_
                refine AllT.cons rfl (fun K hK => ?_) AllT.nil
                go_simp
                refine (HP2.out w5 _ _ (HRKwy.out.below hb5) ho5.ints).mono ?_
                rintro e wz ⟨rfl, hb6'⟩
                have hb6 : Below wy.heap.size wy wz := hb5.trans (hb6'.mono hb5.size)
                refine hK.out _ _ ⟨⟨keepCell hb6 HF0.out, keepCell hb6 HF1.out⟩, trivial⟩ (fun hS => ?_)
                clear hK
                try simp only [Act.put, List.setIfInBounds_toArray, List.set_cons_zero, List.set_cons_succ]
                refine AnyT.go (rs := [7]) (by kernel_rfl) (by simp) ?_
                refine AllT.cons rfl (fun K hK => ?_) AllT.nil
                go_simp
                refine hK.out _ _ ⟨⟨keepCell hb6 HF0.out, keepCell hb6 HF1.out⟩, trivial⟩ (fun hS => ?_)
                clear hK hS hb1 hb2 ho5 hb5' hb5 hb6'
                refine AnyT.done (by kernel_rfl) ?_ _
              rotate_left
              focus
                go_simp
                have hb1 : Below wy.heap.size wy (wy.drew.alloc (.cells #[.slice Au u.length cu] tL)) := (((Below.refl wy.heap.size wy).drew).alloc (Nat.le_refl _) _)
                refine hK.out _ _ ⟨⟨keepCell hb1 HF0.out, keepCell hb1 HF1.out⟩, trivial⟩ (fun hS => ?_)
                clear hK
                try simp only [Act.put, List.setIfInBounds_toArray, List.set_cons_zero, List.set_cons_succ]
                refine AnyT.go (rs := [2]) (by kernel_rfl) (by simp) ?_
                refine AllT.cons rfl (fun K hK => ?_) AllT.nil
                go_simp
                have hb2 : Below wy.heap.size wy ((wy.drew.alloc (.cells #[.slice Au u.length cu] tL)).alloc (.cells #[.int .i64 0] tN)) := hb1.trans ((below1 _ _).mono hb1.size)
                refine hK.out _ _ ⟨⟨keepCell hb2 HF0.out, keepCell hb2 HF1.out⟩, trivial⟩ (fun hS => ?_)
                clear hK
                try simp only [Act.put, List.setIfInBounds_toArray, List.set_cons_zero, List.set_cons_succ]
                refine AnyT.go (rs := [5]) (by kernel_rfl) (by simp) ?_
                refine AllT.cons rfl (fun K hK => ?_) AllT.nil
                go_simp
                refine (HX2.out ((wy.drew.alloc (.cells #[.slice Au u.length cu] tL)).alloc (.cells #[.int .i64 0] tN)) _ _ ⟨wy.heap.size + 1, 0, none⟩ ⟨wy.heap.size, 0, none⟩ (HIv.out.below hb2) (HIu.out.below hb2) ((Blk.new1 wy.drew _ #[.int .i64 0] tN).cell 0) (((Blk.new wy.drew #[.slice Au u.length cu] tL).alloc _).cell 0)).mono ?_
                rintro e w5 ⟨x5, rfl, ho5, hb5'⟩
                have hb5 : Below wy.heap.size wy w5 := hb2.trans (hb5'.mono hb2.size)
                refine hK.out _ _ ⟨⟨keepCell hb5 HF0.out, keepCell hb5 HF1.out⟩, trivial⟩ (fun hS => ?_)
                clear hK
                try simp only [Act.put, List.setIfInBounds_toArray, List.set_cons_zero, List.set_cons_succ]
                refine AnyT.go (rs := [6]) (by kernel_rfl) (by simp) ?_
                refine AllT.cons rfl (fun K hK => ?_) AllT.nil
                go_simp
                refine (HP2.out w5 _ _ (HRKwy.out.below hb5) ho5.ints).mono ?_
                rintro e wz ⟨rfl, hb6'⟩
                have hb6 : Below wy.heap.size wy wz := hb5.trans (hb6'.mono hb5.size)
                refine hK.out _ _ ⟨⟨keepCell hb6 HF0.out, keepCell hb6 HF1.out⟩, trivial⟩ (fun hS => ?_)
                clear hK
                try simp only [Act.put, List.setIfInBounds_toArray, List.set_cons_zero, List.set_cons_succ]
                refine AnyT.go (rs := [7]) (by kernel_rfl) (by simp) ?_
                refine AllT.cons rfl (fun K hK => ?_) AllT.nil
                go_simp
                refine hK.out _ _ ⟨⟨keepCell hb6 HF0.out, keepCell hb6 HF1.out⟩, trivial⟩ (fun hS => ?_)
                clear hK hS hb1 hb2 ho5 hb5' hb5 hb6'
                refine AnyT.done (by kernel_rfl) ?_ _
              all_goals
                have HBZ := Lib.hid (HBY.out.trans (hb6.mono HBY.out.size))
                clear hb6 HF0 HF1
                have hia := HIA.out.below HBZ.out
                obtain ⟨a0, hea, hc1, hi0, hi1⟩ := map_cell hia HNN.out (k := i + 1) (by omega)
                subst hea
                obtain ⟨_, he, hc2, hk0, hk1⟩ := map_cell hia HNN.out (k := k + 1) (by omega)
                injection he with he
                subst he
                obtain ⟨_, he, hc3, hx0, hx1⟩ := map_cell hia HNN.out (k := p1) hp17
                injection he with he
                subst he
                obtain ⟨_, he, hc4, hy0, hy1⟩ := map_cell hia HNN.out (k := p2) hp27
                injection he with he
                subst he
                obtain ⟨P, hP⟩ : ∃ P : Prop, P = prB a c i k := ⟨_, rfl⟩
                have HPR := Lib.hid (show P ↔ (a.getD p1 0 + a.getD p2 0) % 10007 = c * (a.getD (i + 1) 0 * a.getD (k + 1) 0 % 10007) % 10007 from by rw [hP]; unfold prB; rw [HTU.out, HTV.out, HE1.out, HE2.out])
                have HTG := Lib.hid (fun h : P => hTk.out.good (by rw [← hP]; exact h))
                have HTB := Lib.hid (fun h : ¬ P => show ToM a c i (k + 1) (u.length + v.length - 1) from by
                  have h2 := hTk.out.bad hlt (by omega) (by rw [HTU.out, HTV.out]; omega) (by rw [HTU.out, HTV.out]; omega) (by rw [← hP]; exact h)
                  rwa [HTU.out, HTV.out] at h2)
                clear hP
                generalize a.getD (i + 1) 0 = zi at hc1 hi0 hi1 HPR
                generalize a.getD (k + 1) 0 = zk at hc2 hk0 hk1 HPR
                generalize a.getD p1 0 = zx at hc3 hx0 hx1 HPR
                generalize a.getD p2 0 = zy at hc4 hy0 hy1 HPR
                obtain ⟨i1, hei⟩ : ∃ i1 : Nat, i1 = i + 1 := ⟨_, rfl⟩
                obtain ⟨k1, hek⟩ : ∃ k1 : Nat, k1 = k + 1 := ⟨_, rfl⟩
                have hwi : IntKind.i64.wrap ((i : Int) + 1) = (i1 : Int) := by rw [hei]; exact IntWalk.i64_in _ (by omega)
                have hwk : IntKind.i64.wrap ((k : Int) + 1) = (k1 : Int) := by rw [hek]; exact IntWalk.i64_in _ (by omega)
                have hwn : wrap64 ((u.length : Int) + (v.length : Int) - 1) = ((u.length + v.length - 1 : Nat) : Int) := by unfold wrap64; omega
                have hwm : IntKind.i64.wrap ((u.length : Int) + (v.length : Int) - 1) = ((u.length + v.length - 1 : Nat) : Int) := by rw [IntWalk.i64_in _ (by omega)]; omega
                have hws : IntKind.i64.wrap (zx + zy) = zx + zy := IntWalk.i64_in _ (by omega)
                have hbi1 : (i1 : Int) < 38 := by omega
                have hbi2 : i1 < 38 := by omega
                have hbk1 : (k1 : Int) < 38 := by omega
                have hbk2 : k1 < 38 := by omega
                have hbx1 : (p1 : Int) < 38 := by omega
                have hby1 : (p2 : Int) < 38 := by omega
                rw [← hei] at hc1
                rw [← hek] at hc2
                have HEK := Lib.hid hek
                clear hei hek hia
                obtain ⟨q, hq⟩ : ∃ q, q = c * (zi * zk % 10007) % 10007 := ⟨_, rfl⟩
                have HCL := Lib.hid (fun W => show Calls Tryz.prog g #[.int .i64 zi, .int .i64 zk] W fun e w' => e = .returned (.int .i64 q) ∧ W = w' from by rw [hq]; exact HP.out W zi zk ⟨hi0, hi1⟩ ⟨hk0, hk1⟩)
                have HNU := Lib.hid (fun W => i_num (zx + zy) W (by omega) (by omega))
                have HQ := Lib.hid (show P ↔ (zx + zy) % 10007 = q from by rw [HPR.out, hq])
                clear hq HPR
                go_upto_region 12 with fail
                go_quiet ((first
                  | (go_at_call 65; first | exact quiet_same0 (HNU.out _) | exact quiet_same (HNU.out _))
                  | (with_reducible first | exact quiet_same0 (HCL.out _) | exact quiet_same (HCL.out _))))
                by_cases hpq : (zx + zy) % 10007 = q
                · have hne2 : ((zx + zy) % 10007 != q) = false := by simp [hpq]
                  have HT2 := Lib.hid (HTG.out (HQ.out.2 hpq))
                  clear hpq
                  go_wp2_with fail
                  go_roundw
                  case rel => exact ⟨k + 1, m, by omega, by first | rw [← HEK.out] | go_num, rfl, HT2.out, below_drewN HBZ.out _⟩
                  case measure => have := HEK.out; simp [intOf]; omega
                · have hne2 : ((zx + zy) % 10007 != q) = true := by simp [hpq]
                  have HT2 := Lib.hid (HTB.out (fun h => hpq (HQ.out.1 h)))
                  clear hpq
                  go_wp2_with fail
                  go_roundw
                  case rel => exact ⟨k + 1, u.length + v.length - 1, by omega, by first | rw [← HEK.out] | go_num, rfl, HT2.out, below_drewN HBZ.out _⟩
                  case measure => have := HEK.out; simp [intOf]; omega
        · have hkl : k = i + 1 := by omega
          subst hkl
          have HT2 := Lib.hid hTk.out.row
          go_wp2_with fail
          go_roundw
          case rel => exact ⟨i + 1, m, by omega, by go_num, rfl, HT2.out, HBK.out⟩
          case measure => simp [intOf]; omega
    · have hil : i = 37 := by omega
      subst hil
      have HT2 := Lib.hid hT.out.fin
      go_wp2_with fail
      go_ret
      exact ⟨m, rfl, HT2.out, HBE.out.trans (HB.out.mono HBE.out.size)⟩
end Go.Proofs.YtheldcjiogpbjaaGreat
set_option maxRecDepth 100000
set_option linter.unusedVariables false
set_option linter.unusedSimpArgs false
namespace Go.Proofs.YtheldcjiogpbjaaGreat
open Go.RowKit

theorem chr_of' {a : List Int} (h : chrC a = 0) : mapB a = true ∧ a.getD 0 0 = 1 := by
  unfold chrC at h
  cases hm : mapB a with
  | false => rw [hm] at h; simp at h
  | true =>
    rw [hm] at h
    refine ⟨rfl, ?_⟩
    by_cases e : a.getD 0 0 = 1
    · exact e
    · rw [if_pos rfl, if_neg e] at h; exact absurd h (by decide)
theorem inf_of {a : List Int} (h : infC a = 0) : mapB a = true ∧ a.getD 0 0 = 0 := by
  unfold infC at h
  cases hm : mapB a with
  | false => rw [hm] at h; simp at h
  | true =>
    rw [hm] at h
    refine ⟨rfl, ?_⟩
    by_cases e : a.getD 0 0 = 0
    · exact e
    · rw [if_pos rfl, if_neg e] at h; exact absurd h (by decide)
theorem Frm.opens' {w : World} {B : Nat} {v : Value} (h : Frm w B v) : ∃ A c Ay my cy, v = .agg #[.slice A 37 c, .slice Ay my cy] ∧ Rows w (.slice A 37 c) (T6n.map up) := by
  obtain ⟨x, y, us, rfl, h1, h2, -⟩ := h
  obtain ⟨A, c, he, -, -, -⟩ := h1.rows.open_
  rw [List.length_map, T6n_len] at he
  subst he
  obtain ⟨Ay, cy, rfl, -, -⟩ := h2.cells.open_
  exact ⟨A, c, Ay, _, cy, rfl, h1.rows⟩
open Classical in
noncomputable def toV (a : List Int) (c : Int) : Nat := if h : ∃ r, ToR a c r then Classical.choose h else 0
theorem toV_is {a : List Int} {c : Int} {r : Nat} (h : ToR a c r) : toV a c = r := by
  have hx : ∃ r, ToR a c r := ⟨r, h⟩
  unfold toV
  rw [dif_pos hx]
  exact (Classical.choose_spec hx).unique h
noncomputable def stoR (a : List Int) : Int := if chrC a = 0 then (toV a 1 : Nat) else 0
noncomputable def htoR (a : List Int) : Int := if infC a = 0 then (toV a 0 : Nat) else 0

set_option maxHeartbeats 2000000 in
theorem i_hamiltonianTo (w : World) (v va : Value) (B : Option Addr) (m0 d : Nat) (a : List Int) (ha : Rows w v (T6n.map up)) (h1 : Ints w va a) (l1 : a.length = 38) (hN : Nums a) :
    Calls Tryz.prog 87 #[.agg #[v, .slice B m0 d], va] w fun e w' => e = .returned (.int .i64 (toV a 0 : Nat)) ∧ Below w.heap.size w w' := by
  obtain ⟨A, cA, he, -, -, -⟩ := ha.open_
  rw [List.length_map, T6n_len] at he
  subst he
  have hbel : Below w.heap.size w (w.alloc (.cells #[.slice A 37 cA, .slice B m0 d] 46)) := below1 w _
  have HP := Lib.hid (i_productsTo (w.alloc (.cells #[.slice A 37 cA, .slice B m0 d] 46)) (.slice A 37 cA) va B m0 d 121 a 0 (ha.below hbel) (h1.below hbel) l1 hN (fun _ _ => by kernel_rfl) (fun V x y hx hy => i_hamiltonianTo1 V x y))
  have HB := Lib.hid hbel
  clear ha hbel h1 l1 hN
  go_enter Tryz.func87, Tryz.ntmps87
  go_wp2_with (go_at_call 120; refine HP.out.mono ?_; rintro e w1 ⟨r, rfl, hr, hb⟩)
  go_ret
  exact ⟨ret_i64 (by rw [toV_is hr]), HB.out.trans (hb.mono HB.out.size)⟩

end Go.Proofs.YtheldcjiogpbjaaGreat
set_option maxRecDepth 100000
set_option linter.unusedVariables false
set_option linter.unusedSimpArgs false
namespace Go.Proofs.YtheldcjiogpbjaaGreat
open Go.RowKit

set_option maxHeartbeats 16000000 in
theorem s_l04Cut (w : World) (v : Value) (t a' b' : List Nat) (N : Nat) (ha : Ints w v (up t)) (hk : okL t = true) (hn : N < t.length) (hge : allGe (t.getD N 0) (braL t N) = true) (hu : canO 9 (trkL t N) = some a') (hv : canO 9 (braM t N) = some b') :
    Calls Tryz.prog 173 #[v, .int .i64 N] w fun e w' => ∃ x y, e = .returned (.tuple #[x, y]) ∧ OwnInts w' w.heap.size tI x (up a') ∧ OwnInts w' w.heap.size tI y (up b') ∧ Below w.heap.size w w' := by
  obtain ⟨A, c, rfl, l1, l2, h3⟩ := ha.open_
  rw [up_len] at l1 h3 ha ⊢
  have HA := Lib.hid ha
  have hk2 := okL_of hk
  obtain ⟨he1, he2⟩ := endN_le hn
  obtain ⟨ad, z, rfl, hz, -, hcz⟩ := h3 N hn
  obtain ⟨a, hla, rfl⟩ := up_getD hz
  have hga : t.getD N 0 = a := by simp [List.getD, hla]
  have hbm : braM t N = (braL t N).map fun x => x - a := by unfold braM; rw [hga]
  rw [hga] at hge
  rw [hbm] at hv
  have ha1 := hk2.2 a (List.mem_of_getElem? hla)
  have H3 := Lib.hid h3
  have HK := Lib.hid hk2
  have HGE := Lib.hid (allGe_of hge)
  have HU := Lib.hid (show canO 9 (t.take N ++ t.drop (endN t N)) = some a' from hu)
  have HV := Lib.hid hv
  have HEN := Lib.hid (s_l04End w _ t N HA.out hn (by have := hk2.1; omega))
  have OL := Lib.hid (fun d => show OwnInts ((w.drewN d).alloc (.cells #[] tI)) w.heap.size tI (.slice (some ⟨w.heap.size, 0, none⟩) 0 0) (up (((braL t N).take 0).map fun x => x - a)) from ⟨by simpa [up, ints] using own_lit (w.drewN d) tI [] (by simp [maxLen]), by simp [up]⟩)
  have HNN := Lib.hid hn
  clear hk hge hu hv hbm hk2 h3 hz hla hga ha
  go_enter Tryz.func173, Tryz.ntmps173
  go_wp2_with (go_at_call 149; refine HEN.out.mono ?_; rintro e w1 ⟨rfl, n1, rfl⟩)
  go_loopw [7, 8] (fun o x wr => ∃ j : Nat, N + j ≤ endN t N ∧ x = .int .i64 (N + j : Nat) ∧ OwnInts wr w.heap.size tI o (up (((braL t N).take j).map fun x => x - a)) ∧ Below w.heap.size w wr) (fun _ x _ => endN t N - (intOf x).toNat)
  case atStart => exact ⟨0, by omega, by go_num, OL.out _, (below_drewN (Below.refl w.heap.size w) _).alloc (Nat.le_refl _) _⟩
  case round =>
    obtain ⟨j, hj, rfl, ho, hb⟩ := hrel
    have HO := Lib.hid ho
    have HB := Lib.hid hb
    clear ho hb OL
    by_cases hlt : N + j < endN t N
    · obtain ⟨av, zb, hae, hzb, -, hcb0⟩ := H3.out (N + j) (by omega)
      injection hae with hae
      subst hae
      obtain ⟨b, hlb, rfl⟩ := up_getD hzb
      have hcb : wr.cell? (ad.add (N + j)) = some (.int .i64 (b : Int)) := by
        rw [HB.out.cell (by rw [block_add]; have := World.block_lt_of_cell? w _ hcb0; rwa [block_add] at this)]; exact hcb0
      have hcn : wr.cell? (ad.add N) = some (.int .i64 (a : Int)) := by
        rw [HB.out.cell (by rw [block_add]; have := World.block_lt_of_cell? w _ hcz; rwa [block_add] at this)]; exact hcz
      have hbr : (braL t N)[j]? = some b := by
        unfold braL
        rw [List.getElem?_drop, List.getElem?_take_of_lt hlt]; exact hlb
      have hba := HGE.out b (List.mem_of_getElem? hbr)
      have hb1 := HK.out.2 b (List.mem_of_getElem? hlb)
      have hNi : (N : Int) < (t.length : Int) := by omega
      have hN0 : (0 : Int) ≤ (N : Int) := by omega
      have hji : ((N + j : Nat) : Int) < (t.length : Int) := by omega
      have hj0 : (0 : Int) ≤ ((N + j : Nat) : Int) := by omega
      have hjE : ((N + j : Nat) : Int) < (endN t N : Nat) := by omega
      have hbd1 : -9223372036854775808 ≤ (b : Int) - (a : Int) ∧ (b : Int) - (a : Int) ≤ 9223372036854775807 := by omega
      have hbd2 : -9223372036854775808 ≤ ((N + j : Nat) : Int) + 1 ∧ ((N + j : Nat) : Int) + 1 ≤ 9223372036854775807 := by have := HK.out.1; omega
      have hz64 : In64 ((b : Int) - (a : Int)) := by unfold In64; omega
      have HTS := Lib.hid (show ((braL t N).take (j + 1)).map (fun x => x - a) = ((braL t N).take j).map (fun x => x - a) ++ [b - a] from by rw [List.take_add_one, hbr]; simp)
      have HUZ := Lib.hid (show up [b - a] = [(b : Int) - (a : Int)] from by simp [up]; omega)
      have HLE := Lib.hid (show (ints (up (((braL t N).take j).map fun x => x - a))).length ≤ 1000 from by
        rw [ints_len, up_len, List.length_map, List.length_take]; have := HK.out.1; omega)
      have hB := HB.out.size
      have hw1 := w64_in' _ hbd1
      have hw1' := IntWalk.i64_in _ hbd1
      have hw2 := w64_in' _ hbd2
      have hw2' := IntWalk.i64_in _ hbd2
      clear hbd1 hbd2 hcb0 hzb hlb
      generalize hi : N + j = i at *
      have HI := Lib.hid hi
      clear hi
      go_wp2_with fail
      go_region_law (refine stp_app1 T_int (B := w.heap.size) (W := wr.drew.alloc (.cells #[.int .i64 ((b : Int) - (a : Int))] tI)) (u := .int .i64 ((b : Int) - (a : Int))) (ad := ⟨wr.heap.size, 0, none⟩) (HO.out.1.below (((Below.refl _ _).drew).alloc (Nat.le_refl _) _)) (by have := HLE.out; clear hw1 hw1' hw2 hw2'; omega) (by clear hw1 hw1' hw2 hw2'; simp; omega) (by rfl) rfl (by rfl) (by rfl) (by rfl) ((Blk.new wr.drew _ _).cell 0) ?_; intro v7 w7 hown7 hgr7)
      all_goals
        have HN7 := Lib.hid (own_pushed HO.out.2 hz64 hown7 HUZ.out)
        have hbd : Below wr.heap.size wr (wr.drew.alloc (.cells #[.int .i64 ((b : Int) - (a : Int))] tI)) := ((Below.refl _ _).drew).alloc (Nat.le_refl _) _
        have HB7 := Lib.hid (hgr7.below (HB.out.trans (hbd.mono hB)) (by clear hw1 hw1' hw2 hw2'; simp; omega) HO.out.1.ge)
        clear hown7 hgr7 hbd hcb hcn hw1 hw1'
        go_wp2_with fail
        go_roundw
        case rel =>
          clear hw2 hw2'
          have h := HN7.out
          rw [← HTS.out] at h
          have hi := HI.out
          exact ⟨j + 1, by omega, by rw [← hi]; go_num, h, HB7.out⟩
        case measure => clear hw2 hw2'; have hi := HI.out; simp [intOf]; omega
    · have hje : N + j = endN t N := by omega
      obtain ⟨X1, hx1, hi1⟩ := ints_to HA.out N ((N : Nat) : Int) rfl (by rw [up_len]; omega)
      obtain ⟨X2, hx2, hi2⟩ := ints_from HA.out (endN t N) ((endN t N : Nat) : Int) rfl (by rw [up_len]; exact he2)
      rw [up_take] at hi1
      rw [up_len, up_drop] at hi2
      rw [up_len] at hx2
      have hb0 : Below wr.heap.size wr wr.drew := (Below.refl wr.heap.size wr).drew
      have HX1 := Lib.hid (hi1.below HB.out)
      have HX2 := Lib.hid (hi2.below HB.out)
      have HBL := Lib.hid (show (braL t N).length = j from by unfold braL; rw [List.length_drop, List.length_take]; omega)
      have HTB := Lib.hid (show (braL t N).take j = braL t N from List.take_of_length_le (by rw [HBL.out]; exact Nat.le_refl _))
      have HTK := Lib.hid (show (t.take N).length ≤ 100 from by rw [List.length_take]; have := HK.out.1; omega)
      have HDL := Lib.hid (show (t.drop (endN t N)).length ≤ 100 from by rw [List.length_drop]; have := HK.out.1; omega)
      have HSB := Lib.hid (show ((braL t N).map fun x => x - a).length ≤ 1000 ∧ ∀ l ∈ (braL t N).map (fun x => x - a), l ≤ 1000000 from by
        refine ⟨by rw [List.length_map, HBL.out]; have := HK.out.1; omega, fun l hl => ?_⟩
        obtain ⟨x, hx, rfl⟩ := List.mem_map.1 hl
        have := HK.out.2 x (List.mem_of_mem_take (List.mem_of_mem_drop hx)); omega)
      have HST := Lib.hid (show (t.take N ++ t.drop (endN t N)).length ≤ 1000 ∧ ∀ l ∈ t.take N ++ t.drop (endN t N), l ≤ 1000000 from by
        refine ⟨by rw [List.length_append]; have := HTK.out; have := HDL.out; omega, fun l hl => ?_⟩
        rcases List.mem_append.1 hl with hl | hl
        · have := HK.out.2 l (List.mem_of_mem_take hl); omega
        · have := HK.out.2 l (List.mem_of_mem_drop hl); omega)
      have hji : ¬ (((N + j : Nat) : Int) < (endN t N : Nat)) := by omega
      have ho := HO.out
      rw [HTB.out] at ho
      have HQ := Lib.hid ho
      have HBC := Lib.hid hb0
      clear ho HO
      generalize hi : N + j = i at *
      clear hi hje hi1 hi2 hcz hb0
      go_wp2_with fail
      go_region_law (first
        | (go_simp; go_at_call 135; refine (s_l01OwnT _ _ (up (t.take N)) (HX1.out.below HBC.out) (by rw [up_len]; have := HTK.out; omega)).mono ?_; rintro e w5 ⟨x5, rfl, ho5, hb5⟩; (try (have HAP := Lib.hid (apart_of_lt HC2.out.1.lt ho5.1.ge))); have HO5 := Lib.hid (ho5.mono HBC.out.size); (try (have HC2 := Lib.hid (HC2.out.below hb5))); have HBC := Lib.hid (HBC.out.trans (hb5.mono HBC.out.size)); clear ho5 hb5)
        | (go_simp; have hgo := HN7; clear hgo; go_at_call 123; with_reducible refine (s_l03Canon 9 _ v7 _ a' HN7.out.ints HU.out HST.out.1 HST.out.2).mono ?_; rintro e w8 ⟨x8, rfl, ho8, hb8⟩; have HC1 := Lib.hid (ho8.mono HBC.out.size); (try (have HC2 := Lib.hid (HC2.out.below hb8))); have HBC := Lib.hid (HBC.out.trans (hb8.mono HBC.out.size)); clear ho8 hb8)
        | (go_simp; go_at_call 123; with_reducible refine (s_l03Canon 9 _ _ _ b' (HQ.out.below HBC.out).ints HV.out HSB.out.1 HSB.out.2).mono ?_; rintro e w9 ⟨x9, rfl, ho9, hb9⟩; (try (have HAP := Lib.hid (apart_of_lt HO5.out.1.lt ho9.1.ge).symm)); have HC2 := Lib.hid (ho9.mono HBC.out.size); (try (have HO5 := Lib.hid (HO5.out.below hb9))); (try (have HN7 := Lib.hid (HN7.out.below hb9))); (try (have HC1 := Lib.hid (HC1.out.below hb9))); have HBC := Lib.hid (HBC.out.trans (hb9.mono HBC.out.size)); clear ho9 hb9)
        | (have hgo := HO5; clear hgo; go_loud (refine stp_appN T_int HO5.out.1 (HX2.out.below HBC.out).1 (by have h1 := HTK.out; have h2 := HDL.out; rw [ints_len, ints_len, up_len, up_len]; omega) HBC.out.size (ints_oneT _) (by rfl) rfl (by rfl) (by rfl) ?_; intro v7 w7 hown7 hgr7; have HN7 := Lib.hid (show OwnInts w7 wr.heap.size tI v7 (up (t.take N ++ t.drop (endN t N))) from by rw [up_append]; exact ⟨by simpa [ints] using hown7, fun y hy => by rcases List.mem_append.1 hy with hy | hy; exact HO5.out.2 y hy; exact HX2.out.2 y hy⟩); (try (have HC2 := Lib.hid (HC2.out.kept hgr7.1 HAP.out))); have HBC := Lib.hid (hgr7.below HBC.out HBC.out.size HO5.out.1.ge); clear HO5 hown7 hgr7)))
      all_goals
        go_wp2_with fail
        go_ret2
        exact ⟨_, _, rfl, HC1.out.mono HB.out.size, HC2.out.mono HB.out.size, HB.out.trans (HBC.out.mono HB.out.size)⟩
end Go.Proofs.YtheldcjiogpbjaaGreat
set_option maxRecDepth 100000
set_option linter.unusedVariables false
set_option linter.unusedSimpArgs false
namespace Go.Proofs.YtheldcjiogpbjaaGreat
open Go.RowKit

set_option maxHeartbeats 16000000 in
theorem s_l04Turn : ∀ (f : Nat) (w : World) (v : Value) (t r : List Nat) (node : Nat), Ints w v (up t) → turV f t node = some r →
    Calls Tryz.prog 172 #[v, .int .i64 node] w fun e w' => ∃ x, e = .returned x ∧ OwnInts w' w.heap.size tI x (up r) ∧ Below w.heap.size w w' := by
  intro f
  induction f with
  | zero => intro w v t r node _ h; cases h
  | succ f ih =>
    intro w v t r node ha hr
    obtain ⟨A, c, rfl, l1, l2, h3⟩ := ha.open_
    rw [up_len] at l1 h3 ha ⊢
    have HA := Lib.hid ha
    have IH := Lib.hid ih
    clear ha ih
    cases node with
    | zero =>
      rw [turV] at hr
      cases hk : okL t with
      | false => rw [hk] at hr; cases hr
      | true =>
        rw [hk] at hr
        have HR := Lib.hid (show canO 9 t = some r from hr)
        have HK := Lib.hid (okL_of hk)
        clear hr hk h3
        go_enter Tryz.func172, Tryz.ntmps172
        go_wp2_with (first
          | (go_at_call 123; refine (s_l03Canon 9 _ _ t r HA.out HR.out (by have := HK.out.1; omega) (fun l hl => by have := HK.out.2 l hl; omega)).mono ?_; rintro e w1 ⟨x1, rfl, hx1, hb1⟩; have HX1 := Lib.hid hx1; have HB1 := Lib.hid hb1; clear hx1 hb1))
        go_ret
        exact ⟨_, rfl, HX1.out, HB1.out⟩
    | succ nd =>
      obtain ⟨hk, hn, hge, P, q, hP, hq, hkq, hrr⟩ := turV_succ hr
      obtain ⟨N, hN⟩ : ∃ N, N = nd + 1 := ⟨_, rfl⟩
      rw [← hN] at hn hge hP hq hrr ⊢
      clear hr
      have hk2 := okL_of hk
      obtain ⟨he1, he2⟩ := endN_le hn
      obtain ⟨ad, z, rfl, hz, -, hcz⟩ := h3 N hn
      obtain ⟨a, hla, rfl⟩ := up_getD hz
      have hga : t.getD N 0 = a := by simp [List.getD, hla]
      rw [hga] at hP hge hrr
      have ha1 := hk2.2 a (List.mem_of_getElem? hla)
      have H3 := Lib.hid h3
      have HK := Lib.hid hk2
      have HGE := Lib.hid (allGe_of hge)
      have HQ := Lib.hid hq
      have HKQ := Lib.hid (okL_of hkq)
      have HRR := Lib.hid hrr
      have HP := Lib.hid hP
      have HPL := Lib.hid (parV_lt hP)
      have HEN := Lib.hid (s_l04End w _ t N HA.out hn (by have := hk2.1; omega))
      have hw1 : IntKind.i64.wrap ((N : Int) - 1) = (nd : Int) := by rw [IntWalk.i64_in _ (by omega)]; omega
      have HW2 := Lib.hid (show -9223372036854775808 ≤ (a : Int) - 1 ∧ (a : Int) - 1 ≤ 9223372036854775807 from by omega)
      have hni : (N : Int) < (t.length : Int) := by omega
      have hn0 : (0 : Int) ≤ (N : Int) := by omega
      have hne0 : decide ((N : Int) = 0) = false := by simp; omega
      have hne : ¬ ((N : Int) = 0) := by omega
      have HNE := Lib.hid hN
      clear hN hk hge hq hkq hrr hP hk2 h3 hz hla
      go_enter Tryz.func172, Tryz.ntmps172
      go_wp2_with fail
      go_loopw [5] (fun x wr => ∃ p d : Nat, p + 1 ≤ N ∧ x = .int .i64 p ∧ Hid (parV t a (p + 1) = some P) ∧ wr = w.drewN d) (fun x _ => (intOf x).toNat)
      case atStart => exact ⟨nd, 0, by have := HNE.out; omega, by go_num, by rw [← HNE.out]; exact HP.out, rfl⟩
      case round =>
        obtain ⟨p, d, hpn, rfl, HPP, rfl⟩ := hrel
        obtain ⟨ad', z, hae, hz, -, hce⟩ := H3.out p (by omega)
        injection hae with hae
        subst hae
        obtain ⟨b, hlb, rfl⟩ := up_getD hz
        have hgb : t.getD p 0 = b := by simp [List.getD, hlb]
        have hb1 := HK.out.2 b (List.mem_of_getElem? hlb)
        have hpi : (p : Int) < (t.length : Int) := by omega
        have hp0 : (0 : Int) ≤ (p : Int) := by omega
        have hpp := HPP.out
        rw [parV, hgb] at hpp
        clear hz hlb hgb HPP
        by_cases hab : b + 1 = a
        · have hbeq : Nat.beq (b + 1) a = true := by rw [hab]; exact Nat.beq_refl a
          rw [hbeq] at hpp
          have hpP : p = P := by cases hpp; rfl
          have hd1 : decide ((b : Int) = (a : Int) - 1) = true := by simp; omega
          have hd2 : (b : Int) = (a : Int) - 1 := by omega
          clear hpp hbeq
          subst hpP
          have hw2 := IntWalk.i64_in _ HW2.out
          have hw2' := w64_in' _ HW2.out
          go_wp2_with fail
          go_quiet (fail)
          clear hw2 hw2' hd1 hd2
          go_wp2_with (first
            | (go_at_call 149; refine (s_l04End _ _ t N (HA.out.drewN _) (by assumption) (by have := HK.out.1; omega)).mono ?_; rintro e w1 ⟨rfl, n1, rfl⟩))
          clear hn0 hni hne0 hne hw1
          go_loopw [7, 8] (fun o x wr => ∃ j : Nat, N + j ≤ endN t N ∧ x = .int .i64 (N + j : Nat) ∧ OwnInts wr w.heap.size tI o (up (((braL t N).take j).map fun x => x - a)) ∧ Below w.heap.size w wr) (fun _ x _ => endN t N - (intOf x).toNat)
          case atStart =>
            refine ⟨0, by omega, by go_num, ?_, ?_⟩
            · exact ⟨by simpa [up, ints] using own_lit (w.drewN _) tI [] (by simp [maxLen]), by simp [up]⟩
            · exact (below_drewN (Below.refl w.heap.size w) _).alloc (Nat.le_refl _) _
          case round =>
            obtain ⟨j, hj, rfl, ho, hb⟩ := hrel
            have HO := Lib.hid ho
            have HB := Lib.hid hb
            clear ho hb
            by_cases hlt : N + j < endN t N
            · obtain ⟨av, zb, hae, hzb, -, hcb0⟩ := H3.out (N + j) (by omega)
              injection hae with hae
              subst hae
              obtain ⟨b, hlb, rfl⟩ := up_getD hzb
              have hcb : wr.cell? (ad.add (N + j)) = some (.int .i64 (b : Int)) := by
                rw [HB.out.cell (by rw [block_add]; have := World.block_lt_of_cell? w _ hcb0; rwa [block_add] at this)]; exact hcb0
              have hcn : wr.cell? (ad.add N) = some (.int .i64 (a : Int)) := by
                rw [HB.out.cell (by rw [block_add]; have := World.block_lt_of_cell? w _ hcz; rwa [block_add] at this)]; exact hcz
              have hbr : (braL t N)[j]? = some b := by
                unfold braL
                rw [List.getElem?_drop, List.getElem?_take_of_lt hlt]; exact hlb
              have hba := HGE.out b (List.mem_of_getElem? hbr)
              have hb1 := HK.out.2 b (List.mem_of_getElem? hlb)
              have hNi : (N : Int) < (t.length : Int) := by omega
              have hN0 : (0 : Int) ≤ (N : Int) := by omega
              have hji : ((N + j : Nat) : Int) < (t.length : Int) := by omega
              have hj0 : (0 : Int) ≤ ((N + j : Nat) : Int) := by omega
              have hjE : ((N + j : Nat) : Int) < (endN t N : Nat) := by omega
              have hbd1 : -9223372036854775808 ≤ (b : Int) - (a : Int) ∧ (b : Int) - (a : Int) ≤ 9223372036854775807 := by omega
              have hbd2 : -9223372036854775808 ≤ ((N + j : Nat) : Int) + 1 ∧ ((N + j : Nat) : Int) + 1 ≤ 9223372036854775807 := by omega
              have hz64 : In64 ((b : Int) - (a : Int)) := by unfold In64; omega
              have HTS := Lib.hid (show ((braL t N).take (j + 1)).map (fun x => x - a) = ((braL t N).take j).map (fun x => x - a) ++ [b - a] from by rw [List.take_add_one, hbr]; simp)
              have HUZ := Lib.hid (show up [b - a] = [(b : Int) - (a : Int)] from by simp [up]; omega)
              have HLE := Lib.hid (show (ints (up (((braL t N).take j).map fun x => x - a))).length ≤ 1000 from by
                rw [ints_len, up_len, List.length_map, List.length_take]; have := HK.out.1; omega)
              have hB := HB.out.size
              have hw1 := w64_in' _ hbd1
              have hw1' := IntWalk.i64_in _ hbd1
              have hw2 := w64_in' _ hbd2
              have hw2' := IntWalk.i64_in _ hbd2
              clear hbd1 hbd2 hcb0 hzb hlb
              generalize hi : N + j = i at *
              have HI := Lib.hid hi
              clear hi
              go_wp2_with fail
              go_region_law (refine stp_app1 T_int (B := w.heap.size) (W := wr.drew.alloc (.cells #[.int .i64 ((b : Int) - (a : Int))] tI)) (u := .int .i64 ((b : Int) - (a : Int))) (ad := ⟨wr.heap.size, 0, none⟩) (HO.out.1.below (((Below.refl _ _).drew).alloc (Nat.le_refl _) _)) (by have := HLE.out; clear hw1 hw1' hw2 hw2'; omega) (by clear hw1 hw1' hw2 hw2'; simp; omega) (by rfl) rfl (by rfl) (by rfl) (by rfl) ((Blk.new wr.drew _ _).cell 0) ?_; intro v7 w7 hown7 hgr7)
              all_goals
                have HN7 := Lib.hid (own_pushed HO.out.2 hz64 hown7 HUZ.out)
                have hbd : Below wr.heap.size wr (wr.drew.alloc (.cells #[.int .i64 ((b : Int) - (a : Int))] tI)) := ((Below.refl _ _).drew).alloc (Nat.le_refl _) _
                have HB7 := Lib.hid (hgr7.below (HB.out.trans (hbd.mono hB)) (by clear hw1 hw1' hw2 hw2'; simp; omega) HO.out.1.ge)
                clear hown7 hgr7 hbd hcb hcn hw1 hw1'
                go_wp2_with fail
                go_roundw
                case rel =>
                  clear hw2 hw2'
                  have h := HN7.out
                  rw [← HTS.out] at h
                  have hi := HI.out
                  exact ⟨j + 1, by omega, by rw [← hi]; go_num, h, HB7.out⟩
                case measure => clear hw2 hw2'; have hi := HI.out; simp [intOf]; omega
            · have hje : N + j = endN t N := by omega
              obtain ⟨X1, hx1, hi1⟩ := ints_to HA.out N ((N : Nat) : Int) rfl (by rw [up_len]; omega)
              obtain ⟨X2, hx2, hi2⟩ := ints_from HA.out (endN t N) ((endN t N : Nat) : Int) rfl (by rw [up_len]; exact he2)
              rw [up_take] at hi1
              rw [up_len, up_drop] at hi2
              rw [up_len] at hx2
              have HI1 := Lib.hid (hi1.below HB.out)
              have HI2 := Lib.hid (hi2.below HB.out)
              have HBL := Lib.hid (show (braL t N).length = j from by unfold braL; rw [List.length_drop, List.length_take]; omega)
              have HTB := Lib.hid (show (braL t N).take j = braL t N from List.take_of_length_le (by rw [HBL.out]; exact Nat.le_refl _))
              have HTK := Lib.hid (show (t.take N).length ≤ 100 from by rw [List.length_take]; have := HK.out.1; omega)
              have HDL := Lib.hid (show (t.drop (endN t N)).length ≤ 100 from by rw [List.length_drop]; have := HK.out.1; omega)
              have hji : ¬ (((N + j : Nat) : Int) < (endN t N : Nat)) := by omega
              generalize hi : N + j = i at *
              have HI := Lib.hid hi
              have HJE := Lib.hid hje
              clear hi hje hi1 hi2 hcz
              go_wp2_with fail
              go_region_law (first
                | (go_simp; go_at_call 135; refine (s_l01OwnT _ _ (up (t.take N)) (HI1.out.below (Below.refl wr.heap.size wr).drew) (by rw [up_len]; have := HTK.out; omega)).mono ?_; rintro e w5 ⟨x5, rfl, ho5, hb5⟩; have HO5 := Lib.hid ho5; have HB5 := Lib.hid hb5; clear ho5 hb5)
                | (refine stp_appN T_int HO5.out.1 ((HI2.out.below (Below.refl wr.heap.size wr).drew).below HB5.out).1 (by have h1 := HTK.out; have h2 := HDL.out; rw [ints_len, ints_len, up_len, up_len]; omega) HB5.out.size (ints_oneT _) (by rfl) rfl (by rfl) (by rfl) ?_; intro v7 w7 hown7 hgr7))
              all_goals
                have HN7 := Lib.hid (show OwnInts w7 wr.heap.size tI v7 (up (t.take N ++ t.drop (endN t N))) from by rw [up_append]; exact ⟨by simpa [ints] using hown7, fun y hy => by rcases List.mem_append.1 hy with hy | hy; exact HI1.out.2 y hy; exact HI2.out.2 y hy⟩)
                have HB7 := Lib.hid (HB.out.trans ((hgr7.below ((Below.refl wr.heap.size wr).drew.trans HB5.out) HB5.out.size HO5.out.1.ge).mono HB.out.size))
                have HOR := Lib.hid (HO.out.below (hgr7.below ((Below.refl wr.heap.size wr).drew.trans HB5.out) HB5.out.size HO5.out.1.ge))
                clear hown7 hgr7
                rw [HTB.out] at HOR
                go_wp2_with (first
                  | (go_at_call 172; refine (IH.out _ _ _ q p HN7.out.ints HQ.out).mono ?_; rintro e w8 ⟨x8, rfl, ho8, hb8⟩; have HO8 := Lib.hid ho8; have HB8 := Lib.hid hb8; clear ho8 hb8)
                  | (go_at_call 119; (refine (s_l04Graft _ _ _ ((braL t N).map fun x => x - a) q r 0 (HOR.out.below HB8.out).ints HO8.out.ints (by rw [List.length_map, HBL.out]; have := HJE.out; have := HI.out; omega) (by rw [List.length_map, HBL.out]; have := HJE.out; have := HI.out; have := HK.out.1; omega) HKQ.out.1 (fun l hl => by obtain ⟨x, hx, rfl⟩ := List.mem_map.1 hl; have := HK.out.2 x (List.mem_of_mem_take (List.mem_of_mem_drop hx)); omega) HKQ.out.2 HRR.out).mono ?_; rintro e w9 ⟨x9, rfl, ho9, hb9⟩; have HO9 := Lib.hid ho9; have HB9 := Lib.hid hb9; clear ho9 hb9)))
                go_ret
                exact ⟨_, rfl, HO9.out.mono (Nat.le_trans HB7.out.size HB8.out.size), (HB7.out.trans (HB8.out.mono HB7.out.size)).trans (HB9.out.mono (Nat.le_trans HB7.out.size HB8.out.size))⟩
        · have hbeq : Nat.beq (b + 1) a = false := by
            cases h : Nat.beq (b + 1) a with
            | true => exact absurd (Nat.eq_of_beq_eq_true h) hab
            | false => rfl
          rw [hbeq] at hpp
          have hpp' : parV t a p = some P := hpp
          have hp1 : 0 < p := by
            cases p with
            | zero => cases hpp'
            | succ p => omega
          obtain ⟨p', hp'⟩ : ∃ p', p = p' + 1 := ⟨p - 1, by omega⟩
          have HPP2 := Lib.hid (show parV t a (p' + 1) = some P from by rw [← hp']; exact hpp')
          have hd1 : decide ((b : Int) = (a : Int) - 1) = false := by simp; omega
          have hd2 : ¬ ((b : Int) = (a : Int) - 1) := by omega
          have hw3 : IntKind.i64.wrap ((p : Int) - 1) = (p' : Int) := by rw [IntWalk.i64_in _ (by omega)]; omega
          have HPE := Lib.hid hp'
          clear hpp hpp' hbeq hp'
          have hw2 := IntWalk.i64_in _ HW2.out
          have hw2' := w64_in' _ HW2.out
          go_wp2_with fail
          go_quiet (fail)
          go_wp2_with fail
          go_roundw
          case rel => clear hw2 hw2'; exact ⟨p', _, by have := HPE.out; omega, by go_num, HPP2.out, by first | rfl | exact World.drewN_drewN ..⟩
          case measure => clear hw2 hw2' hw3; have := HPE.out; simp [intOf]; omega
end Go.Proofs.YtheldcjiogpbjaaGreat
