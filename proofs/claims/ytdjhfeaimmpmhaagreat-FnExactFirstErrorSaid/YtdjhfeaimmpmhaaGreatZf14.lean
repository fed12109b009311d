/- Plain: the cuts of a tree as the program splits it, with every premise of the walk. | Walks of the library's Grow, Concat at lists of lists of numbers. -/
import Derived.Test.YtdjhfeaimmpmhaaGreatZf13
import Derived.Test.YtdjhfeaimmpmhaaGreatZf12
import Derived.Test.YtdjhfeaimmpmhaaGreatZf11
import Derived.WalkLawsBesides
import Derived.Lib.AppendZeros
set_option linter.unusedVariables false
set_option linter.unusedSimpArgs false
set_option maxRecDepth 100000
namespace Go.Proofs.YtdjhfeaimmpmhaaGreat

/-- the cuts of a product -/
def combS (s : SP) (c : SP) : SP := (s.1 ++ c.1, s.2 ++ c.2)
def prodS (xs ys : List SP) : List SP := xs.flatMap fun s => ys.map (combS s)
def okF1 (f : List (List Nat)) : Bool := Nat.ble f.length 19 && f.all fun b => Nat.ble b.length 50 && b.all fun l => Nat.ble l 1000
def okS1 (s : SP) : Bool := okF1 s.1 && okF1 s.2
def okLs (l : List SP) : Bool := Nat.ble l.length 500 && l.all okS1
/-- the root stays: one trunk -/
def okT1 (t : List Nat) : Bool := Nat.ble t.length 100 && t.all fun l => Nat.ble l 1000
def trunkV (s : SP) : Option SP := bif okT1 (rootN s.2) && Nat.ble (brLen s.2) 1000 then match canO 9 (rootN s.2) with
    | none => none
    | some r => bif okT1 r then some (s.1, [r]) else none
  else none
def loopV (g : List Nat → Option (List SP)) : List (List Nat) → List SP → Option (List SP)
  | [], acc => some acc
  | b :: bs, acc => match g b with
    | none => none
    | some lb => bif okLs lb && okLs (prodS acc lb) then loopV g bs (prodS acc lb) else none
def splV : Nat → List Nat → Option (List SP)
  | 0, _ => none
  | f + 1, t => bif okT1 t then match brO t with
      | none => none
      | some bs => match loopV (splV f) bs [([], [])] with
        | none => none
        | some l => bif okLs l then match mapO trunkV l with
            | none => none
            | some l2 => match canO 9 t with
              | none => none
              | some c => bif okLs l2 then some (l2 ++ [([c], [])]) else none
          else none
    else none
theorem splV_6 : (List.range 6).all (fun n => (treesN (n + 1)).all fun t => match splV 9 t with | none => false | some l => okLs l) = true := by decide +kernel

theorem okF1_of {f : List (List Nat)} (h : okF1 f = true) : SmallF f ∧ (∀ b ∈ f, b.length ≤ 50 ∧ ∀ l ∈ b, l ≤ 1000) := by
  unfold okF1 at h
  rw [Bool.and_eq_true, List.all_eq_true] at h
  have h2 : ∀ b ∈ f, b.length ≤ 50 ∧ ∀ l ∈ b, l ≤ 1000 := fun b hb => by
    have := h.2 b hb
    rw [Bool.and_eq_true, List.all_eq_true] at this
    exact ⟨Nat.le_of_ble_eq_true this.1, fun l hl => Nat.le_of_ble_eq_true (this.2 l hl)⟩
  exact ⟨⟨Nat.le_of_ble_eq_true h.1, fun b hb => by have := (h2 b hb).1; omega⟩, h2⟩
theorem okLs_of {l : List SP} (h : okLs l = true) : l.length ≤ 500 ∧ ∀ s ∈ l, (SmallF s.1 ∧ SmallF s.2) ∧ (∀ b ∈ s.2, b.length ≤ 50 ∧ ∀ x ∈ b, x ≤ 1000) := by
  unfold okLs at h
  rw [Bool.and_eq_true, List.all_eq_true] at h
  refine ⟨Nat.le_of_ble_eq_true h.1, fun s hs => ?_⟩
  have := h.2 s hs
  unfold okS1 at this
  rw [Bool.and_eq_true] at this
  exact ⟨⟨(okF1_of this.1).1, (okF1_of this.2).1⟩, (okF1_of this.2).2⟩
theorem okT1_of {t : List Nat} (h : okT1 t = true) : t.length ≤ 100 ∧ ∀ l ∈ t, l ≤ 1000 := by
  unfold okT1 at h
  rw [Bool.and_eq_true, List.all_eq_true] at h
  exact ⟨Nat.le_of_ble_eq_true h.1, fun l hl => Nat.le_of_ble_eq_true (h.2 l hl)⟩
theorem trunkV_some {s s' : SP} (h : trunkV s = some s') : okT1 (rootN s.2) = true ∧ brLen s.2 ≤ 1000 ∧ ∃ r, canO 9 (rootN s.2) = some r ∧ okT1 r = true ∧ s' = (s.1, [r]) := by
  unfold trunkV at h
  cases h1 : okT1 (rootN s.2) with
  | false => rw [h1] at h; cases h
  | true =>
    cases h2 : Nat.ble (brLen s.2) 1000 with
    | false => rw [h1, h2] at h; cases h
    | true =>
      rw [h1, h2] at h
      simp only [Bool.and_self, cond_true] at h
      refine ⟨rfl, Nat.le_of_ble_eq_true h2, ?_⟩
      cases h3 : canO 9 (rootN s.2) with
      | none => rw [h3] at h; cases h
      | some r =>
        rw [h3] at h
        simp only at h
        cases h4 : okT1 r with
        | false => rw [h4] at h; cases h
        | true => rw [h4] at h; injection h with h; exact ⟨r, rfl, h4, h.symm⟩
theorem loopV_cons {g : List Nat → Option (List SP)} {b : List Nat} {bs : List (List Nat)} {acc r : List SP} (h : loopV g (b :: bs) acc = some r) : ∃ lb, g b = some lb ∧ okLs lb = true ∧ okLs (prodS acc lb) = true ∧ loopV g bs (prodS acc lb) = some r := by
  rw [loopV] at h
  cases h1 : g b with
  | none => rw [h1] at h; cases h
  | some lb =>
    rw [h1] at h
    simp only at h
    cases h2 : okLs lb with
    | false => rw [h2] at h; cases h
    | true =>
      cases h3 : okLs (prodS acc lb) with
      | false => rw [h2, h3] at h; cases h
      | true => rw [h2, h3] at h; exact ⟨lb, rfl, h2, h3, h⟩
theorem splV_succ {f : Nat} {t : List Nat} {r : List SP} (h : splV (f + 1) t = some r) : okT1 t = true ∧ ∃ bs l l2 c, brO t = some bs ∧ loopV (splV f) bs [([], [])] = some l ∧ okLs l = true ∧ mapO trunkV l = some l2 ∧ canO 9 t = some c ∧ okLs l2 = true ∧ r = l2 ++ [([c], [])] := by
  rw [splV] at h
  cases h1 : okT1 t with
  | false => rw [h1] at h; cases h
  | true =>
    rw [h1] at h
    refine ⟨rfl, ?_⟩
    simp only [cond_true] at h
    cases h2 : brO t with
    | none => rw [h2] at h; cases h
    | some bs =>
      rw [h2] at h
      simp only at h
      cases h3 : loopV (splV f) bs [([], [])] with
      | none => rw [h3] at h; cases h
      | some l =>
        rw [h3] at h
        simp only at h
        cases h4 : okLs l with
        | false => rw [h4] at h; cases h
        | true =>
          rw [h4] at h
          simp only [cond_true] at h
          cases h5 : mapO trunkV l with
          | none => rw [h5] at h; cases h
          | some l2 =>
            rw [h5] at h
            simp only at h
            cases h6 : canO 9 t with
            | none => rw [h6] at h; cases h
            | some c =>
              rw [h6] at h
              simp only at h
              cases h7 : okLs l2 with
              | false => rw [h7] at h; cases h
              | true => rw [h7] at h; injection h with h; exact ⟨bs, l, l2, c, rfl, h3, h4, h5, rfl, h7, h.symm⟩
theorem prodS_succ {xs ys : List SP} {j : Nat} {s : SP} (h : xs[j]? = some s) : prodS (xs.take (j + 1)) ys = prodS (xs.take j) ys ++ ys.map (combS s) := by
  rw [List.take_add_one, h]
  simp [prodS]
end Go.Proofs.YtdjhfeaimmpmhaaGreat

set_option maxRecDepth 100000
set_option linter.unusedVariables false
set_option linter.unusedSimpArgs false
namespace Go.Proofs.YtdjhfeaimmpmhaaGreat
open Go.RowKit

theorem keepCellE {w w' : World} {ad : Addr} {v : Value} (hb : Below w.heap.size w w') (h : w.cell? ad = some v) : w'.cell? ad = some v := by rw [hb.cell (World.block_lt_of_cell? w _ h)]; exact h
set_option maxHeartbeats 2000000 in
theorem lib_GrowF (w : World) (n : Nat) (hn : n ≤ 1000000) :
    Calls Tryz.prog 236 #[.slice none 0 0, .int .i64 (n : Int)] w fun e w' => ∃ r, e = .returned r ∧ Own w' w.heap.size tL r [] ∧ Below w.heap.size w w' := by
  by_cases h0 : n = 0
  · subst h0
    go_enter Tryz.func236, Tryz.ntmps236
    go_wp2
    go_ret
    exact ⟨_, rfl, Own.nil _ _ _, Below.refl _ _⟩
  · obtain ⟨i, hi, hz, h1, h2⟩ := info_parts T_row.info
    have hp : (0 : Int) < (n : Int) := by omega
    have hr := Go.Lib.run_append_nil_zeros (P := Tryz.prog) w 43 3 43 tL i (.slice none 0 0) .i64 .i64 T_row.under Tryz.underlying3 hi hz n (by omega) (by rw [h1]; omega) (by omega) (by rw [h2]; omega)
    have hge := grownCap_ge w n 0 tL
    have hcm := grownCap_le_maxLen w n 0 tL (by simp only [maxLen]; omega)
    have hO : Own (w.drew.alloc (.cells (Builtin.zeroCells (Value.cells (.slice none 0 0)) n ++ Builtin.zeroCells (Value.cells (.slice none 0 0)) (grownCap w n 0 tL - n)) tL)) w.heap.size tL (.slice (some ⟨w.heap.size, 0, none⟩) 0 (grownCap w n 0 tL)) [] :=
      World.ownsRow_made (w := w.drew) (base := w.heap.size) (e := tL) (size := 1) _ (grownCap w n 0 tL) (Nat.le_refl _) hcm (by simp [size_zeroCells, Value.cells]; omega)
    have HO := Lib.hid hO
    have HB := Lib.hid ((Below.refl w.heap.size w).drew.alloc (Nat.le_refl _) (.cells (Builtin.zeroCells (Value.cells (.slice none 0 0)) n ++ Builtin.zeroCells (Value.cells (.slice none 0 0)) (grownCap w n 0 tL - n)) tL))
    have HR := Lib.hid hr
    have hcm' : grownCap w n 0 tL ≤ 9223372036854775807 := by simpa [maxLen] using hcm
    clear hO hr hcm
    generalize grownCap w n 0 tL = cp at hge hcm' HO HB HR
    generalize (w.drew.alloc (.cells (Builtin.zeroCells (Value.cells (.slice none 0 0)) n ++ Builtin.zeroCells (Value.cells (.slice none 0 0)) (cp - n)) tL)) = w1 at HO HB HR
    go_enter Tryz.func236, Tryz.ntmps236
    go_wp2_with (at_builtin; refine Go.Lib.wpList_append_run w rfl _ _ _ _ (by rfl) _ _ (by rfl) (by rfl) _ _ HR.out ?_)
    go_ret
    exact ⟨_, rfl, HO.out, HB.out⟩

set_option maxHeartbeats 4000000 in
/-- two lists of slices, laid side by side in a block -/
theorem lib_ConcatF (w : World) (g : Nat) (c : Nat) (A1 A2 : Option Addr) (c1 c2 : Nat) (vs1 vs2 : List Value) (hc : 2 ≤ c) (hcm : c ≤ 9223372036854775807) (k0 : w.cell? ⟨g, 0, none⟩ = some (.slice A1 vs1.length c1)) (k1 : w.cell? ⟨g, 1, none⟩ = some (.slice A2 vs2.length c2))
    (h1 : Cells w (.slice A1 vs1.length c1) vs1) (h2 : Cells w (.slice A2 vs2.length c2) vs2) (o1 : ∀ u ∈ vs1, u.oneCell' = true) (o2 : ∀ u ∈ vs2, u.oneCell' = true) (hn : vs1.length + vs2.length ≤ 100000) :
    Calls Tryz.prog 213 #[.slice (some ⟨g, 0, none⟩) 2 c] w fun e w' => ∃ r, e = .returned r ∧ Own w' w.heap.size tL r (vs1 ++ vs2) ∧ Below w.heap.size w w' := by
  have H1 := Lib.hid h1
  have H2 := Lib.hid h2
  have O1 := Lib.hid o1
  have O2 := Lib.hid o2
  have K0 := Lib.hid k0
  have K1 := Lib.hid k1
  have hl1 : vs1.length ≤ 100000 := by omega
  have hl2 : vs2.length ≤ 100000 := by omega
  clear h1 h2 o1 o2 k0 k1
  go_enter Tryz.func213, Tryz.ntmps213
  go_wp2_with fail
  go_loopw [3, 11] (fun s i wr => ∃ k : Nat, k ≤ 2 ∧ i = .int .i64 k ∧ s = .int .i64 ((if k = 0 then 0 else if k = 1 then vs1.length else vs1.length + vs2.length : Nat) : Int) ∧ w = wr) (fun _ i _ => 2 - (intOf i).toNat)
  case atStart => exact ⟨0, Nat.zero_le _, rfl, rfl, rfl⟩
  case round =>
    obtain ⟨k, hk, rfl, rfl, rfl⟩ := hrel
    have hkk : k = 0 ∨ k = 1 ∨ k = 2 := by omega
    rcases hkk with rfl | rfl | rfl
    · have hc0 := K0.out
      simp only [if_true]
      go_wp2_with fail
      go_roundw
      case rel => exact ⟨1, by omega, by go_num, by simp, by first | rfl | trivial⟩
      case measure => simp [intOf]
    · have hc0 := K1.out
      simp only [show ¬ ((1 : Nat) = 0) from by omega, if_false, if_true]
      have hw : IntKind.i64.wrap ((vs1.length : Int) + (vs2.length : Int)) = (vs1.length : Int) + (vs2.length : Int) := IntWalk.i64_in _ (by omega)
      have hge : ¬ ((vs1.length : Int) + (vs2.length : Int) < 0) := by omega
      go_wp2_with fail
      go_roundw
      case rel => clear hw; exact ⟨2, by omega, by go_num, by simp, by first | rfl | trivial⟩
      case measure => clear hw; simp [intOf]
    · simp only [show ¬ ((2 : Nat) = 0) from by omega, show ¬ ((2 : Nat) = 1) from by omega, if_false]
      go_wp2_with (go_at_call 236; refine (lib_GrowF _ (vs1.length + vs2.length) (by omega)).mono ?_; rintro e w1 ⟨r, rfl, hown, hb1⟩; have HO := Lib.hid hown; have HB := Lib.hid hb1; clear hown hb1)
      go_loopw [6, 27] (fun s i wr => ∃ k : Nat, k ≤ 2 ∧ i = .int .i64 k ∧ Own wr w.heap.size tL s (if k = 0 then [] else if k = 1 then vs1 else vs1 ++ vs2) ∧ Below w.heap.size w wr) (fun _ i _ => 2 - (intOf i).toNat)
      case atStart => exact ⟨0, Nat.zero_le _, rfl, HO.out, HB.out⟩
      case round =>
        obtain ⟨k, hk, rfl, hown, hb⟩ := hrel
        clear HO HB
        have HB := Lib.hid hb
        have hkk : k = 0 ∨ k = 1 ∨ k = 2 := by omega
        rcases hkk with rfl | rfl | rfl
        · have HO := Lib.hid (show Own wr w.heap.size tL _ [] from hown)
          have hc0 := keepCellE HB.out K0.out
          clear hown hb
          go_wp2_with (at_builtin; refine wpList_appN T_row HO.out (H1.out.below HB.out) (by simp; omega) HB.out.size O1.out rfl (by rfl) (by rfl) (by rfl) ?_; intro v1 w2 hown1 hgr1)
          go_roundw
          case rel => exact ⟨1, by omega, by go_num, by simpa using hown1, hgr1.below HB.out HB.out.size HO.out.ge⟩
          case measure => simp [intOf]
        · have HO := Lib.hid (show Own wr w.heap.size tL _ vs1 from hown)
          have hc0 := keepCellE HB.out K1.out
          clear hown hb
          go_wp2_with (at_builtin; refine wpList_appN T_row HO.out (H2.out.below HB.out) (by omega) HB.out.size O2.out rfl (by rfl) (by rfl) (by rfl) ?_; intro v1 w2 hown1 hgr1)
          go_roundw
          case rel => exact ⟨2, by omega, by go_num, by simpa using hown1, hgr1.below HB.out HB.out.size HO.out.ge⟩
          case measure => simp [intOf]
        · have HO := Lib.hid (show Own wr w.heap.size tL _ (vs1 ++ vs2) from hown)
          go_wp2_with fail
          go_ret
          exact ⟨_, rfl, HO.out, HB.out⟩
end Go.Proofs.YtdjhfeaimmpmhaaGreat

