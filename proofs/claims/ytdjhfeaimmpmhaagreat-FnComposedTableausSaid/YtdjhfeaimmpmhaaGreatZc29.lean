/- Walks: rows and squares of fractions (l09Row, l09Square of the reference). | Walk: tableaus by name (l09Named of the reference). | Walk: tableaus by name (l09Named of the reference). | Walks: lists of numbers that are drawn: l01List of the reference, list5 of the laws. -/
import Derived.Test.YtdjhfeaimmpmhaaGreatZc28
import Derived.Test.YtdjhfeaimmpmhaaGreatZc6
import Derived.Test.YtdjhfeaimmpmhaaGreatZc3
set_option maxRecDepth 100000
set_option linter.unusedVariables false
set_option linter.unusedSimpArgs false
namespace Go.Proofs.YtdjhfeaimmpmhaaGreat
open Go.RowKit

theorem keepCellD {w w' : World} {ad : Addr} {v : Value} (hb : Below w.heap.size w w') (h : w.cell? ad = some v) : w'.cell? ad = some v := by rw [hb.cell (World.block_lt_of_cell? w _ h)]; exact h
/-- n numbers -/
def Nl (n : Nat) (zs : List Int) : Prop := zs.length = n ∧ Nums zs
/-- a square of numbers -/
def Sqm (m n : Nat) (xss : List (List Int)) : Prop := xss.length = m ∧ ∀ zs ∈ xss, Nl n zs
theorem Nl.snoc {n : Nat} {zs : List Int} {z : Int} (h : Nl n zs) (hz : 0 ≤ z ∧ z ≤ 10006) : Nl (n + 1) (zs ++ [z]) := by
  refine ⟨by rw [List.length_append, h.1]; rfl, fun y hy => ?_⟩
  rcases List.mem_append.1 hy with hy | hy
  · exact h.2 y hy
  · simp at hy; subst hy; exact hz
theorem Nl.in64 {n : Nat} {zs : List Int} (h : Nl n zs) : ∀ z ∈ zs, In64 z := fun z hz => by have := h.2 z hz; unfold In64; omega
theorem Sqm.snoc {m n : Nat} {xss : List (List Int)} {zs : List Int} (h : Sqm m n xss) (hz : Nl n zs) : Sqm (m + 1) n (xss ++ [zs]) := by
  refine ⟨by rw [List.length_append, h.1]; rfl, fun y hy => ?_⟩
  rcases List.mem_append.1 hy with hy | hy
  · exact h.2 y hy
  · simp at hy; subst hy; exact hz
theorem Nl.nil : Nl 0 [] := ⟨rfl, fun z hz => by simp at hz⟩
theorem Sqm.nil (n : Nat) : Sqm 0 n [] := ⟨rfl, fun z hz => by simp at hz⟩
theorem ownNl {w : World} {B n : Nat} {v : Value} {zs : List Int} (h : Nl n zs) (ho : Own w B tI v (ints zs)) : OwnInts w B tI v zs := ⟨ho, h.in64⟩
/-- one more row -/
theorem LA.push {w w2 w3 : World} {B : Nat} {v v' r : Value} {xss : List (List Int)} {zs : List Int} {vs : List Value} (h1 : Own w B tL v vs) (h2 : RR w B vs xss) (h3 : vs.Pairwise Apart) (hb : Below w.heap.size w w2) (hr : OwnInts w2 w.heap.size tI r zs) (hB : B ≤ w.heap.size) (ho : Own w3 B tL v' (vs ++ [r])) (hg : w2.grownBy w3 v.ownBlock) :
    RR w3 B (vs ++ [r]) (xss ++ [zs]) ∧ (vs ++ [r]).Pairwise Apart :=
  ⟨LL.snoc (h1.below hb) (h2.below hb) (hr.mono hB) ho hg, pairApart_snoc h3 (h2.fresh (Nat.le_refl _) hr.1.ge)⟩
set_option maxHeartbeats 4000000 in
theorem s_l09Row (w : World) (v : Value) (zs : List Int) (q : Int) (hv : Ints w v zs) (hz : ∀ z ∈ zs, -1000000 ≤ z ∧ z ≤ 1000000) (hn : zs.length ≤ 1000) (h0 : 0 ≤ q) (h1 : q ≤ 1000000) :
    Calls Tryz.prog 224 #[.int .i64 q, v] w fun e w' => ∃ x, e = .returned x ∧ ∃ us, OwnInts w' w.heap.size tI x us ∧ Nl zs.length us ∧ Below w.heap.size w w' := by
  obtain ⟨A, c, rfl, l1, l2, h3⟩ := hv.open_
  have H3 := Lib.hid h3
  have HZ := Lib.hid hz
  have OL := Lib.hid (show Own (w.alloc (.cells #[] tI)) w.heap.size tI (.slice (some ⟨w.heap.size, 0, none⟩) 0 0) (ints []) from own_lit w tI [] (by simp [maxLen]))
  have HV := Lib.hid hv
  clear hv h3 hz
  generalize hN : zs.length = N at *
  have HN := Lib.hid hN
  clear hN
  go_enter Tryz.func224, Tryz.ntmps224
  go_wp2_with fail
  go_loopw [5, 6] (fun o x wr => ∃ (i : Nat) (us : List Int), i ≤ N ∧ x = .int .i64 i ∧ Own wr w.heap.size tI o (ints us) ∧ Hid (Nl i us) ∧ Below w.heap.size w wr) (fun _ x _ => N - (intOf x).toNat)
  case atStart => exact ⟨0, [], Nat.zero_le _, rfl, OL.out, Nl.nil, below1 w _⟩
  case round =>
    obtain ⟨i, us, hi, rfl, ho, HU, hb⟩ := hrel
    rename World => wq
    clear OL
    have HO := Lib.hid ho
    have HB := Lib.hid hb
    obtain ⟨Ao, co, heo, -, -⟩ := ho.cells.open_
    rw [ints_len, HU.out.1] at heo
    subst heo
    clear ho hb
    by_cases hlt : i < N
    · have hii : (i : Int) < (N : Int) := by omega
      obtain ⟨ad, z, rfl, hz, hz2, hc⟩ := H3.out i hlt
      have hcw := keepCellD HB.out hc
      obtain ⟨b0, b1⟩ := HZ.out z (List.mem_of_getElem? hz)
      clear hz hz2 hc
      go_wp2_with (first
        | (go_at_call 149; go_loud ((with_reducible refine (s_l01FracZ _ _ _ b0 b1 h0 h1).mono ?_); rintro e w5 ⟨x5, rfl, hx, rfl⟩; have HX5 := Lib.hid hx; clear hx))
        | (at_builtin; go_loud (refine wpList_app1 T_int HO.out (by rw [ints_len, HU.out.1]; omega) HB.out.size (by rfl) rfl (by rfl) (by rfl) (by rfl) ?_; intro v7 w7 hown7 hgr7; have HN7 := Lib.hid hown7; have HR7 := Lib.hid hgr7; clear hown7 hgr7)))
      go_roundw
      case rel => exact ⟨i + 1, us ++ [x5], by omega, by go_num, by simpa [ints] using HN7.out, HU.out.snoc HX5.out, HR7.out.below HB.out HB.out.size HO.out.ge⟩
      case measure => simp [intOf]; omega
    · have hii : ¬ ((i : Int) < (N : Int)) := by omega
      have hin : i = N := by omega
      subst hin
      go_wp2_with fail
      go_ret
      exact ⟨_, rfl, us, ownNl HU.out HO.out, HU.out, HB.out⟩
set_option maxHeartbeats 8000000 in
theorem s_l09Square (w : World) (v : Value) (zs : List Int) (q : Int) (s : Nat) (hv : Ints w v zs) (hz : ∀ z ∈ zs, -1000000 ≤ z ∧ z ≤ 1000000) (hn : zs.length = s * s) (hs : s ≤ 10) (h0 : 0 ≤ q) (h1 : q ≤ 1000000) :
    Calls Tryz.prog 223 #[.int .i64 (s : Nat), .int .i64 q, v] w fun e w' => ∃ x, e = .returned x ∧ ∃ xss, LA w' w.heap.size x xss ∧ Sqm s s xss ∧ Below w.heap.size w w' := by
  obtain ⟨A, c, rfl, l1, l2, h3⟩ := hv.open_
  have H3 := Lib.hid h3
  have HZ := Lib.hid hz
  have OL := Lib.hid (show Own (w.alloc (.cells #[] tL)) w.heap.size tL (.slice (some ⟨w.heap.size, 0, none⟩) 0 0) [] from own_lit w tL [] (by simp [maxLen]))
  have HV := Lib.hid hv
  clear hv h3 hz
  generalize hN : zs.length = N at *
  have HN := Lib.hid hN
  have HNS := Lib.hid hn
  clear hN hn
  go_enter Tryz.func223, Tryz.ntmps223
  go_wp2_with fail
  go_loopw [7, 8] (fun o x wr => ∃ (i : Nat) (vs : List Value) (xss : List (List Int)), i ≤ s ∧ x = .int .i64 i ∧ Own wr w.heap.size tL o vs ∧ Hid (RR wr w.heap.size vs xss ∧ vs.Pairwise Apart ∧ Sqm i s xss) ∧ Below w.heap.size w wr) (fun _ x _ => s - (intOf x).toNat)
  case atStart => exact ⟨0, [], [], Nat.zero_le _, rfl, OL.out, ⟨RR.nil _ _, List.Pairwise.nil, Sqm.nil _⟩, below1 w _⟩
  case round =>
    obtain ⟨i, vs, xss, hi, rfl, ho, HU, hb⟩ := hrel
    rename World => wq
    clear OL
    have HO := Lib.hid ho
    have HB := Lib.hid hb
    have hvl : vs.length = i := HU.out.1.1.trans HU.out.2.2.1
    obtain ⟨Ao, co, heo, -, -⟩ := ho.cells.open_
    rw [hvl] at heo
    subst heo
    have HVL := Lib.hid hvl
    clear ho hb hvl
    by_cases hlt : i < s
    · have hii : (i : Int) < (s : Int) := by omega
      have OL1 := Lib.hid (show Own (wq.alloc (.cells #[] tI)) wq.heap.size tI (.slice (some ⟨wq.heap.size, 0, none⟩) 0 0) (ints []) from own_lit wq tI [] (by simp [maxLen]))
      have hmul : wrap64 ((i : Int) * (s : Int)) = ((i * s : Nat) : Int) := by
        have h5 : i * s ≤ 10 * 10 := Nat.mul_le_mul (by omega) hs
        rw [show ((i : Int) * (s : Int)) = ((i * s : Nat) : Int) by simp]
        exact w64_dr _ (by omega)
      have hmul2 : IntKind.i64.wrap ((i : Int) * (s : Int)) = ((i * s : Nat) : Int) := by
        have h5 : i * s ≤ 10 * 10 := Nat.mul_le_mul (by omega) hs
        rw [show ((i : Int) * (s : Int)) = ((i * s : Nat) : Int) by simp]
        exact wrap_i64 _ (by omega)
      have HIS := Lib.hid (show i * s + s ≤ N from by
        have h5 : (i + 1) * s ≤ s * s := Nat.mul_le_mul (by omega) (Nat.le_refl _)
        rw [Nat.succ_mul] at h5
        have := HNS.out
        omega)
      have h100 : i * s ≤ 100 := (show i * s ≤ 10 * 10 from Nat.mul_le_mul (by omega) hs)
      generalize i * s = I at hmul hmul2 HIS h100
      go_wp2_with fail
      go_loopw [9, 10] (fun o x wr => ∃ (k : Nat) (us : List Int), k ≤ s ∧ x = .int .i64 k ∧ Own wr wq.heap.size tI o (ints us) ∧ Hid (Nl k us) ∧ Below wq.heap.size wq wr) (fun _ x _ => s - (intOf x).toNat)
      case atStart => exact ⟨0, [], Nat.zero_le _, rfl, OL1.out, Nl.nil, below1 _ _⟩
      case round =>
        obtain ⟨k, us, hk, rfl, ho, HU1, hb⟩ := hrel
        rename World => wp
        clear OL1
        have HO1 := Lib.hid ho
        have HB1 := Lib.hid hb
        obtain ⟨Ap, cp, hep, -, -⟩ := ho.cells.open_
        rw [ints_len, HU1.out.1] at hep
        subst hep
        clear ho hb
        by_cases hlk : k < s
        · have hkk : (k : Int) < (s : Int) := by omega
          have hIN : I + k < N := by have := HIS.out; omega
          obtain ⟨ad, z, rfl, hz, hz2, hc⟩ := H3.out (I + k) hIN
          have hcw := keepCellD (HB.out.trans (HB1.out.mono HB.out.size)) hc
          have hsum : wrap64 ((I : Int) + (k : Int)) = ((I + k : Nat) : Int) := by rw [show ((I : Int) + (k : Int)) = ((I + k : Nat) : Int) by simp]; exact w64_dr _ (by omega)
          obtain ⟨b0, b1⟩ := HZ.out z (List.mem_of_getElem? hz)
          clear hz hz2 hc
          go_wp2_with (first
            | (go_at_call 149; go_loud ((with_reducible refine (s_l01FracZ _ _ _ b0 b1 h0 h1).mono ?_); rintro e w5 ⟨x5, rfl, hx, rfl⟩; have HX5 := Lib.hid hx; clear hx))
            | (at_builtin; go_loud (refine wpList_app1 T_int HO1.out (by rw [ints_len, HU1.out.1]; omega) HB1.out.size (by rfl) rfl (by rfl) (by rfl) (by rfl) ?_; intro v7 w7 hown7 hgr7; have HN7 := Lib.hid hown7; have HR7 := Lib.hid hgr7; clear hown7 hgr7)))
          go_roundw
          case rel => exact ⟨k + 1, us ++ [x5], by omega, by go_num, by simpa [ints] using HN7.out, HU1.out.snoc HX5.out, HR7.out.below HB1.out HB1.out.size HO1.out.ge⟩
          case measure => simp [intOf]; omega
        · have hkk : ¬ ((k : Int) < (s : Int)) := by omega
          have hks : k = s := by omega
          subst hks
          have HO5 := Lib.hid (HO.out.below HB1.out)
          have HB5 := Lib.hid (HB.out.trans (HB1.out.mono HB.out.size))
          go_wp2_with (at_builtin; go_loud (refine wpList_app1 T_row HO5.out (by rw [HVL.out]; omega) HB5.out.size (by rfl) rfl (by rfl) (by rfl) (by rfl) ?_; intro v7 w7 hown7 hgr7; have HN7 := Lib.hid hown7; have HR7 := Lib.hid hgr7; clear hown7 hgr7))
          go_roundw
          case rel =>
            obtain ⟨p1, p2⟩ := LA.push HO.out HU.out.1 HU.out.2.1 HB1.out (ownNl HU1.out HO1.out) HB.out.size HN7.out HR7.out.1
            exact ⟨i + 1, _, _, by omega, by go_num, HN7.out, ⟨p1, p2, HU.out.2.2.snoc HU1.out⟩, HR7.out.below HB5.out HB5.out.size HO5.out.ge⟩
          case measure => simp [intOf]; omega
    · have hii : ¬ ((i : Int) < (s : Int)) := by omega
      have his : i = s := by omega
      subst his
      go_wp2_with fail
      go_ret
      exact ⟨_, rfl, xss, ⟨vs, HO.out, HU.out.1, HU.out.2.1⟩, HU.out.2.2, HB.out⟩
end Go.Proofs.YtdjhfeaimmpmhaaGreat

set_option maxRecDepth 100000
set_option linter.unusedVariables false
set_option linter.unusedSimpArgs false
namespace Go.Proofs.YtdjhfeaimmpmhaaGreat
open Go.RowKit

abbrev tTb : TypeId := 45
theorem mod_numD (x : Int) : 0 ≤ x % 10007 ∧ x % 10007 ≤ 10006 := by omega
/-- a tableau of one's own with n stages -/
def DT (w : World) (B : Nat) (v : Value) (n : Nat) : Prop := ∃ A Bs, OT w B w.heap.size v A Bs ∧ Sqm n n A ∧ Nl n Bs
theorem lit_read (W : World) (cs : Array Value) (n : Nat) (hn : cs.size = n) (h1 : ints (cs.toList.map intOf) = cs.toList) (h2 : (cs.toList.map intOf).all (fun z => decide (-1000000 ≤ z) && decide (z ≤ 1000000)) = true) (h3 : n ≤ 100) :
    Ints (W.alloc (.cells cs tI)) (.slice (some ⟨W.heap.size, 0, none⟩) n n) (cs.toList.map intOf) := by
  refine ⟨?_, fun z hz => ?_⟩
  · rw [h1]
    have h := (own_lit W tI cs.toList (by rw [Array.length_toList, hn]; simp [maxLen]; omega)).cells
    rw [Array.toArray_toList, Array.length_toList, hn] at h
    exact h
  · rw [List.all_eq_true] at h2
    have := h2 z hz
    simp at this
    unfold In64; omega
theorem s_l09RowA (W : World) (cs : Array Value) (q : Int) (n : Nat) (hn : cs.size = n) (h1 : ints (cs.toList.map intOf) = cs.toList) (h2 : (cs.toList.map intOf).all (fun z => decide (-1000000 ≤ z) && decide (z ≤ 1000000)) = true) (h3 : n ≤ 100) (h0 : 0 ≤ q) (hq : q ≤ 1000000) :
    Calls Tryz.prog 224 #[.int .i64 q, .slice (some ⟨W.heap.size, 0, none⟩) n n] (W.alloc (.cells cs tI)) fun e w' => ∃ x, e = .returned x ∧ ∃ us, OwnInts w' (W.heap.size + 1) tI x us ∧ Nl n us ∧ Below (W.heap.size + 1) (W.alloc (.cells cs tI)) w' := by
  have h := s_l09Row (W.alloc (.cells cs tI)) _ _ q (lit_read W cs n hn h1 h2 h3) (fun z hz => by rw [List.all_eq_true] at h2; have := h2 z hz; simp at this; omega) (by rw [List.length_map, Array.length_toList]; omega) h0 hq
  rw [size_alloc', List.length_map, Array.length_toList, hn] at h
  exact h
theorem s_l09SquareA (W : World) (cs : Array Value) (q sI : Int) (n : Nat) (hn : cs.size = n) (hs : n = sI.toNat * sI.toNat) (hs0 : ((sI.toNat : Nat) : Int) = sI) (hs10 : sI.toNat ≤ 10) (h1 : ints (cs.toList.map intOf) = cs.toList) (h2 : (cs.toList.map intOf).all (fun z => decide (-1000000 ≤ z) && decide (z ≤ 1000000)) = true) (h3 : n ≤ 100) (h0 : 0 ≤ q) (hq : q ≤ 1000000) :
    Calls Tryz.prog 223 #[.int .i64 sI, .int .i64 q, .slice (some ⟨W.heap.size, 0, none⟩) n n] (W.alloc (.cells cs tI)) fun e w' => ∃ x, e = .returned x ∧ ∃ xss, OR w' (W.heap.size + 1) w'.heap.size tL tI x xss ∧ Sqm sI.toNat sI.toNat xss ∧ Below (W.heap.size + 1) (W.alloc (.cells cs tI)) w' := by
  have h := s_l09Square (W.alloc (.cells cs tI)) _ _ q sI.toNat (lit_read W cs n hn h1 h2 h3) (fun z hz => by rw [List.all_eq_true] at h2; have := h2 z hz; simp at this; omega) (by rw [List.length_map, Array.length_toList, hn, hs]) hs10 h0 hq
  rw [size_alloc', hs0] at h
  exact h.mono fun e w' hh => by
    obtain ⟨x, rfl, xss, hl, hsq, hb⟩ := hh
    exact ⟨x, rfl, xss, hl.or, hsq, hb⟩
/-- the result laid in its block -/
theorem nam_end {w w4 : World} {g B M n : Nat} {x y : Value} {xss : List (List Int)} {us : List Int} (hb : Below w.heap.size w w4) (hg : w.heap.size ≤ g) (hgB : g < B) (hBM : B ≤ M) (hM : M ≤ w4.heap.size) (hA : OR w4 B M tL tI x xss) (hO : OwnInts w4 M tI y us) (hs : Sqm n n xss) (hu : Nl n us) :
    DT ((w4.setCell ⟨g, 0, none⟩ x).setCell ⟨g, 1, none⟩ y) w.heap.size (.agg #[x, y]) n ∧ Below w.heap.size w ((w4.setCell ⟨g, 0, none⟩ x).setCell ⟨g, 1, none⟩ y) := by
  have c0 := Chg.refl g (g + 1) w4
  have c1 := c0.setCell (p := ⟨g, 0, none⟩) (Nat.le_refl _) (by simp) x
  have c2 := c1.setCell (p := ⟨g, 1, none⟩) (Nat.le_refl _) (by simp) y
  have hOT : OT w4 B w4.heap.size (.agg #[x, y]) xss us := OT.of_M (M := M) hBM hM hA (OI.of hO)
  exact ⟨⟨xss, us, (hOT.kept c2 (.inr (by omega))).mono (by omega) c2.size, hs, hu⟩, c2.below hb hg hb.size⟩
set_option maxHeartbeats 1000000 in
theorem s_l01RootD (w : World) (a k : Int) (R : Nat) (k0 : 0 ≤ k) (k1 : k ≤ 1000) (hne : ∀ b : Nat, b < R → pw (b : Int) k.toNat ≠ a) (he : pw (R : Int) k.toNat = a) (hR : R < 10007) :
    Calls Tryz.prog 225 #[.int .i64 a, .int .i64 k] w fun e w' => e = .returned (.int .i64 (R : Int)) ∧ w = w' := by
  have HNE := Lib.hid hne
  have HE := Lib.hid he
  clear hne he
  go_enter Tryz.func225, Tryz.ntmps225
  go_wp2_with fail
  go_loop [5] (fun b => ∃ j : Nat, j ≤ R ∧ b = .int .i64 j) (fun b => R - (intOf b).toNat)
  case atStart => exact ⟨0, Nat.zero_le _, rfl⟩
  case round =>
    obtain ⟨j, hj, rfl⟩ := hrel
    have hj7 : (j : Int) < 10007 := by omega
    by_cases hlt : j < R
    · have hb : (pw (j : Int) k.toNat == a) = false := by simpa using HNE.out j hlt
      go_wp2_with (go_at_call 186; refine (s_l01Pow _ _ _ (by omega) (by omega) (by omega) (by omega)).mono ?_; rintro e w' ⟨rfl, rfl⟩)
      go_round
      case rel => exact ⟨j + 1, by omega, by go_num⟩
      case measure => simp [intOf]; omega
    · have : j = R := by omega
      subst this
      have hb : (pw (j : Int) k.toNat == a) = true := by simpa using HE.out
      go_wp2_with (go_at_call 186; refine (s_l01Pow _ _ _ (by omega) (by omega) (by omega) (by omega)).mono ?_; rintro e w' ⟨rfl, rfl⟩)
      go_ret
      exact ⟨rfl, rfl⟩
def nosq (a : Nat) : Nat → Bool
  | 0 => true
  | n + 1 => !(Nat.beq (n * n % 10007) a) && nosq a n
theorem nosq_ok {a : Nat} : ∀ {n b : Nat}, nosq a n = true → b < n → b * b % 10007 ≠ a
  | 0, b, _, h => by omega
  | n + 1, b, h, hb => by
    unfold nosq at h
    rw [Bool.and_eq_true] at h
    by_cases e : b = n
    · subst e
      intro e2
      rw [e2] at h
      have h1 := h.1
      rw [show Nat.beq a a = true from Nat.beq_refl a] at h1
      cases h1
    · exact nosq_ok h.2 (by omega)
theorem nosq3 : nosq 3 1477 = true := by decide +kernel
theorem s_root32 (w : World) : Calls Tryz.prog 225 #[.int .i64 3, .int .i64 2] w fun e w' => e = .returned (.int .i64 1477) ∧ w = w' := by
  refine s_l01RootD w 3 2 1477 (by omega) (by omega) (fun b hb => ?_) (by decide) (by omega)
  have h := nosq_ok nosq3 hb
  intro e
  unfold pw at e
  rw [show (2 : Int).toNat = 2 from rfl, Int.pow_succ, Int.pow_succ, Int.pow_zero, Int.one_mul] at e
  omega
/-- two rows of two, as literals -/
theorem two_rows (w : World) (a b c d : Int) (h1 : 0 ≤ a ∧ a ≤ 10006) (h2 : 0 ≤ b ∧ b ≤ 10006) (h3 : 0 ≤ c ∧ c ≤ 10006) (h4 : 0 ≤ d ∧ d ≤ 10006) (W : World)
    (hW : W = ((w.alloc (.cells #[.int .i64 a, .int .i64 b] tI)).alloc (.cells #[.int .i64 c, .int .i64 d] tI)).alloc (.cells #[.slice (some ⟨w.heap.size, 0, none⟩) 2 2, .slice (some ⟨w.heap.size + 1, 0, none⟩) 2 2] tL)) :
    OR W w.heap.size W.heap.size tL tI (.slice (some ⟨w.heap.size + 1 + 1, 0, none⟩) 2 2) [[a, b], [c, d]] ∧ Sqm 2 2 [[a, b], [c, d]] ∧ Below w.heap.size w W := by
  subst hW
  have n1 : Nl 2 [a, b] := ⟨rfl, fun z hz => by simp at hz; rcases hz with rfl | rfl <;> omega⟩
  have n2 : Nl 2 [c, d] := ⟨rfl, fun z hz => by simp at hz; rcases hz with rfl | rfl <;> omega⟩
  have o1 : OwnInts (w.alloc (.cells #[.int .i64 a, .int .i64 b] tI)) w.heap.size tI (.slice (some ⟨w.heap.size, 0, none⟩) 2 2) [a, b] := ownNl n1 (own_lit w tI (ints [a, b]) (by simp [maxLen, ints]))
  have o2 : OwnInts ((w.alloc (.cells #[.int .i64 a, .int .i64 b] tI)).alloc (.cells #[.int .i64 c, .int .i64 d] tI)) (w.heap.size + 1) tI (.slice (some ⟨w.heap.size + 1, 0, none⟩) 2 2) [c, d] := by
    have h := own_lit (w.alloc (.cells #[.int .i64 a, .int .i64 b] tI)) tI (ints [c, d]) (by simp [maxLen, ints])
    rw [size_alloc'] at h
    exact ownNl n2 h
  have o3 := own_lit ((w.alloc (.cells #[.int .i64 a, .int .i64 b] tI)).alloc (.cells #[.int .i64 c, .int .i64 d] tI)) tL [.slice (some ⟨w.heap.size, 0, none⟩) 2 2, .slice (some ⟨w.heap.size + 1, 0, none⟩) 2 2] (by simp [maxLen])
  rw [size_alloc', size_alloc'] at o3
  refine ⟨LA.or ⟨_, o3.mono (by omega), ?_, ?_⟩, ⟨rfl, fun zs hz => by simp at hz; rcases hz with rfl | rfl; exact n1; exact n2⟩, below3 w _ _ _⟩
  · have r0 := (RR.nil (((w.alloc (.cells #[.int .i64 a, .int .i64 b] tI)).alloc (.cells #[.int .i64 c, .int .i64 d] tI)).alloc (.cells #[.slice (some ⟨w.heap.size, 0, none⟩) 2 2, .slice (some ⟨w.heap.size + 1, 0, none⟩) 2 2] tL)) w.heap.size).snoc ((o1.below (below1 _ _)).below (below1 _ _))
    exact r0.snoc ((o2.below (below1 _ _)).mono (by omega))
  · refine List.pairwise_cons.2 ⟨fun x hx => ?_, List.pairwise_singleton _ _⟩
    simp at hx
    subst hx
    exact .inr (by simp [Value.ownBlock])
end Go.Proofs.YtdjhfeaimmpmhaaGreat

set_option maxRecDepth 100000
set_option linter.unusedVariables false
set_option linter.unusedSimpArgs false
namespace Go.Proofs.YtdjhfeaimmpmhaaGreat
open Go.RowKit

set_option maxHeartbeats 16000000 in
theorem s_l09NamedG (w : World) (str : ByteArray) (hg : (str.toList == [103, 97, 117, 115, 115]) = true) :
    Calls Tryz.prog 195 #[.string str] w fun e w' => ∃ v n, e = .returned v ∧ DT w' w.heap.size v n ∧ 1 ≤ n ∧ n ≤ 4 ∧ Below w.heap.size w w' := by
  obtain ⟨W, hW⟩ : ∃ W, W = w.alloc (.cells #[.slice none 0 0, .slice none 0 0] tTb) := ⟨_, rfl⟩
  have HSW := Lib.hid (show W.heap.size = w.heap.size + 1 from by rw [hW]; simp)
  have HK := Lib.hid (show Blk W w.heap.size tTb #[.slice none 0 0, .slice none 0 0] from by rw [hW]; exact Blk.new _ _ _)
  have HBW := Lib.hid (show Below w.heap.size w W from by rw [hW]; exact below1 w _)
  have he : (str.toList == [101, 117, 108, 101, 114]) = false := by
    rw [beq_iff_eq] at hg
    rw [hg]
    decide
  go_enter Tryz.func195, Tryz.ntmps195
  go_upto_region 1 with fail
  rw [← hW]
  clear hW
  go_upto_region 7 with (first
    | (go_at_call 225; refine (s_root32 _).mono ?_; rintro e w3 ⟨rfl, rfl⟩)
    | (go_at_call 149; (with_reducible refine (s_l01FracZ _ 1 6 (by omega) (by omega) (by omega) (by omega)).mono ?_); go_loud (rintro e w3 ⟨z, rfl, hz, rfl⟩; obtain ⟨z0, z1⟩ := hz))
    | (go_at_call 131; go_loud (refine (s_l01Mul 1477 z _ (by omega) (by omega) (by omega) (by omega)).mono ?_; rintro e w3 ⟨rfl, rfl⟩; have hm := mod_numD (1477 * z); generalize 1477 * z % 10007 = m at *))
    | (go_at_call 149; (with_reducible refine (s_l01FracZ _ 1 4 (by omega) (by omega) (by omega) (by omega)).mono ?_); go_loud (rintro e w3 ⟨q, rfl, hq, rfl⟩; obtain ⟨q0, q1⟩ := hq)))
  obtain ⟨m0, m1⟩ := hm
  have HS1 := Lib.hid (fun X => s_l01Sub q m X (by omega) (by omega) (by omega) (by omega))
  have HA1 := Lib.hid (fun X => s_l01Add q m X (by omega) (by omega) (by omega) (by omega))
  have hs1 := mod_numD (q - m)
  have ha1 := mod_numD (q + m)
  generalize (q - m) % 10007 = d at *
  generalize (q + m) % 10007 = a at *
  obtain ⟨W3, hW3⟩ : ∃ W3, W3 = ((W.alloc (.cells #[.int .i64 q, .int .i64 d] tI)).alloc (.cells #[.int .i64 a, .int .i64 q] tI)).alloc (.cells #[.slice (some ⟨W.heap.size, 0, none⟩) 2 2, .slice (some ⟨W.heap.size + 1, 0, none⟩) 2 2] tL) := ⟨_, rfl⟩
  obtain ⟨hor, hsq, hb3⟩ := two_rows W q d a q ⟨q0, q1⟩ hs1 ha1 ⟨q0, q1⟩ W3 hW3
  have HOR := Lib.hid hor
  have HSQ := Lib.hid hsq
  have HB3 := Lib.hid (HBW.out.trans (hb3.mono HBW.out.size))
  have HK3 := Lib.hid (HK.out.below hb3 HK.out.lt)
  have HW3 := Lib.hid hW3
  have HSZ3 := Lib.hid (show W.heap.size + 1 + 1 + 1 = W3.heap.size from by rw [hW3]; simp)
  clear hor hsq hb3 hW3 hs1 ha1 z0 z1 m0 m1 he hg
  go_wp2_with (first
    | (go_at_call 93; refine (HS1.out _).mono ?_; rintro e w3 ⟨rfl, rfl⟩)
    | (go_at_call 132; refine (HA1.out _).mono ?_; rintro e w3 ⟨rfl, rfl⟩)
    | (go_at_call 224; rw [← HW3.out, HSZ3.out]; go_loud (refine (s_l09RowA W3 #[.int .i64 1, .int .i64 1] 2 2 rfl rfl (by decide) (by omega) (by omega) (by omega)).mono ?_; rintro e w5 ⟨x5, rfl, us, ho5, hn5, hb5⟩; obtain ⟨A5, c5, rfl, -, -, -⟩ := ho5.ints.open_; have hb5' : Below W3.heap.size W3 w5 := (below1 W3 _).trans (hb5.mono (by omega)); have HK5 := Lib.hid (HK3.out.below hb5' HK3.out.lt); have HO5 := Lib.hid (ho5.mono (Nat.le_succ _)); have HN5 := Lib.hid hn5; have HB5 := Lib.hid (HB3.out.trans (hb5'.mono HB3.out.size)); have HOR5 := Lib.hid (HOR.out.below hb5'); have f0 : w5.cell? ⟨w.heap.size, 0, none⟩ = some (.slice none 0 0) := HK5.out.cell 0; have f1 : w5.cell? ⟨w.heap.size, 1, none⟩ = some (.slice none 0 0) := HK5.out.cell 1; have f2 := HK5.out.frozen 0; have f3 := HK5.out.frozen 1; have HSZ5 := Lib.hid hb5'.size; clear ho5 hn5 hb5 hb5')))
  refine bodyPost_ret (v := .agg #[.slice (some ⟨W.heap.size + 1 + 1, 0, none⟩) 2 2, .slice A5 us.length c5]) (by simp [results, Tryz.results195, go_sem, f0, f1]) rfl ?_
  obtain ⟨p1, p2⟩ := nam_end (n := 2) (g := w.heap.size) (B := W.heap.size) (M := W3.heap.size) HB5.out (Nat.le_refl _) (by have := HSW.out; omega) (by have := HSZ3.out; omega) HSZ5.out HOR5.out HO5.out HSQ.out HN5.out
  exact ⟨_, _, rfl, p1, by decide, by decide, p2⟩
set_option maxHeartbeats 16000000 in
theorem s_l09NamedN (w : World) (str : ByteArray) (he : (str.toList == [103, 97, 117, 115, 115]) = false) :
    Calls Tryz.prog 195 #[.string str] w fun e w' => ∃ v n, e = .returned v ∧ DT w' w.heap.size v n ∧ 1 ≤ n ∧ n ≤ 4 ∧ Below w.heap.size w w' := by
  obtain ⟨W, hW⟩ : ∃ W, W = w.alloc (.cells #[.slice none 0 0, .slice none 0 0] tTb) := ⟨_, rfl⟩
  have HSW := Lib.hid (show W.heap.size = w.heap.size + 1 from by rw [hW]; simp)
  have HK := Lib.hid (show Blk W w.heap.size tTb #[.slice none 0 0, .slice none 0 0] from by rw [hW]; exact Blk.new _ _ _)
  have HBW := Lib.hid (show Below w.heap.size w W from by rw [hW]; exact below1 w _)
  go_enter Tryz.func195, Tryz.ntmps195
  go_upto_region 1 with fail
  rw [← hW]
  clear hW
  go_wp2_with (first
    | (go_at_call 223; go_loud (refine (s_l09SquareA W _ _ _ _ (by rfl) (by rfl) (by rfl) (by decide) (by rfl) (by decide) (by decide) (by decide) (by decide)).mono ?_; rintro e w1 ⟨x1, rfl, xss, hor, hsq, hb1⟩; obtain ⟨A1, c1, rfl, -, -, -⟩ := hor.rows.open_; have HOR := Lib.hid hor; have HSQ := Lib.hid hsq; have hb1' : Below W.heap.size W w1 := (below1 W _).trans (hb1.mono (by omega)); have HB1 := Lib.hid (HBW.out.trans (hb1'.mono HBW.out.size)); have HK1 := Lib.hid (HK.out.below hb1' HK.out.lt); have hsz1 : W.heap.size + 1 ≤ w1.heap.size := (by have := hb1.size; simpa using this); clear hor hsq hb1 hb1'))
    | (go_at_call 224; go_loud (refine (s_l09RowA w1 _ _ _ (by rfl) (by rfl) (by decide) (by decide) (by decide) (by decide)).mono ?_; rintro e w5 ⟨x5, rfl, us, ho5, hn5, hb5⟩; obtain ⟨A5, c5, rfl, -, -, -⟩ := ho5.ints.open_; have hb5' : Below w1.heap.size w1 w5 := (below1 w1 _).trans (hb5.mono (by omega)); have HK5 := Lib.hid (HK1.out.below hb5' HK1.out.lt); have HO5 := Lib.hid (ho5.mono (Nat.le_succ _)); have HN5 := Lib.hid hn5; have HB5 := Lib.hid (HB1.out.trans (hb5'.mono HB1.out.size)); have HOR5 := Lib.hid (HOR.out.below hb5'); have f0 : w5.cell? ⟨w.heap.size, 0, none⟩ = some (.slice none 0 0) := HK5.out.cell 0; have f1 : w5.cell? ⟨w.heap.size, 1, none⟩ = some (.slice none 0 0) := HK5.out.cell 1; have f2 := HK5.out.frozen 0; have f3 := HK5.out.frozen 1; have hsz5 := hb5'.size; clear ho5 hn5 hb5 hb5')))
  all_goals
    refine bodyPost_ret (v := .agg #[.slice A1 xss.length c1, .slice A5 us.length c5]) (by simp [results, Tryz.results195, go_sem, f0, f1]) rfl ?_
    obtain ⟨p1, p2⟩ := nam_end (g := w.heap.size) (B := W.heap.size + 1) (M := w1.heap.size) HB5.out (Nat.le_refl _) (by have := HSW.out; omega) hsz1 hsz5 HOR5.out HO5.out HSQ.out HN5.out
    exact ⟨_, _, rfl, p1, by decide, by decide, p2⟩
theorem s_l09Named (w : World) (str : ByteArray) :
    Calls Tryz.prog 195 #[.string str] w fun e w' => ∃ v n, e = .returned v ∧ DT w' w.heap.size v n ∧ 1 ≤ n ∧ n ≤ 4 ∧ Below w.heap.size w w' := by
  cases h : (str.toList == [103, 97, 117, 115, 115]) with
  | true => exact s_l09NamedG w str h
  | false => exact s_l09NamedN w str h
end Go.Proofs.YtdjhfeaimmpmhaaGreat

set_option maxRecDepth 100000
set_option linter.unusedVariables false
set_option linter.unusedSimpArgs false
namespace Go.Proofs.YtdjhfeaimmpmhaaGreat
open Go.RowKit

set_option maxHeartbeats 4000000 in
theorem s_l01List (w : World) (B p N : Nat) (h : Src w B tSc p) (hN : N ≤ 1000) :
    Calls Tryz.prog 51 #[at0 p, .int .i64 (N : Nat)] w fun e w' => ∃ x, e = .returned x ∧ ∃ zs, OwnInts w' w.heap.size tI x zs ∧ zs.length = N ∧ Nums zs ∧ w.grownBy w' (some p) ∧ Src w' B tSc p := by
  have HS := Lib.hid h
  have hpl := h.lt
  have OL := Lib.hid (show Own (w.alloc (.cells #[] tI)) w.heap.size tI (.slice (some ⟨w.heap.size, 0, none⟩) 0 0) (ints []) from own_lit w tI [] (by simp [maxLen]))
  have HS1 := Lib.hid (h.below (below1 w (.cells #[] tI)))
  have HG1 := Lib.hid (show w.grownBy (w.alloc (.cells #[] tI)) (some p) from gof (below1 w _))
  have HF := Lib.hid (show Nums [] from fun z hz => by simp at hz)
  clear h
  go_enter Tryz.func51, Tryz.ntmps51
  go_wp2_with fail
  go_loopw [5, 1] (fun o x wr => ∃ (zs : List Int) (m : Nat), Hid (zs.length + m = N) ∧ x = .int .i64 m ∧ m ≤ 1000 ∧ zs.length ≤ 1000 ∧ Own wr w.heap.size tI o (ints zs) ∧ Hid (Nums zs) ∧ w.grownBy wr (some p) ∧ Src wr B tSc p) (fun _ x _ => (intOf x).toNat)
  case atStart => exact ⟨[], N, by show 0 + N = N; omega, rfl, hN, by simp, OL.out, HF.out, HG1.out, HS1.out⟩
  case round =>
    obtain ⟨zs, m, HM, rfl, hm, hz2, ho, HZ, hg, hs⟩ := hrel
    rename World => wq
    clear OL HS1 HG1 HF
    have HO := Lib.hid ho
    have HG := Lib.hid hg
    have HS := Lib.hid hs
    obtain ⟨Ao, co, heo, -, -⟩ := ho.cells.open_
    rw [ints_len] at heo
    subst heo
    have hwq := hg.size
    clear ho hg hs
    by_cases hlt : 0 < m
    · have hll : (0 : Int) < (m : Int) := by omega
      have hmd : decide (0 < m) = true := decide_eq_true hlt
      go_wp2_with (first
        | (go_at_call 112; go_loud (refine (s_l01Number _ B p HS.out).mono ?_; rintro e w5 ⟨x5, rfl, hx, hg5, hs5⟩; have HO5 := Lib.hid (HO.out.src hpl hg5); have HG5 := Lib.hid (gtrans HG.out hg5); have HS5 := Lib.hid hs5; have HX5 := Lib.hid hx; clear hg5 hs5 hx))
        | (at_builtin; go_loud (refine wpList_app1 T_int HO5.out (by rw [ints_len]; omega) HG5.out.size (by rfl) rfl (by rfl) (by rfl) (by rfl) ?_; intro v7 w7 hown7 hgr7; have HN7 := Lib.hid hown7; have HR7 := Lib.hid hgr7; clear hown7 hgr7)))
      have HGA := Lib.hid (gthen HG5.out HR7.out.1 HO5.out.ge)
      have hne : (Value.slice Ao zs.length co).ownBlock ≠ some p := fun e => by have := HO5.out.ge _ e; omega
      have HSA := Lib.hid (HS5.out.kept HR7.out.1 hne (fun b hb => Nat.le_trans (Nat.le_trans HS5.out.ge (Nat.le_of_lt hpl)) (HO5.out.ge b hb)))
      clear hne
      go_roundw
      case rel =>
        have hm0 := HM.out
        refine ⟨zs ++ [x5], m - 1, by show (zs ++ [x5]).length + (m - 1) = N; rw [List.length_append, List.length_singleton]; omega, ?_, by omega, by rw [List.length_append, List.length_singleton]; omega, by simpa [ints] using HN7.out, fun z hz => ?_, HGA.out, HSA.out⟩
        · rw [show ((m - 1 : Nat) : Int) = (m : Int) - 1 by omega]
        rcases List.mem_append.1 hz with h | h
        · exact HZ.out z h
        · have := HX5.out; simp at h; omega
      case measure => simp [intOf]; omega
    · have hm0 : m = 0 := by omega
      subst hm0
      have HNL := Lib.hid (show zs.length = N from HM.out)
      go_wp2_with fail
      go_ret
      exact ⟨_, rfl, zs, ⟨HO.out, fun z hz => by have := HZ.out z hz; unfold In64; omega⟩, HNL.out, HZ.out, HG.out, HS.out⟩
/-! ### the laws' lists -/
set_option maxHeartbeats 1000000 in
theorem l_mod5 (w : World) (x : Int) (h0 : -1000000 ≤ x) (h1 : x ≤ 1000000) :
    Calls Tryz.prog 107 #[.int .i64 x] w fun e w' => ∃ z, e = .returned (.int .i64 z) ∧ (0 ≤ z ∧ z ≤ 10006) ∧ w = w' := by
  have h2 : -10007 < x.tmod 10007 := by rw [Int.tmod_eq_emod]; split <;> omega
  have h3 : x.tmod 10007 < 10007 := by rw [Int.tmod_eq_emod]; split <;> omega
  have HT := Lib.hid (tmod_num x)
  go_enter Tryz.func107, Tryz.ntmps107
  go_wp2
  go_ret
  exact ⟨_, rfl, by have := HT.out; omega, rfl⟩
set_option maxHeartbeats 4000000 in
theorem l_number5 (w : World) (B p : Nat) (h : Src w B tDc p) :
    Calls Tryz.prog 44 #[at0 p] w fun e w' => ∃ z, e = .returned (.int .i64 z) ∧ (0 ≤ z ∧ z ≤ 10006) ∧ w.grownBy w' (some p) ∧ Src w' B tDc p := by
  have HN := Lib.hid (l_below w B p 2 h (by omega) (by omega))
  clear h
  go_enter Tryz.func44, Tryz.ntmps44
  have hw := fun y (h : 0 ≤ y ∧ y < 9) => wrap_i64 (y - 4) (by omega)
  go_wp2_with (first
    | (go_at_call 82; (with_reducible refine HN.out.mono ?_); go_loud (rintro e w1 ⟨x, rfl, x0, x1, hg, hs⟩; have HG := Lib.hid hg; have HS := Lib.hid hs; clear hg hs x0 x1))
    | (go_at_call 82; (with_reducible refine (l_below w1 B p 10007 HS.out (by omega) (by omega)).mono ?_); go_loud (rintro e w2 ⟨y, rfl, y0, y1, hg, hs⟩; have HG2 := Lib.hid (gtrans HG.out hg); have HS2 := Lib.hid hs; have HY := Lib.hid (show 0 ≤ y ∧ y ≤ 10006 by omega); clear hg hs y0 y1))
    | (go_at_call 82; (with_reducible refine (l_below w1 B p 9 HS.out (by omega) (by omega)).mono ?_); go_loud (rintro e w2 ⟨y, rfl, y0, y1, hg, hs⟩; have HG2 := Lib.hid (gtrans HG.out hg); have HS2 := Lib.hid hs; have hwy := hw y ⟨y0, y1⟩; clear hg hs))
    | (go_at_call 107; go_loud (refine (l_mod5 _ _ (by omega) (by omega)).mono ?_; rintro e w4 ⟨z, rfl, hz, rfl⟩; have HZ := Lib.hid hz; clear hz)))
  · go_ret
    exact ⟨_, rfl, HY.out, HG2.out, HS2.out⟩
  · go_ret
    exact ⟨_, rfl, HZ.out, HG2.out, HS2.out⟩
end Go.Proofs.YtdjhfeaimmpmhaaGreat

