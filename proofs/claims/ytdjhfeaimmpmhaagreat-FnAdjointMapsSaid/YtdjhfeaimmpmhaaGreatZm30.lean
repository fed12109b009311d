/- Walks: l05Forest and l05Tree of the reference. | Walk: l05Cuts of the reference. -/
import Derived.Test.YtdjhfeaimmpmhaaGreatZm29
import Derived.Test.YtdjhfeaimmpmhaaGreatZm16
import Derived.Deep.CutRange
import Derived.Deep.CutBlock
import Derived.Deep.DeepCutAuto
set_option maxRecDepth 100000
set_option linter.unusedVariables false
set_option linter.unusedSimpArgs false
namespace Go.Proofs.YtdjhfeaimmpmhaaGreat
open Go.RowKit

theorem fldF_nil (w : World) (B : Nat) : fldF.P w B (.slice none 0 0) [] := ⟨⟨[], Own.nil _ _ _, RR.nil _ _⟩, by simp, by simp [ndN]⟩
set_option maxHeartbeats 8000000 in
theorem s_l05Forest (f : Nat) (IH : ∀ (w : World) (v : Value) (t : List Nat) (r : List SC), Ints w v (up t) → tree5 f t = some r → Calls Tryz.prog 187 #[v] w fun e w' => ∃ x, e = .returned x ∧ SLs eSc tSp w' w.heap.size x r ∧ Below w.heap.size w w')
    (w : World) (v : Value) (bs : List (List Nat)) (l : List SC) (ha : Rows w v (bs.map up)) (h : loop5 (tree5 f) bs [(([], []), 1)] = some l) :
    Calls Tryz.prog 219 #[v] w fun e w' => ∃ x, e = .returned x ∧ SLs eSc tSp w' w.heap.size x l ∧ Below w.heap.size w w' := by
  obtain ⟨A, c, rfl, l1, l2, h3⟩ := rowsAt ha
  have H3 := Lib.hid h3
  have HIH := Lib.hid IH
  have HH := Lib.hid h
  have OL := Lib.hid (show SLs eSc tSp (w.alloc (.cells #[.slice none 0 0, .slice none 0 0, .int .i64 1] tSp)) w.heap.size (.slice (some ⟨w.heap.size, 0, none⟩) 1 1) [(([], []), 1)] from ⟨[[.slice none 0 0, .slice none 0 0, .int .i64 1]], OwnK.lit w tSp 3 [[.slice none 0 0, .slice none 0 0, .int .i64 1]] (fun c hc => by simp at hc; subst hc; rfl) (by simp [maxLen]) #[.slice none 0 0, .slice none 0 0, .int .i64 1] rfl, by
    have h := (Elts.nil eSc (w.alloc (.cells #[.slice none 0 0, .slice none 0 0, .int .i64 1] tSp)) w.heap.size).snoc (c := [.slice none 0 0, .slice none 0 0, .int .i64 1]) (x := (([], []), 1)) ⟨_, _, rfl, fldF_nil _ _, fldF_nil _ _⟩
    exact h⟩)
  clear ha h3 h IH
  go_enter Tryz.func219, Tryz.ntmps219
  go_wp2_with fail
  go_loopw [3, 4] (fun o i wr => ∃ (k : Nat) (acc : List SC), k ≤ bs.length ∧ i = .int .i64 k ∧ SLs eSc tSp wr w.heap.size o acc ∧ Hid (loop5 (tree5 f) (bs.drop k) acc = some l) ∧ Below w.heap.size w wr) (fun _ i _ => bs.length - (intOf i).toNat)
  case atStart => exact ⟨0, _, Nat.zero_le _, rfl, OL.out, HH.out, below1 _ _⟩
  case round =>
    obtain ⟨k, acc, hk, rfl, ho, hh, hb⟩ := hrel
    clear OL
    have HO := Lib.hid ho
    have HB := Lib.hid hb
    by_cases hlt : k < bs.length
    · obtain ⟨ad, q, A5, c5, rfl, hq, hiq, hcq⟩ := H3.out k hlt
      have hdr : bs.drop k = q :: bs.drop (k + 1) := by
        obtain ⟨h1, h2⟩ := List.getElem?_eq_some_iff.1 hq
        rw [List.drop_eq_getElem_cons h1, h2]
      have hl := hh.out
      rw [hdr] at hl
      obtain ⟨lb, hlb, ok1, ok2, ok3, hrest⟩ := loop5_cons hl
      have HLB := Lib.hid hlb
      have HK1 := Lib.hid ok1
      have HK2 := Lib.hid ok2
      have HRE := Lib.hid hrest
      have hcq := keepCell hb hcq
      have HIQ := Lib.hid (hiq.below hb)
      have hki : (k : Int) < (bs.length : Int) := by omega
      obtain ⟨Ao, co, rfl, -, -⟩ := ho.open_
      clear hq hiq hdr hl hlb ok1 ok2 ok3 hrest ho hb hh
      go_wp2_with (first
        | (go_at_call 187; go_loud (refine (HIH.out _ _ q lb HIQ.out HLB.out).mono ?_; rintro e w2 ⟨x2, rfl, ho2, hb2⟩; have HO2 := Lib.hid (ho2.mono HB.out.size); have HB2 := Lib.hid (HB.out.trans (hb2.mono HB.out.size)); have HOX := Lib.hid (HO.out.below hb2); clear ho2 hb2))
        | (go_at_call 237; go_loud (refine (s_l05Times _ _ _ acc lb w.heap.size HB2.out.size HOX.out HO2.out HK1.out HK2.out).mono ?_; rintro e w3 ⟨x3, rfl, ho3, hb3⟩; have HO3 := Lib.hid (ho3.mono HB2.out.size); have HB3 := Lib.hid (HB2.out.trans (hb3.mono HB2.out.size)); clear ho3 hb3)))
      go_roundw
      case rel => exact ⟨k + 1, _, by omega, by go_num, HO3.out, HRE.out, HB3.out⟩
      case measure => simp [intOf]; omega
    · have hl := hh.out
      rw [List.drop_eq_nil_of_le (by omega), loop5] at hl
      injection hl with hl
      subst hl
      clear hh
      go_wp2_with fail
      go_ret
      exact ⟨_, rfl, HO.out, HB.out⟩
theorem putF_bd {K : Nat} : ∀ (l2 : List SC) (out : List SC) (n M : Nat), Bd5 out n M → (∀ x ∈ l2, x.2 ≤ K) → Bd5 (l2.foldl put5 out) (n + l2.length) (M + l2.length * K)
  | [], out, n, M, h, _ => by simpa using h
  | x :: l2, out, n, M, h, hk => by
    have h1 := put5_bd (cut := x) h
    have h2 : Bd5 (put5 out x) (n + 1) (M + K) := ⟨h1.1, fun z hz => by have := h1.2 z hz; have := hk x (by simp); omega⟩
    have h3 := putF_bd l2 (put5 out x) (n + 1) (M + K) h2 fun y hy => hk y (by simp [hy])
    rw [List.foldl_cons]
    refine ⟨by have := h3.1; rw [List.length_cons]; omega, fun z hz => ?_⟩
    have := h3.2 z hz
    rw [List.length_cons, Nat.add_mul]
    omega
set_option maxHeartbeats 32000000 in
theorem s_l05Tree : ∀ (f : Nat) (w : World) (v : Value) (t : List Nat) (r : List SC), Ints w v (up t) → tree5 f t = some r →
    Calls Tryz.prog 187 #[v] w fun e w' => ∃ x, e = .returned x ∧ SLs eSc tSp w' w.heap.size x r ∧ Below w.heap.size w w' := by
  intro f
  induction f with
  | zero => intro w v t r _ h; cases h
  | succ f ih =>
    intro w v t r ha h
    obtain ⟨hok, c, ps, l, l2, hc, hokc, hps, hpl, hpk, hlo, hll, hl2, hl2k, hrk, hr⟩ := tree5_succ h
    have HIH := Lib.hid ih
    have HBR := Lib.hid (s_l03Branches w v t c ps ha hc hps hok hokc hpl hpk)
    have HFO := Lib.hid (fun W x (hx : Rows W x ((srtB ps).map up)) => s_l05Forest f ih W x (srtB ps) l hx hlo)
    have HA := Lib.hid ha
    obtain ⟨tl, tk⟩ := okT1_of hok
    obtain ⟨ll, lk⟩ := okL5_of hll
    obtain ⟨l2l, l2k⟩ := okL5_of hl2k
    have HLK := Lib.hid lk
    have HL2K := Lib.hid l2k
    have HML := Lib.hid (mapO_len hl2)
    have HMX := Lib.hid (fun k x (hx : l[k]? = some x) => show ∃ y, l2[k]? = some y ∧ root5 x = some y from mapO_get hl2 k x hx)
    have HRR := Lib.hid hr
    have HPB := Lib.hid (fun k => putF_bd (K := 100) (l2.take k) [(([t], []), 1)] 1 1 ⟨by simp, fun x hx => by simp at hx; subst hx; exact Nat.le_refl _⟩ fun x hx => (okC5_of (l2k x (List.mem_of_mem_take hx))).2.2.2)
    obtain ⟨A, cA, rfl, -, -, -⟩ := ha.open_
    rw [up_len] at HA HBR ⊢
    have hl100 : l.length ≤ 100 := ll
    have hl2e : l2.length = l.length := mapO_len hl2
    clear ih ha h hc hokc hps hpl hpk hlo hll hl2 hl2k hrk hr ll lk l2k
    go_enter Tryz.func187, Tryz.ntmps187
    go_wp2_with (first
      | (go_at_call 220; go_loud (refine HBR.out.mono ?_; rintro e w1 ⟨x1, rfl, ho1, hb1⟩; have HX1 := Lib.hid ho1.rows; have HB1 := Lib.hid hb1; clear ho1 hb1))
      | (go_at_call 219; go_loud (refine (HFO.out _ _ HX1.out).mono ?_; rintro e w2 ⟨x2, rfl, ho2, hb2⟩; have HO2 := Lib.hid (ho2.mono HB1.out.size); have HB2 := Lib.hid (HB1.out.trans (hb2.mono HB1.out.size)); clear ho2 hb2))
      | (go_at_call 158; go_loud (refine (s_l01OwnT _ _ (up t) (HA.out.below HB2.out) (by rw [up_len]; omega)).mono ?_; rintro e w3 ⟨x3, rfl, ho3, hb3⟩; obtain ⟨A3, c3, rfl, -, -, -⟩ := ho3.ints.open_; rw [up_len] at ho3; rw [up_len]; have HO3 := Lib.hid ho3; have HB3 := Lib.hid (HB2.out.trans (hb3.mono HB2.out.size)); have HB23 := Lib.hid hb3; clear ho3 hb3)))
    have hb34 : Below w3.heap.size w3 ((w3.alloc (.cells #[.slice A3 t.length c3] tL)).alloc (.cells #[.slice (some ⟨w3.heap.size, 0, none⟩) 1 1, .slice none 0 0, .int .i64 1] tSp)) := (below1 w3 _).trans ((below1 _ _).mono (by simp))
    have HB34 := Lib.hid hb34
    have OL := Lib.hid (show SLs eSc tSp ((w3.alloc (.cells #[.slice A3 t.length c3] tL)).alloc (.cells #[.slice (some ⟨w3.heap.size, 0, none⟩) 1 1, .slice none 0 0, .int .i64 1] tSp)) w.heap.size (.slice (some ⟨w3.heap.size + 1, 0, none⟩) 1 1) [(([t], []), 1)] from by
      have ho := OwnK.lit (w3.alloc (.cells #[.slice A3 t.length c3] tL)) tSp 3 [[.slice (some ⟨w3.heap.size, 0, none⟩) 1 1, .slice none 0 0, .int .i64 1]] (fun c hc => by simp at hc; subst hc; rfl) (by simp [maxLen]) #[.slice (some ⟨w3.heap.size, 0, none⟩) 1 1, .slice none 0 0, .int .i64 1] rfl
      rw [size_alloc'] at ho
      have hf : fldF.P (w3.alloc (.cells #[.slice A3 t.length c3] tL)) w.heap.size (.slice (some ⟨w3.heap.size, 0, none⟩) 1 1) [t] := ⟨LL.one (HO3.out.mono HB2.out.size) HB3.out.size, by simp, by simp [ndN]; omega⟩
      have h := (Elts.nil eSc ((w3.alloc (.cells #[.slice A3 t.length c3] tL)).alloc (.cells #[.slice (some ⟨w3.heap.size, 0, none⟩) 1 1, .slice none 0 0, .int .i64 1] tSp)) w.heap.size).snoc (c := [.slice (some ⟨w3.heap.size, 0, none⟩) 1 1, .slice none 0 0, .int .i64 1]) (x := (([t], []), 1)) ⟨_, _, rfl, fldF.below hf (below1 _ _), fldF_nil _ _⟩
      exact ⟨_, ho.mono (Nat.le_succ_of_le HB3.out.size), h⟩)
    have HOB := Lib.hid (HO2.out.below HB23.out)
    obtain ⟨csl, hol, hel⟩ := HOB.out
    have HLL := Lib.hid hel.1
    have HOL := Lib.hid hol
    have HEL := Lib.hid hel
    obtain ⟨Al, cl, rfl, -, -⟩ := hol.open_
    have hcsl : csl.length ≤ 100 := by rw [hel.1]; exact hl100
    clear hb34 hol hel
    go_loopw [4, 5] (fun o i wr => ∃ k : Nat, k ≤ csl.length ∧ i = .int .i64 k ∧ SLs eSc tSp wr w.heap.size o ((l2.take k).foldl put5 [(([t], []), 1)]) ∧ Below w3.heap.size w3 wr) (fun _ i _ => csl.length - (intOf i).toNat)
    case atStart => exact ⟨0, Nat.zero_le _, rfl, OL.out, HB34.out⟩
    case round =>
      obtain ⟨k, hk, rfl, ho, hb⟩ := hrel
      rename World => wc
      clear OL
      have HO := Lib.hid ho
      have HBC := Lib.hid hb
      have HBW := Lib.hid (HB3.out.trans (hb.mono HB3.out.size))
      by_cases hlt : k < csl.length
      · obtain ⟨x, hx⟩ : ∃ x, l[k]? = some x := ⟨_, List.getElem?_eq_getElem (by rw [← HLL.out]; exact hlt)⟩
        obtain ⟨y, hy, hxy⟩ := HMX.out k x hx
        have hkx := okC5_of (HLK.out x (List.mem_of_getElem? hx))
        obtain ⟨go, Au, cu, As, cs, rfl, -, hxu, hxs, q0, q1, q2⟩ := sc_parts (HOL.out.below hb) (HEL.out.below hb) hx
        obtain ⟨⟨x1, x2⟩, xn⟩ := x
        obtain ⟨hr1, hr2, rt, hr3, hr4, rfl⟩ := root5_some hxy
        have hr1 : okT1 (rootN x2) = true := hr1
        have hr2 : brLen x2 ≤ 1000 := hr2
        have hr3 : canO 9 (rootN x2) = some rt := hr3
        obtain ⟨⟨sx1, sx2⟩, bx1, bx2, nx⟩ := hkx
        have bx2 : ∀ b ∈ x2, b.length ≤ 50 ∧ ∀ l ∈ b, l ≤ 1000 := bx2
        have hxu : fldF.P wc w.heap.size (.slice Au x1.length cu) x1 := hxu
        have hxs : fldF.P wc w.heap.size (.slice As x2.length cs) x2 := hxs
        have nx : xn ≤ 100 := nx
        have HXU := Lib.hid hxu
        have HXS := Lib.hid (show LL wc w.heap.size (.slice As x2.length cs) (x2.map up) from hxs.1)
        have sx2' : x2.length ≤ 19 := sx2.1
        have HRT := Lib.hid (fun W (h : Rows W (.slice As x2.length cs) (x2.map up)) => s_l03Root W _ x2 rt h (fun q hq => ⟨by have := (bx2 q hq).1; omega, fun l hl => by have := (bx2 q hq).2 l hl; omega⟩) hr2 (by omega) hr3 (by have := (okT1_of hr1).1; omega) (fun l hl => by have := (okT1_of hr1).2 l hl; omega))
        have HRL := Lib.hid (okT1_of hr4).1
        have HTK := Lib.hid (show (l2.take (k + 1)).foldl put5 [(([t], []), 1)] = put5 ((l2.take k).foldl put5 [(([t], []), 1)]) ((x1, [rt]), xn) from by rw [List.take_add_one, hy, List.foldl_append]; rfl)
        have hpb := HPB.out k
        have hlk : (l2.take k).length ≤ 100 := Nat.le_trans (List.length_take_le _ _) (by omega)
        generalize (l2.take k).foldl put5 [(([t], []), 1)] = R at *
        have hrl : R.length ≤ 20000 := by have := hpb.1; omega
        have HRM := Lib.hid (show ∀ z ∈ R, z.2 ≤ 200000000 from fun z hz => by have := hpb.2 z hz; omega)
        have Q := Lib.hid (show wc.cell? ⟨go, k * 3, none⟩ = some (.slice Au x1.length cu) ∧ wc.cell? ⟨go, k * 3 + 1, none⟩ = some (.slice As x2.length cs) ∧ wc.cell? ⟨go, k * 3 + 2, none⟩ = some (.int .i64 (xn : Nat)) from ⟨q0, q1, q2⟩)
        have QQ := Lib.hid (fun W (h : Below wc.heap.size wc W) => show W.cell? ⟨go, k * 3, none⟩ = some (.slice Au x1.length cu) ∧ W.cell? ⟨go, k * 3 + 1, none⟩ = some (.slice As x2.length cs) ∧ W.cell? ⟨go, k * 3 + 2, none⟩ = some (.int .i64 (xn : Nat)) from ⟨keepCell h Q.out.1, keepCell h Q.out.2.1, keepCell h Q.out.2.2⟩)
        obtain ⟨csr, hor, her⟩ := HO.out
        obtain ⟨Ar, cr, rfl, -, -⟩ := hor.open_
        have HOR := Lib.hid hor
        have HER := Lib.hid her
        have hkk : (k : Int) < (csl.length : Int) := by omega
        clear q0 q1 q2 hxu hxs hor her hpb ho hb hx hy hxy bx1 bx2 hr1 hr2 hr3 hr4 sx1 sx2 hlk
        go_upto_region 6 with fail
        refine AnyT.begin (k := 19) (S := fun b w' => (w'.cell? ⟨go, k * 3, none⟩ = some (.slice Au x1.length cu) ∧ w'.cell? ⟨go, k * 3 + 1, none⟩ = some (.slice As x2.length cs) ∧ w'.cell? ⟨go, k * 3 + 2, none⟩ = some (.int .i64 (xn : Nat))) ∧ True) (by kernel_rfl) ?_
        have hS : (fun (b : Bool) (w' : World) => (w'.cell? ⟨go, k * 3, none⟩ = some (.slice Au x1.length cu) ∧ w'.cell? ⟨go, k * 3 + 1, none⟩ = some (.slice As x2.length cs) ∧ w'.cell? ⟨go, k * 3 + 2, none⟩ = some (.int .i64 (xn : Nat))) ∧ True) false wc.drew := ⟨Q.out, trivial⟩
        refine AnyT.take0 (i := 0) (v := ?_) rfl (by kernel_rfl) (by kernel_rfl) (by kernel_rfl) (by decide) (fun _ _ _ h => h) hS (Or.inl ⟨by first | kernel_rfl | rfl, ?_⟩) ?_
        rotate_left
        · intro w' hw'; clear hw'; go_simp; try with_reducible rfl
        try simp only [Act.put, List.setIfInBounds_toArray, List.set_cons_zero, List.set_cons_succ]
        refine AnyT.take0 (i := 1) (v := ?_) rfl (by kernel_rfl) (by kernel_rfl) (by kernel_rfl) (by decide) (fun _ _ _ h => h) hS (Or.inl ⟨by first | kernel_rfl | rfl, ?_⟩) ?_
        rotate_left
        · intro w' hw'; clear hw'; go_simp; try with_reducible rfl
        try simp only [Act.put, List.setIfInBounds_toArray, List.set_cons_zero, List.set_cons_succ]
        refine AnyT.take0 (i := 2) (v := ?_) rfl (by kernel_rfl) (by kernel_rfl) (by kernel_rfl) (by decide) (fun _ _ _ h => h) hS (Or.inl ⟨by first | kernel_rfl | rfl, ?_⟩) ?_
        rotate_left
        · intro w' hw'; clear hw'; go_simp; try with_reducible rfl
        try simp only [Act.put, List.setIfInBounds_toArray, List.set_cons_zero, List.set_cons_succ]
        refine AnyT.take0 (i := 3) (v := ?_) rfl (by kernel_rfl) (by kernel_rfl) (by kernel_rfl) (by decide) (fun _ _ _ h => h) hS (Or.inl ⟨by first | kernel_rfl | rfl, ?_⟩) ?_
        rotate_left
        · intro w' hw'; clear hw'; go_simp; try with_reducible rfl
        try simp only [Act.put, List.setIfInBounds_toArray, List.set_cons_zero, List.set_cons_succ]
        refine AnyT.take0 (i := 4) (v := ?_) rfl (by kernel_rfl) (by kernel_rfl) (by kernel_rfl) (by decide) (fun _ _ _ h => h) hS (Or.inl ⟨by first | kernel_rfl | rfl, ?_⟩) ?_
        rotate_left
        · intro w' hw'; clear hw'; go_simp; try with_reducible rfl
        try simp only [Act.put, List.setIfInBounds_toArray, List.set_cons_zero, List.set_cons_succ]
        refine AnyT.take0 (i := 5) (v := ?_) rfl (by kernel_rfl) (by kernel_rfl) (by kernel_rfl) (by decide) (fun _ _ _ h => h) hS (Or.inl ⟨by first | kernel_rfl | rfl, ?_⟩) ?_
        rotate_left
        · rintro w' ⟨b, hw'⟩; obtain ⟨hw1, -⟩ := hw'; (try (obtain ⟨hw1, hw2⟩ := hw1)); (try (obtain ⟨hw2, hw3⟩ := hw2)); (try (obtain ⟨hw3, hw4⟩ := hw3)); go_simp; try with_reducible rfl
        try simp only [Act.put, List.setIfInBounds_toArray, List.set_cons_zero, List.set_cons_succ]
        refine AnyT.take0 (i := 6) (v := ?_) rfl (by kernel_rfl) (by kernel_rfl) (by kernel_rfl) (by decide) (fun _ _ _ h => h) hS (Or.inl ⟨by first | kernel_rfl | rfl, ?_⟩) ?_
        rotate_left
        · intro w' hw'; clear hw'; go_simp; try with_reducible rfl
        try simp only [Act.put, List.setIfInBounds_toArray, List.set_cons_zero, List.set_cons_succ]
        refine AnyT.take0 (i := 7) (v := ?_) rfl (by kernel_rfl) (by kernel_rfl) (by kernel_rfl) (by decide) (fun _ _ _ h => h) hS (Or.inl ⟨by first | kernel_rfl | rfl, ?_⟩) ?_
        rotate_left
        · intro w' hw'; clear hw'; go_simp; try with_reducible rfl
        try simp only [Act.put, List.setIfInBounds_toArray, List.set_cons_zero, List.set_cons_succ]
        refine AnyT.take0 (i := 8) (v := ?_) rfl (by kernel_rfl) (by kernel_rfl) (by kernel_rfl) (by decide) (fun _ _ _ h => h) hS (Or.inl ⟨by first | kernel_rfl | rfl, ?_⟩) ?_
        rotate_left
        · intro w' hw'; clear hw'; go_simp; try with_reducible rfl
        try simp only [Act.put, List.setIfInBounds_toArray, List.set_cons_zero, List.set_cons_succ]
        refine AnyT.take0 (i := 9) (v := ?_) rfl (by kernel_rfl) (by kernel_rfl) (by kernel_rfl) (by decide) (fun _ _ _ h => h) hS (Or.inl ⟨by first | kernel_rfl | rfl, ?_⟩) ?_
        rotate_left
        · intro w' hw'; clear hw'; go_simp; try with_reducible rfl
        try simp only [Act.put, List.setIfInBounds_toArray, List.set_cons_zero, List.set_cons_succ]
        refine AnyT.take0 (i := 10) (v := ?_) rfl (by kernel_rfl) (by kernel_rfl) (by kernel_rfl) (by decide) (fun _ _ _ h => h) hS (Or.inl ⟨by first | kernel_rfl | rfl, ?_⟩) ?_
        rotate_left
        · rintro w' ⟨b, hw'⟩; obtain ⟨hw1, -⟩ := hw'; (try (obtain ⟨hw1, hw2⟩ := hw1)); (try (obtain ⟨hw2, hw3⟩ := hw2)); (try (obtain ⟨hw3, hw4⟩ := hw3)); go_simp; try with_reducible rfl
        try simp only [Act.put, List.setIfInBounds_toArray, List.set_cons_zero, List.set_cons_succ]
        refine AnyT.take0 (i := 13) (v := ?_) rfl (by kernel_rfl) (by kernel_rfl) (by kernel_rfl) (by decide) (fun _ _ _ h => h) hS (Or.inl ⟨by first | kernel_rfl | rfl, ?_⟩) ?_
        rotate_left
        · intro w' hw'; clear hw'; go_simp; try with_reducible rfl
        try simp only [Act.put, List.setIfInBounds_toArray, List.set_cons_zero, List.set_cons_succ]
        refine AnyT.take0 (i := 14) (v := ?_) rfl (by kernel_rfl) (by kernel_rfl) (by kernel_rfl) (by decide) (fun _ _ _ h => h) hS (Or.inl ⟨by first | kernel_rfl | rfl, ?_⟩) ?_
        rotate_left
        · intro w' hw'; clear hw'; go_simp; try with_reducible rfl
        try simp only [Act.put, List.setIfInBounds_toArray, List.set_cons_zero, List.set_cons_succ]
        refine AnyT.take0 (i := 15) (v := ?_) rfl (by kernel_rfl) (by kernel_rfl) (by kernel_rfl) (by decide) (fun _ _ _ h => h) hS (Or.inl ⟨by first | kernel_rfl | rfl, ?_⟩) ?_
        rotate_left
        · intro w' hw'; clear hw'; go_simp; try with_reducible rfl
        try simp only [Act.put, List.setIfInBounds_toArray, List.set_cons_zero, List.set_cons_succ]
        refine AnyT.take0 (i := 16) (v := ?_) rfl (by kernel_rfl) (by kernel_rfl) (by kernel_rfl) (by decide) (fun _ _ _ h => h) hS (Or.inl ⟨by first | kernel_rfl | rfl, ?_⟩) ?_
        rotate_left
        · intro w' hw'; clear hw'; go_simp; try with_reducible rfl
        try simp only [Act.put, List.setIfInBounds_toArray, List.set_cons_zero, List.set_cons_succ]
        refine AnyT.take0 (i := 17) (v := ?_) rfl (by kernel_rfl) (by kernel_rfl) (by kernel_rfl) (by decide) (fun _ _ _ h => h) hS (Or.inl ⟨by first | kernel_rfl | rfl, ?_⟩) ?_
        rotate_left
        · rintro w' ⟨b, hw'⟩; obtain ⟨hw1, -⟩ := hw'; (try (obtain ⟨hw1, hw2⟩ := hw1)); (try (obtain ⟨hw2, hw3⟩ := hw2)); (try (obtain ⟨hw3, hw4⟩ := hw3)); go_simp; try with_reducible rfl
        try simp only [Act.put, List.setIfInBounds_toArray, List.set_cons_zero, List.set_cons_succ]
        refine AnyT.go (rs := [11]) (by kernel_rfl) (by simp) ?_
        refine AllT.cons rfl (fun K hK => ?_) AllT.nil
        go_simp
        refine (HRT.out wc.drew (HXS.out.rows.below (Below.refl wc.heap.size wc).drew)).mono ?_
        rintro e w5 ⟨u5, rfl, ho5, hb5'⟩
        obtain ⟨A5, c5, rfl, -, -, -⟩ := ho5.ints.open_
        rw [up_len] at ho5
        rw [up_len]
        have hb5 : Below wc.heap.size wc w5 := by exact below_of_drew hb5'
        have HU5 := Lib.hid (show OwnInts w5 wc.heap.size tI (.slice A5 rt.length c5) (up rt) from ho5)
        have HB5 := Lib.hid hb5
        refine hK.out _ _ ⟨QQ.out _ hb5, trivial⟩ (fun hS => ?_)
        clear hK ho5 hb5' hb5
        try simp only [Act.put, List.setIfInBounds_toArray, List.set_cons_zero, List.set_cons_succ]
        refine AnyT.go (rs := [12]) (by kernel_rfl) (by simp) ?_
        refine AllT.cons rfl (fun K hK => ?_) AllT.nil
        go_simp
        have hb6 : Below wc.heap.size wc (w5.alloc (.cells #[.slice A5 rt.length c5] tL)) := HB5.out.trans ((below1 w5 _).mono HB5.out.size)
        have HB6 := Lib.hid hb6
        refine hK.out _ _ ⟨QQ.out _ hb6, trivial⟩ (fun hS => ?_)
        clear hK hb6
        try simp only [Act.put, List.setIfInBounds_toArray, List.set_cons_zero, List.set_cons_succ]
        refine AnyT.take0 (i := 18) (v := ?_) rfl (by kernel_rfl) (by kernel_rfl) (by kernel_rfl) (by decide) (fun _ _ _ h => h) hS (Or.inl ⟨by first | kernel_rfl | rfl, ?_⟩) ?_
        rotate_left
        · intro w' hw'; clear hw'; go_simp; try with_reducible rfl
        try simp only [Act.put, List.setIfInBounds_toArray, List.set_cons_zero, List.set_cons_succ]
        refine AnyT.go (rs := [19]) (by kernel_rfl) (by simp) ?_
        refine AllT.cons rfl (fun K hK => ?_) AllT.nil
        go_simp
        have hc6 : eSc.D (w5.alloc (.cells #[.slice A5 rt.length c5] tL)) w.heap.size [.slice Au x1.length cu, .slice (some ⟨w5.heap.size, 0, none⟩) 1 1, .int .i64 (xn : Nat)] ((x1, [rt]), xn) := ⟨_, _, rfl, fldF.below HXU.out HB6.out, ⟨LL.one (HU5.out.mono HBW.out.size) (Nat.le_trans HBW.out.size HB5.out.size), by simp, by simp [ndN]; have := HRL.out; omega⟩⟩
        refine (s_l05Put (w5.alloc (.cells #[.slice A5 rt.length c5] tL)) (.slice Ar csr.length cr) [.slice Au x1.length cu, .slice (some ⟨w5.heap.size, 0, none⟩) 1 1, .int .i64 (xn : Nat)] R _ w.heap.size 200000000 (Nat.le_trans HBW.out.size HB6.out.size) ⟨csr, HOR.out.below HB6.out, HER.out.below HB6.out⟩ hc6 (by omega) HRM.out (by show 200000000 + xn ≤ 1000000000; omega)).mono ?_
        rintro e w7 ⟨x7, rfl, ho7, hb7⟩
        have HO7 := Lib.hid ho7
        have HB7 := Lib.hid hb7
        refine hK.out _ _ ⟨QQ.out _ (HB6.out.trans (HB7.out.mono HB6.out.size)), trivial⟩ (fun hS => ?_)
        clear hK hc6 ho7 hb7
        try simp only [Act.put, List.setIfInBounds_toArray, List.set_cons_zero, List.set_cons_succ]
        refine AnyT.take0 (i := 20) (v := ?_) rfl (by kernel_rfl) (by kernel_rfl) (by kernel_rfl) (by decide) (fun _ _ _ h => h) hS (Or.inl ⟨by first | kernel_rfl | rfl, ?_⟩) ?_
        rotate_left
        · intro w' hw'; clear hw'; go_simp; try with_reducible rfl
        try simp only [Act.put, List.setIfInBounds_toArray, List.set_cons_zero, List.set_cons_succ]
        clear hS
        refine AnyT.done (by kernel_rfl) ?_ _
        go_wp2_with fail
        go_roundw
        case rel => exact ⟨k + 1, by omega, by go_num, by rw [HTK.out]; exact HO7.out, HBC.out.trans ((HB6.out.trans (HB7.out.mono HB6.out.size)).mono HBC.out.size)⟩
        case measure => simp [intOf]; omega
      · have hkl : l2.take k = l2 := List.take_of_length_le (by rw [HML.out, ← HLL.out]; omega)
        rw [hkl, ← HRR.out] at ho
        have HOF := Lib.hid ho
        clear hkl ho hb
        go_wp2_with fail
        go_ret
        exact ⟨_, rfl, HOF.out, HBW.out⟩
end Go.Proofs.YtdjhfeaimmpmhaaGreat

set_option maxRecDepth 100000
set_option linter.unusedVariables false
set_option linter.unusedSimpArgs false
namespace Go.Proofs.YtdjhfeaimmpmhaaGreat
open Go.RowKit

set_option maxHeartbeats 32000000 in
theorem s_l05Cuts (w : World) (v : Value) (t : List Nat) (l : List SC) (ha : Ints w v (up t)) (h : tree5 9 t = some l) :
    Calls Tryz.prog 140 #[v] w fun e w' => ∃ x, e = .returned x ∧ SLs eCu tCu w' w.heap.size x (l.map cut5) ∧ Below w.heap.size w w' := by
  obtain ⟨-, c, ps, l0, l2, -, -, -, -, -, -, -, -, -, hrk, -⟩ := tree5_succ h
  obtain ⟨ll, lk⟩ := okL5_of hrk
  have HLK := Lib.hid lk
  have HTR := Lib.hid (s_l05Tree 9 w v t l ha h)
  clear ha h hrk lk
  go_enter Tryz.func140, Tryz.ntmps140
  go_wp2_with (go_at_call 187; go_loud (refine HTR.out.mono ?_; rintro e w1 ⟨x1, rfl, ho1, hb1⟩; obtain ⟨csl, hol, hel⟩ := ho1; obtain ⟨Al, cl, rfl, -, -⟩ := hol.open_; have hcsl : csl.length ≤ 100 := (by rw [hel.1]; exact ll); have HLL := Lib.hid hel.1; have HOL := Lib.hid hol; have HEL := Lib.hid hel; have HB1 := Lib.hid hb1; clear hol hel hb1))
  have OL := Lib.hid (show OwnK (w1.alloc (.cells #[] tCu)) w1.heap.size tCu 3 (.slice (some ⟨w1.heap.size, 0, none⟩) 0 0) [] from OwnK.lit w1 tCu 3 [] (fun c hc => by simp at hc) (by simp [maxLen]) #[] rfl)
  go_loopw [4, 5] (fun o i wr => ∃ (k : Nat) (css3 : List (List Value)), k ≤ csl.length ∧ i = .int .i64 k ∧ OwnK wr w1.heap.size tCu 3 o css3 ∧ Elts eCu wr w.heap.size css3 ((l.take k).map cut5) ∧ Below w1.heap.size w1 wr) (fun _ i _ => csl.length - (intOf i).toNat)
  case atStart => exact ⟨0, [], Nat.zero_le _, rfl, OL.out, Elts.nil _ _ _, below1 _ _⟩
  case round =>
    obtain ⟨k, css3, hk, rfl, ho, he, hb⟩ := hrel
    rename World => wm
    clear OL
    have HO := Lib.hid ho
    have HE := Lib.hid he
    have HBM := Lib.hid hb
    have HBW := Lib.hid (HB1.out.trans (hb.mono HB1.out.size))
    have hc3 : css3.length ≤ 100 := by rw [he.1, List.length_map, List.length_take]; omega
    by_cases hlt : k < csl.length
    · obtain ⟨x, hx⟩ : ∃ x, l[k]? = some x := ⟨_, List.getElem?_eq_getElem (by rw [← HLL.out]; exact hlt)⟩
      have hkx := okC5_of (HLK.out x (List.mem_of_getElem? hx))
      have HTS := Lib.hid (show (l.take (k + 1)).map cut5 = (l.take k).map cut5 ++ [cut5 x] from by rw [List.take_add_one, hx, List.map_append]; rfl)
      obtain ⟨go, Au, cu, As, cs, rfl, -, hxu0, hxs0, p0, p1, p2⟩ := sc_parts HOL.out HEL.out hx
      obtain ⟨⟨x1, x2⟩, xn⟩ := x
      obtain ⟨⟨sx1, sx2⟩, bx1, bx2, nx⟩ := hkx
      have hxu : fldF.P wm w.heap.size (.slice Au x1.length cu) x1 := fldF.below hxu0 hb
      have hxs : fldF.P wm w.heap.size (.slice As x2.length cs) x2 := fldF.below hxs0 hb
      have hxs1 : LL wm w.heap.size (.slice As x2.length cs) (x2.map up) := hxs.1
      have p0 : w1.cell? ⟨go, k * 3, none⟩ = some (.slice Au x1.length cu) := p0
      have p1 : w1.cell? ⟨go, k * 3 + 1, none⟩ = some (.slice As x2.length cs) := p1
      have p2 : w1.cell? ⟨go, k * 3 + 2, none⟩ = some (.int .i64 (xn : Nat)) := p2
      have q1 := keepCell hb p1
      have QQ := Lib.hid (fun W (h : Below w1.heap.size w1 W) => show W.cell? ⟨go, k * 3, none⟩ = some (.slice Au x1.length cu) ∧ W.cell? ⟨go, k * 3 + 2, none⟩ = some (.int .i64 (xn : Nat)) from ⟨keepCell h p0, keepCell h p2⟩)
      have bx2 : ∀ b ∈ x2, b.length ≤ 50 ∧ ∀ l ∈ b, l ≤ 1000 := bx2
      have HXF := Lib.hid (show x1.length ≤ 1000000 ∧ ndN x1 ≤ 1000000 from hxu.2)
      have HOW := Lib.hid (fun W (h : Below wm.heap.size wm W) => s_l01Own2T W _ x1 ((show LL wm w.heap.size _ (x1.map up) from hxu.1).rows.below h) (by have h2 : x1.length ≤ 19 := sx1.1; omega) (fun b hb => by have := (bx1 b hb).1; omega))
      have hkk : (k : Int) < (csl.length : Int) := by omega
      obtain ⟨W1, hW1⟩ : ∃ W, W = wm.alloc (.cells #[] tI) := ⟨_, rfl⟩
      have hbw1 : Below wm.heap.size wm W1 := by rw [hW1]; exact below1 wm _
      have HBW1 := Lib.hid hbw1
      have HEM := Lib.hid (show OwnInts W1 wm.heap.size tI (.slice (some ⟨wm.heap.size, 0, none⟩) 0 0) (up []) from by rw [hW1]; exact ⟨own_lit wm tI [] (by simp [maxLen]), fun z hz => by simp [up] at hz⟩)
      have z1 : W1.cell? ⟨go, k * 3 + 1, none⟩ = some (.slice As x2.length cs) := keepCell hbw1 q1
      have HSR := Lib.hid (hxs1.rows.below hbw1)
      have HB2K := Lib.hid bx2
      clear p0 p1 p2 q1 hxu hxs hxs1 hxu0 hxs0 bx1 bx2 sx1 sx2 hx ho he hb hbw1
      go_upto_region 6 with fail
      rw [← hW1]
      clear hW1
      go_upto_if 23 with fail
      go_cut [6] from 10 to 47 (fun tv wx => ∃ At ct, tv = .slice At (x2.headD []).length ct ∧ OwnInts wx wm.heap.size tI (.slice At (x2.headD []).length ct) (up (x2.headD [])) ∧ Below W1.heap.size W1 wx)
      case first =>
        cases x2 with
        | nil =>
          have hd : decide ((0 : Int) < 0) = false := rfl
          go_wp2_with fail
          go_meet
          exact ⟨_, _, rfl, HEM.out, Below.refl _ _⟩
        | cons t1 tr =>
          obtain ⟨A', c', he, -, -, h3⟩ := rowsAt HSR.out
          simp only [Value.slice.injEq, true_and] at he
          obtain ⟨rfl, rfl⟩ := he
          obtain ⟨adt, q, A7, c7, rfl, hq, hqi, hqc⟩ := h3 0 (by simp)
          simp at hq
          subst hq
          have hqc : W1.cell? adt = some (.slice A7 t1.length c7) := by simpa [Addr.add] using hqc
          have HQI := Lib.hid hqi
          have ht1 : t1.length ≤ 50 := (HB2K.out t1 (by simp)).1
          have hlp : 0 < (t1 :: tr).length := by simp
          have hli : (0 : Int) < ((t1 :: tr).length : Int) := by omega
          have hd : decide ((0 : Int) < ((t1 :: tr).length : Int)) = true := decide_eq_true hli
          generalize (t1 :: tr).length = n2 at *
          clear h3 hqi
          go_wp2_with (go_at_call 158; go_loud (refine (s_l01OwnT _ _ (up t1) HQI.out (by rw [up_len]; omega)).mono ?_; rintro e w3 ⟨x3, rfl, ho3, hb3⟩; obtain ⟨A3, c3, rfl, -, -, -⟩ := ho3.ints.open_; rw [up_len] at ho3; rw [up_len]; have HO3 := Lib.hid ho3; have HB3 := Lib.hid hb3; clear ho3 hb3))
          go_meet
          exact ⟨_, _, rfl, HO3.out.mono HBW1.out.size, HB3.out⟩
      case rest =>
        obtain ⟨At, ct, rfl, hot, hbt⟩ := hcut
        have HTT := Lib.hid hot
        have HBT := Lib.hid (HBW1.out.trans (hbt.mono HBW1.out.size))
        obtain ⟨tt, htt⟩ : ∃ tt, tt = x2.headD [] := ⟨_, rfl⟩
        have HTE := Lib.hid (show cut5 ((x1, x2), xn) = ((x1, tt), xn) from by rw [htt]; rfl)
        rw [← htt] at HTT ⊢
        obtain ⟨Ao, co, rfl, -, -⟩ := HO.out.open_
        clear hot hbt htt
        go_upto_region 8 with fail
        refine AnyT.begin (k := 15) (S := fun b w' => (w'.cell? ⟨go, k * 3, none⟩ = some (.slice Au x1.length cu) ∧ w'.cell? ⟨go, k * 3 + 2, none⟩ = some (.int .i64 (xn : Nat))) ∧ True) (by kernel_rfl) ?_
        have hS : (fun (b : Bool) (w' : World) => (w'.cell? ⟨go, k * 3, none⟩ = some (.slice Au x1.length cu) ∧ w'.cell? ⟨go, k * 3 + 2, none⟩ = some (.int .i64 (xn : Nat))) ∧ True) false wc.drew := ⟨QQ.out _ ((HBM.out.trans (HBT.out.mono HBM.out.size)).drew), trivial⟩
        refine AnyT.take0 (i := 0) (v := ?_) rfl (by kernel_rfl) (by kernel_rfl) (by kernel_rfl) (by decide) (fun _ _ _ h => h) hS (Or.inl ⟨by first | kernel_rfl | rfl, ?_⟩) ?_
        rotate_left
        · intro w' hw'; clear hw'; go_simp; try with_reducible rfl
        try simp only [Act.put, List.setIfInBounds_toArray, List.set_cons_zero, List.set_cons_succ]
        refine AnyT.take0 (i := 1) (v := ?_) rfl (by kernel_rfl) (by kernel_rfl) (by kernel_rfl) (by decide) (fun _ _ _ h => h) hS (Or.inl ⟨by first | kernel_rfl | rfl, ?_⟩) ?_
        rotate_left
        · intro w' hw'; clear hw'; go_simp; try with_reducible rfl
        try simp only [Act.put, List.setIfInBounds_toArray, List.set_cons_zero, List.set_cons_succ]
        refine AnyT.take0 (i := 2) (v := ?_) rfl (by kernel_rfl) (by kernel_rfl) (by kernel_rfl) (by decide) (fun _ _ _ h => h) hS (Or.inl ⟨by first | kernel_rfl | rfl, ?_⟩) ?_
        rotate_left
        · intro w' hw'; clear hw'; go_simp; try with_reducible rfl
        try simp only [Act.put, List.setIfInBounds_toArray, List.set_cons_zero, List.set_cons_succ]
        refine AnyT.take0 (i := 3) (v := ?_) rfl (by kernel_rfl) (by kernel_rfl) (by kernel_rfl) (by decide) (fun _ _ _ h => h) hS (Or.inl ⟨by first | kernel_rfl | rfl, ?_⟩) ?_
        rotate_left
        · intro w' hw'; clear hw'; go_simp; try with_reducible rfl
        try simp only [Act.put, List.setIfInBounds_toArray, List.set_cons_zero, List.set_cons_succ]
        refine AnyT.take0 (i := 4) (v := ?_) rfl (by kernel_rfl) (by kernel_rfl) (by kernel_rfl) (by decide) (fun _ _ _ h => h) hS (Or.inl ⟨by first | kernel_rfl | rfl, ?_⟩) ?_
        rotate_left
        · intro w' hw'; clear hw'; go_simp; try with_reducible rfl
        try simp only [Act.put, List.setIfInBounds_toArray, List.set_cons_zero, List.set_cons_succ]
        refine AnyT.take0 (i := 5) (v := ?_) rfl (by kernel_rfl) (by kernel_rfl) (by kernel_rfl) (by decide) (fun _ _ _ h => h) hS (Or.inl ⟨by first | kernel_rfl | rfl, ?_⟩) ?_
        rotate_left
        · rintro w' ⟨b, hw'⟩; obtain ⟨hw1, -⟩ := hw'; (try (obtain ⟨hw1, hw2⟩ := hw1)); (try (obtain ⟨hw2, hw3⟩ := hw2)); (try (obtain ⟨hw3, hw4⟩ := hw3)); go_simp; try with_reducible rfl
        try simp only [Act.put, List.setIfInBounds_toArray, List.set_cons_zero, List.set_cons_succ]
        refine AnyT.take0 (i := 7) (v := ?_) rfl (by kernel_rfl) (by kernel_rfl) (by kernel_rfl) (by decide) (fun _ _ _ h => h) hS (Or.inl ⟨by first | kernel_rfl | rfl, ?_⟩) ?_
        rotate_left
        · intro w' hw'; clear hw'; go_simp; try with_reducible rfl
        try simp only [Act.put, List.setIfInBounds_toArray, List.set_cons_zero, List.set_cons_succ]
        refine AnyT.take0 (i := 8) (v := ?_) rfl (by kernel_rfl) (by kernel_rfl) (by kernel_rfl) (by decide) (fun _ _ _ h => h) hS (Or.inl ⟨by first | kernel_rfl | rfl, ?_⟩) ?_
        rotate_left
        · intro w' hw'; clear hw'; go_simp; try with_reducible rfl
        try simp only [Act.put, List.setIfInBounds_toArray, List.set_cons_zero, List.set_cons_succ]
        refine AnyT.take0 (i := 9) (v := ?_) rfl (by kernel_rfl) (by kernel_rfl) (by kernel_rfl) (by decide) (fun _ _ _ h => h) hS (Or.inl ⟨by first | kernel_rfl | rfl, ?_⟩) ?_
        rotate_left
        · intro w' hw'; clear hw'; go_simp; try with_reducible rfl
        try simp only [Act.put, List.setIfInBounds_toArray, List.set_cons_zero, List.set_cons_succ]
        refine AnyT.take0 (i := 10) (v := ?_) rfl (by kernel_rfl) (by kernel_rfl) (by kernel_rfl) (by decide) (fun _ _ _ h => h) hS (Or.inl ⟨by first | kernel_rfl | rfl, ?_⟩) ?_
        rotate_left
        · intro w' hw'; clear hw'; go_simp; try with_reducible rfl
        try simp only [Act.put, List.setIfInBounds_toArray, List.set_cons_zero, List.set_cons_succ]
        refine AnyT.take0 (i := 11) (v := ?_) rfl (by kernel_rfl) (by kernel_rfl) (by kernel_rfl) (by decide) (fun _ _ _ h => h) hS (Or.inl ⟨by first | kernel_rfl | rfl, ?_⟩) ?_
        rotate_left
        · intro w' hw'; clear hw'; go_simp; try with_reducible rfl
        try simp only [Act.put, List.setIfInBounds_toArray, List.set_cons_zero, List.set_cons_succ]
        refine AnyT.take0 (i := 12) (v := ?_) rfl (by kernel_rfl) (by kernel_rfl) (by kernel_rfl) (by decide) (fun _ _ _ h => h) hS (Or.inl ⟨by first | kernel_rfl | rfl, ?_⟩) ?_
        rotate_left
        · rintro w' ⟨b, hw'⟩; obtain ⟨hw1, -⟩ := hw'; (try (obtain ⟨hw1, hw2⟩ := hw1)); (try (obtain ⟨hw2, hw3⟩ := hw2)); (try (obtain ⟨hw3, hw4⟩ := hw3)); go_simp; try with_reducible rfl
        try simp only [Act.put, List.setIfInBounds_toArray, List.set_cons_zero, List.set_cons_succ]
        refine AnyT.go (rs := [6]) (by kernel_rfl) (by simp) ?_
        refine AllT.cons rfl (fun K hK => ?_) AllT.nil
        go_simp
        refine (HOW.out wc.drew HBT.out.drew).mono ?_
        rintro e w5 ⟨u5, rfl, ho5, hb5'⟩
        obtain ⟨A5, c5, he5, -, -, -⟩ := ho5.rows.open_
        rw [List.length_map] at he5
        subst he5
        have hb5 : Below wc.heap.size wc w5 := by exact below_of_drew hb5'
        have HU5 := Lib.hid (show LL w5 wc.heap.size (.slice A5 x1.length c5) (x1.map up) from ho5)
        have HB5 := Lib.hid (HBT.out.trans (hb5.mono HBT.out.size))
        have HB5C := Lib.hid hb5
        refine hK.out _ _ ⟨QQ.out _ (HBM.out.trans (HB5.out.mono HBM.out.size)), trivial⟩ (fun hS => ?_)
        clear hK ho5 hb5' hb5
        try simp only [Act.put, List.setIfInBounds_toArray, List.set_cons_zero, List.set_cons_succ]
        refine AnyT.take0 (i := 13) (v := ?_) rfl (by kernel_rfl) (by kernel_rfl) (by kernel_rfl) (by decide) (fun _ _ _ h => h) hS (Or.inl ⟨by first | kernel_rfl | rfl, ?_⟩) ?_
        rotate_left
        · intro w' hw'; clear hw'; go_simp; try with_reducible rfl
        try simp only [Act.put, List.setIfInBounds_toArray, List.set_cons_zero, List.set_cons_succ]
        refine AnyT.go (rs := [14]) (by kernel_rfl) (by simp) ?_
        refine AllT.cons rfl (fun K hK => ?_) AllT.nil
        go_simp
        have hb6 : Below wm.heap.size wm (w5.alloc (.cells #[.slice A5 x1.length c5, .slice At tt.length ct, .int .i64 (xn : Nat)] tCu)) := HB5.out.trans ((below1 w5 _).mono HB5.out.size)
        have HB6 := Lib.hid hb6
        refine hK.out _ _ ⟨QQ.out _ (HBM.out.trans (hb6.mono HBM.out.size)), trivial⟩ (fun hS => ?_)
        clear hK hb6
        try simp only [Act.put, List.setIfInBounds_toArray, List.set_cons_zero, List.set_cons_succ]
        refine AnyT.go (rs := [15]) (by kernel_rfl) (by simp) ?_
        refine AllT.cons rfl (fun K hK => ?_) AllT.nil
        have HOX := Lib.hid (HO.out.below HB6.out)
        refine step_app1K T_cut (ad := ⟨w5.heap.size, 0, none⟩) (W := w5.alloc (.cells #[.slice A5 x1.length c5, .slice At tt.length ct, .int .i64 (xn : Nat)] tCu)) (c := [.slice A5 x1.length c5, .slice At tt.length ct, .int .i64 (xn : Nat)]) HOX.out (by omega) (Nat.le_trans HBM.out.size HB6.out.size) rfl (by intro u hu; simp at hu; rcases hu with rfl | rfl | rfl <;> rfl) (lit_cells _ _ _ _ rfl) (by rfl) rfl (by rfl) (by rfl) ?_
        intro v7 w7 hown7 hgr7
        have HN7 := Lib.hid hown7
        have HG7 := Lib.hid hgr7
        have HB7 := Lib.hid (hgr7.below (HBM.out.trans (HB6.out.mono HBM.out.size)) (Nat.le_trans HBM.out.size HB6.out.size) HO.out.ge)
        refine hK.out _ _ ⟨QQ.out _ HB7.out, trivial⟩ (fun hS => ?_)
        clear hK hown7 hgr7
        try simp only [Act.put, List.setIfInBounds_toArray, List.set_cons_zero, List.set_cons_succ]
        refine AnyT.take0 (i := 16) (v := ?_) rfl (by kernel_rfl) (by kernel_rfl) (by kernel_rfl) (by decide) (fun _ _ _ h => h) hS (Or.inl ⟨by first | kernel_rfl | rfl, ?_⟩) ?_
        rotate_left
        · intro w' hw'; clear hw'; go_simp; try with_reducible rfl
        try simp only [Act.put, List.setIfInBounds_toArray, List.set_cons_zero, List.set_cons_succ]
        clear hS
        refine AnyT.done (by kernel_rfl) ?_ _
        go_wp2_with fail
        go_roundw
        case rel =>
          refine ⟨k + 1, _, by omega, by go_num, HN7.out, ?_, HB7.out⟩
          rw [HTS.out, HTE.out]
          exact ((HE.out.below HB6.out).snoc (x := ((x1, tt), xn)) ⟨_, _, rfl, ⟨(HU5.out.mono (Nat.le_trans HBW.out.size HBT.out.size)).below (below1 w5 _), HXF.out⟩, (((HTT.out.below HB5C.out).mono HBW.out.size).below (below1 w5 _))⟩).kept HG7.out.1 HOX.out.bt (by decide) (by decide)
        case measure => simp [intOf]; omega
    · have hil : l.take k = l := List.take_of_length_le (by rw [← HLL.out]; omega)
      rw [hil] at HE
      clear hil
      go_wp2_with fail
      go_ret
      exact ⟨_, rfl, ⟨css3, HO.out.mono HB1.out.size, HE.out⟩, HBW.out⟩
end Go.Proofs.YtdjhfeaimmpmhaaGreat

