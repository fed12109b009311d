/- Monomials: words of memory; walks of isMonomial of the program and l13Degree of the reference. | Monomials and fields that came in: words of memory. No program in sight. | Fields, plain: what makes a field. No program in sight. | Plain: the text of a field. No walk. | Plain: texts cut at a byte. No walk. | Plain: decimal numbers read from texts. No walk. -/
import Derived.Test.YtnnfjjadehgmeaaGreatDoorFt2
import Derived.Lib.Join
import Derived.Lib.Split
import Derived.Lib.SplitLaws
import Derived.Lib.ParseIntB
set_option maxRecDepth 100000
set_option linter.unusedVariables false
set_option linter.unusedSimpArgs false
namespace Go.Proofs.YtnnfjjadehgmeaaGreatDoor
open Go.RowKit

/-- a monomial: the factor and the powers -/
abbrev Mono := Int × List Int
/-- a monomial that can be read -/
def MonoArg (w : World) (v : Value) (m : Mono) : Prop := ∃ u, v = .agg #[.int .i64 m.1, u] ∧ In64 m.1 ∧ Ints w u m.2
theorem MonoArg.below {w w' : World} {v : Value} {m : Mono} (h : MonoArg w v m) (hb : Below w.heap.size w w') : MonoArg w' v m := by
  obtain ⟨u, rfl, h1, h2⟩ := h
  exact ⟨u, rfl, h1, h2.below hb⟩

def powOk (ps : List Int) : Bool := ps.all fun e => inR e 0 3
def degOk (ps : List Int) : Bool := powOk ps && decide (sumF id ps ≤ 3)
/-- is m a monomial of n variables? -/
def monoB (n : Int) (m : Mono) : Bool := degOk m.2 && (!decide (m.1 = 0) && (isNum m.1 && decide ((m.2.length : Int) = n)))
theorem powOk_take {ps : List Int} {j : Nat} (h : ∀ i y, i < j → ps[i]? = some y → inR y 0 3 = true) : ∀ x ∈ ps.take j, 0 ≤ x ∧ x ≤ 3 := by
  intro x hx
  obtain ⟨i, hi, rfl⟩ := List.getElem_of_mem hx
  have hl : i < j ∧ i < ps.length := by simp at hi; omega
  have := h i _ hl.1 (by rw [List.getElem?_eq_getElem hl.2])
  rw [List.getElem_take]
  exact inR_iff.1 this
theorem powOk_all {ps : List Int} (h : ∀ i y, i < ps.length → ps[i]? = some y → inR y 0 3 = true) : powOk ps = true := by
  unfold powOk
  rw [List.all_eq_true]
  intro x hx
  obtain ⟨i, hi, rfl⟩ := List.getElem_of_mem hx
  exact h i _ hi (List.getElem?_eq_getElem hi)
theorem powOk_no {ps : List Int} {j : Nat} {x : Int} (hx : ps[j]? = some x) (h : inR x 0 3 = false) : powOk ps = false := by
  unfold powOk
  rw [List.all_eq_false]
  exact ⟨x, List.mem_of_getElem? hx, by rw [h]; simp⟩

set_option maxHeartbeats 2000000 in
theorem i_isMonomial (w : World) (v : Value) (m : Mono) (n : Int) (ha : MonoArg w v m) (hn : m.2.length ≤ 4294967296) :
    Calls Tryz.prog 32 #[v, .int .i64 n] w fun e w' => e = .returned (.bool (monoB n m)) ∧ Below w.heap.size w w' := by
  obtain ⟨f, ps⟩ := m
  obtain ⟨u, rfl, hf64, hu⟩ := ha
  obtain ⟨A, c, rfl, l1, l2, h3⟩ := hu.open_
  have HU := Lib.hid hu
  simp only at hn l1 h3 HU ⊢
  have H3 := Lib.hid h3
  clear hu h3 hf64
  have B0 := Lib.hid (below1 w (.cells #[.int .i64 f, .slice A ps.length c] 44))
  have K0 := Lib.hid (Blk.new w #[.int .i64 f, .slice A ps.length c] 44)
  go_enter Tryz.func32, Tryz.ntmps32
  go_wp2_with fail
  generalize (w.alloc (.cells #[.int .i64 f, .slice A ps.length c] 44)) = w1 at B0 K0 ⊢
  go_loopw [5, 11] (fun s i wr => ∃ j : Nat, j ≤ ps.length ∧ i = .int .i64 j ∧ s = .int .i64 (sumF id (ps.take j)) ∧ wr = w1 ∧ Hid (∀ i y, i < j → ps[i]? = some y → inR y 0 3 = true)) (fun _ i _ => ps.length - (intOf i).toNat)
  case atStart => exact ⟨0, Nat.zero_le _, rfl, rfl, rfl, fun i y h => by omega⟩
  case round =>
    obtain ⟨j, hj, rfl, rfl, rfl, hI⟩ := hrel
    have hsb := sumF_bd id 3 (ps.take j) (fun x hx => powOk_take hI.out x hx)
    have hsl : ((ps.take j).length : Int) ≤ 4294967296 := by rw [List.length_take]; omega
    by_cases hlt : j < ps.length
    · obtain ⟨ad, x, rfl, hx, -, hc0⟩ := H3.out j hlt
      have hc : wr.cell? (ad.add j) = some (.int .i64 x) := by
        rw [B0.out.cell (by rw [block_add]; have := World.block_lt_of_cell? w _ hc0; rwa [block_add] at this)]; exact hc0
      have HX := Lib.hid hx
      have HS := Lib.hid (sumF_take id hx)
      clear hx hc0
      cases hr : inR x 0 3 with
      | false =>
        have HP := Lib.hid (powOk_no HX.out hr)
        go_wp2_with (go_at_call 30; refine (i_inRange _ _ _ _).mono ?_; rintro e w' ⟨rfl, rfl⟩; rw [hr])
        go_ret
        exact ⟨ret_bool (by simp [monoB, degOk, HP.out]), B0.out⟩
      | true =>
        have hxb := inR_iff.1 hr
        have HR := Lib.hid hr
        generalize sumF id (ps.take j) = s at hsb HS
        generalize (ps.take j).length = q at hsb hsl
        go_wp2_with (go_at_call 30; refine (i_inRange _ _ _ _).mono ?_; rintro e w' ⟨rfl, rfl⟩; rw [hr])
        go_roundw
        case rel =>
          refine ⟨j + 1, by omega, by go_num, by rw [HS.out]; rfl, trivial, fun i y hi hy => ?_⟩
          by_cases e : i = j
          · subst e
            rw [HX.out] at hy
            cases hy
            exact HR.out
          · exact hI.out i y (by omega) hy
        case measure => simp [intOf]; omega
    · have : j = ps.length := by omega
      subst this
      have HP := Lib.hid (powOk_all hI.out)
      rw [List.take_length]
      have k0 : wr.cell? ⟨w.heap.size, 0, none⟩ = some (.int .i64 f) := K0.out.cell 0
      have k1 : wr.cell? ⟨w.heap.size, 1, none⟩ = some (.slice A ps.length c) := K0.out.cell 1
      have HSM := Lib.hid (show degOk ps = decide (sumF id ps ≤ 3) by simp [degOk, HP.out])
      have HUW := Lib.hid (HU.out.below B0.out)
      clear hsb hsl
      generalize sumF id ps = s at HSM
      by_cases h0 : f = 0
      · subst h0
        go_wp2_with fail
        go_ret
        exact ⟨ret_bool (by simp [monoB]), B0.out⟩
      · cases hnum : isNum f with
        | false =>
          go_wp2_with (go_at_call 55; refine (i_IsNumber _ _).mono ?_; rintro e w' ⟨rfl, rfl⟩; rw [hnum])
          go_ret
          exact ⟨ret_bool (by simp [monoB, hnum]), B0.out⟩
        | true =>
          by_cases hl : (ps.length : Int) = n
          · subst hl
            by_cases hd : s ≤ 3
            · have HD := Lib.hid (show degOk ps = true by rw [HSM.out]; simpa using hd)
              have HM := Lib.hid (show monoB (ps.length : Int) (f, ps) = true by simp [monoB, HD.out, h0, hnum])
              go_wp2_with (first | (go_at_call 55; refine (i_IsNumber _ _).mono ?_; rintro e w' ⟨rfl, rfl⟩; rw [hnum]) | (go_at_call 56; refine (lib_lengthI _ _ _ HUW.out).mono ?_; rintro e w' ⟨rfl, rfl⟩))
              go_ret
              exact ⟨ret_bool HM.out.symm, B0.out⟩
            · have HD := Lib.hid (show degOk ps = false by rw [HSM.out]; simpa using hd)
              have HM := Lib.hid (show monoB (ps.length : Int) (f, ps) = false by simp [monoB, HD.out])
              go_wp2_with (first | (go_at_call 55; refine (i_IsNumber _ _).mono ?_; rintro e w' ⟨rfl, rfl⟩; rw [hnum]) | (go_at_call 56; refine (lib_lengthI _ _ _ HUW.out).mono ?_; rintro e w' ⟨rfl, rfl⟩))
              go_ret
              exact ⟨ret_bool (by rw [HM.out]; simpa using hd), B0.out⟩
          · have HM := Lib.hid (show monoB n (f, ps) = false by simp [monoB, hl])
            go_wp2_with (first | (go_at_call 55; refine (i_IsNumber _ _).mono ?_; rintro e w' ⟨rfl, rfl⟩; rw [hnum]) | (go_at_call 56; refine (lib_lengthI _ _ _ HUW.out).mono ?_; rintro e w' ⟨rfl, rfl⟩))
            go_ret
            exact ⟨ret_bool HM.out.symm, B0.out⟩

/-- the degree that the reference reckons -/
def degV (ps : List Int) : Int := if ps.all (fun e => inR e 0 100) then sumF id ps else 1000
theorem sumF_nonneg {ps : List Int} (h : ∀ x ∈ ps, 0 ≤ x) : 0 ≤ sumF id ps ∧ ∀ x ∈ ps, x ≤ sumF id ps := by
  induction ps with
  | nil => simp [sumF]
  | cons y r ih =>
    have h1 := ih (fun x hx => h x (List.mem_cons_of_mem _ hx))
    have h2 := h y List.mem_cons_self
    have e : sumF id (y :: r) = y + sumF id r := by simp [sumF]
    rw [e]
    refine ⟨by omega, fun x hx => ?_⟩
    rcases List.mem_cons.1 hx with rfl | hx
    · omega
    · have := h1.2 x hx; omega
theorem degV_ok (ps : List Int) : decide (degV ps ≤ 3) = degOk ps := by
  unfold degV degOk
  cases ha : ps.all (fun e => inR e 0 100) with
  | true =>
    rw [if_pos rfl]
    have h0 : ∀ x ∈ ps, 0 ≤ x := fun x hx => (inR_iff.1 (List.all_eq_true.1 ha x hx)).1
    have h1 := sumF_nonneg h0
    by_cases hs : sumF id ps ≤ 3
    · have hp : powOk ps = true := by
        unfold powOk
        rw [List.all_eq_true]
        intro x hx
        exact inR_iff.2 ⟨h0 x hx, by have := h1.2 x hx; omega⟩
      simp [hs, hp]
    · simp [hs]
  | false =>
    rw [if_neg (by simp)]
    have hp : powOk ps = false := by
      rw [List.all_eq_false] at ha
      obtain ⟨x, hx, hn⟩ := ha
      unfold powOk
      rw [List.all_eq_false]
      refine ⟨x, hx, ?_⟩
      simp only [Bool.not_eq_true] at hn ⊢
      have := inR_not.1 hn
      exact inR_not.2 (by omega)
    simp [hp]
theorem cent_no {ps : List Int} {j : Nat} {x : Int} (hx : ps[j]? = some x) (h : x < 0 ∨ 100 < x) : degV ps = 1000 := by
  unfold degV
  rw [if_neg]
  rw [Bool.not_eq_true, List.all_eq_false]
  exact ⟨x, List.mem_of_getElem? hx, by rw [Bool.not_eq_true]; exact inR_not.2 h⟩
theorem cent_all {ps : List Int} (h : ∀ i y, i < ps.length → ps[i]? = some y → 0 ≤ y ∧ y ≤ 100) : degV ps = sumF id ps := by
  unfold degV
  rw [if_pos]
  rw [List.all_eq_true]
  intro x hx
  obtain ⟨i, hi, rfl⟩ := List.getElem_of_mem hx
  exact inR_iff.2 (h i _ hi (List.getElem?_eq_getElem hi))

set_option maxHeartbeats 1000000 in
theorem s_l13Degree (w : World) (v : Value) (ps : List Int) (ha : Ints w v ps) (hn : ps.length ≤ 4294967296) :
    Calls Tryz.prog 41 #[v] w fun e w' => e = .returned (.int .i64 (degV ps)) ∧ w = w' := by
  obtain ⟨A, c, rfl, l1, l2, h3⟩ := ha.open_
  have H3 := Lib.hid h3
  clear ha h3
  go_enter Tryz.func41, Tryz.ntmps41
  go_wp2_with fail
  go_loop [3, 4] (fun s i => ∃ j : Nat, j ≤ ps.length ∧ i = .int .i64 j ∧ s = .int .i64 (sumF id (ps.take j)) ∧ Hid (∀ i y, i < j → ps[i]? = some y → 0 ≤ y ∧ y ≤ 100)) (fun _ i => ps.length - (intOf i).toNat)
  case atStart => exact ⟨0, Nat.zero_le _, rfl, rfl, fun i y h => by omega⟩
  case round =>
    obtain ⟨j, hj, rfl, rfl, hI⟩ := hrel
    have hsb := sumF_bd id 100 (ps.take j) (fun x hx => by
      obtain ⟨i, hi, rfl⟩ := List.getElem_of_mem hx
      have hl : i < j ∧ i < ps.length := by simp at hi; omega
      have := hI.out i _ hl.1 (List.getElem?_eq_getElem hl.2)
      rw [List.getElem_take]
      exact this)
    have hsl : ((ps.take j).length : Int) ≤ 4294967296 := by rw [List.length_take]; omega
    by_cases hlt : j < ps.length
    · obtain ⟨ad, x, rfl, hx, -, hc⟩ := H3.out j hlt
      have HX := Lib.hid hx
      have HS := Lib.hid (sumF_take id hx)
      have hji : (j : Int) < (ps.length : Int) := by omega
      clear hx
      by_cases h0 : x < 0
      · have HP := Lib.hid (cent_no HX.out (.inl h0))
        go_wp2_with fail
        go_ret
        exact ⟨ret_int HP.out.symm, rfl⟩
      · by_cases h1 : 100 < x
        · have HP := Lib.hid (cent_no HX.out (.inr h1))
          go_wp2_with fail
          go_ret
          exact ⟨ret_int HP.out.symm, rfl⟩
        · generalize sumF id (ps.take j) = s at hsb HS
          generalize (ps.take j).length = q at hsb hsl
          go_wp2_with fail
          go_round
          case rel =>
            refine ⟨j + 1, by omega, by go_num, by rw [HS.out]; rfl, fun i y hi hy => ?_⟩
            by_cases e : i = j
            · subst e
              rw [HX.out] at hy
              cases hy
              omega
            · exact hI.out i y (by omega) hy
          case measure => simp [intOf]; omega
    · have : j = ps.length := by omega
      subst this
      have HP := Lib.hid (cent_all hI.out)
      rw [List.take_length]
      go_wp2_with fail
      go_ret
      exact ⟨ret_int HP.out.symm, rfl⟩
end Go.Proofs.YtnnfjjadehgmeaaGreatDoor

set_option maxRecDepth 100000
set_option linter.unusedVariables false
set_option linter.unusedSimpArgs false
namespace Go.Proofs.YtnnfjjadehgmeaaGreatDoor
open Go.RowKit

/-- a list of monomials that can be read -/
def Monos (w : World) (v : Value) (ms : List Mono) : Prop :=
  ∃ A c, v = .slice A ms.length c ∧ ms.length ≤ c ∧ c ≤ maxLen ∧ ∀ (k : Nat) (m : Mono), ms[k]? = some m → ∃ b o u, A = some ⟨b, o, none⟩ ∧ In64 m.1 ∧ Ints w u m.2 ∧ w.cell? ⟨b, o + k * 2, none⟩ = some (.int .i64 m.1) ∧ w.cell? ⟨b, o + k * 2 + 1, none⟩ = some u
theorem Monos.below {w w' : World} {v : Value} {ms : List Mono} (h : Monos w v ms) (hb : Below w.heap.size w w') : Monos w' v ms := by
  obtain ⟨A, c, rfl, h1, h2, h3⟩ := h
  refine ⟨A, c, rfl, h1, h2, fun k m hm => ?_⟩
  obtain ⟨b, o, u, hA, hf, hu, hc, hc'⟩ := h3 k m hm
  refine ⟨b, o, u, hA, hf, hu.below hb, ?_, ?_⟩
  · rw [hb.cell (World.block_lt_of_cell? w _ hc)]; exact hc
  · rw [hb.cell (World.block_lt_of_cell? w _ hc')]; exact hc'
theorem Monos.open_ {w : World} {v : Value} {ms : List Mono} (h : Monos w v ms) : ∃ A c, v = .slice A ms.length c ∧ ms.length ≤ c ∧ c ≤ 9223372036854775807 ∧ ∀ (k : Nat), k < ms.length → ∃ b o m u, A = some ⟨b, o, none⟩ ∧ ms[k]? = some m ∧ In64 m.1 ∧ Ints w u m.2 ∧ w.cell? ⟨b, o + k * 2, none⟩ = some (.int .i64 m.1) ∧ w.cell? ⟨b, o + k * 2 + 1, none⟩ = some u := by
  obtain ⟨A, c, rfl, h1, h2, h3⟩ := h
  refine ⟨A, c, rfl, h1, by simpa [maxLen] using h2, fun k hk => ?_⟩
  obtain ⟨b, o, u, hA, hf, hu, hc, hc'⟩ := h3 k ms[k] (List.getElem?_eq_getElem hk)
  exact ⟨b, o, ms[k], u, hA, List.getElem?_eq_getElem hk, hf, hu, hc, hc'⟩
/-- lists of monomials that can be read -/
def MRows (w : World) (v : Value) (pss : List (List Mono)) : Prop :=
  ∃ vs, Cells w v vs ∧ vs.length = pss.length ∧ ∀ (k : Nat) (u : Value) (ms : List Mono), vs[k]? = some u → pss[k]? = some ms → Monos w u ms
theorem MRows.below {w w' : World} {v : Value} {pss : List (List Mono)} (h : MRows w v pss) (hb : Below w.heap.size w w') : MRows w' v pss := by
  obtain ⟨vs, h1, h2, h3⟩ := h
  exact ⟨vs, h1.below hb, h2, fun k u ms hu hm => (h3 k u ms hu hm).below hb⟩
theorem MRows.open_ {w : World} {v : Value} {pss : List (List Mono)} (h : MRows w v pss) : ∃ A c, v = .slice A pss.length c ∧ pss.length ≤ c ∧ c ≤ 9223372036854775807 ∧ ∀ (k : Nat), k < pss.length → ∃ ad u ms, A = some ad ∧ pss[k]? = some ms ∧ Monos w u ms ∧ w.cell? (ad.add k) = some u := by
  obtain ⟨vs, ⟨A, c, rfl, h1, h2, h3⟩, h4, h5⟩ := h
  rw [h4] at h1 ⊢
  refine ⟨A, c, rfl, h1, by simpa [maxLen] using h2, fun k hk => ?_⟩
  have hv : vs[k]? = some (vs[k]'(by rw [h4]; exact hk)) := List.getElem?_eq_getElem _
  obtain ⟨ad, hA, hc⟩ := h3 k _ hv
  exact ⟨ad, _, pss[k], hA, List.getElem?_eq_getElem hk, h5 k _ _ hv (List.getElem?_eq_getElem hk), hc⟩
def FieldArg (w : World) (v : Value) (n : Int) (pss : List (List Mono)) : Prop := ∃ vp, v = .agg #[.int .i64 n, vp] ∧ In64 n ∧ MRows w vp pss

end Go.Proofs.YtnnfjjadehgmeaaGreatDoor

set_option maxRecDepth 100000
set_option linter.unusedVariables false
set_option linter.unusedSimpArgs false
namespace Go.Proofs.YtnnfjjadehgmeaaGreatDoor
open Go.RowKit

/-- is the k-th monomial no monomial, or not behind the one ahead of it? -/
def badAt (n : Int) (ms : List Mono) (k : Nat) : Bool := !monoB n (ms.getD k (0, [])) || (decide (0 < k) && !lessL (ms.getD (k - 1) (0, [])).2 (ms.getD k (0, [])).2)
def partB (n : Int) (ms : List Mono) : Bool := (List.range ms.length).all fun k => !badAt n ms k
def fieldB (n : Int) (pss : List (List Mono)) : Bool := inR n 1 3 && (decide ((pss.length : Int) = n) && pss.all (partB n))
theorem partB_no {n : Int} {ms : List Mono} {k : Nat} (hk : k < ms.length) (h : badAt n ms k = true) : partB n ms = false := by
  unfold partB
  rw [List.all_eq_false]
  exact ⟨k, List.mem_range.2 hk, by rw [h]; simp⟩
theorem partB_all {n : Int} {ms : List Mono} (h : ∀ k, k < ms.length → badAt n ms k = false) : partB n ms = true := by
  unfold partB
  rw [List.all_eq_true]
  intro k hk
  rw [h k (List.mem_range.1 hk)]
  rfl
theorem parts_no {n : Int} {pss : List (List Mono)} {j : Nat} {ms : List Mono} (hm : pss[j]? = some ms) (h : partB n ms = false) : pss.all (partB n) = false := by
  rw [List.all_eq_false]
  exact ⟨ms, List.mem_of_getElem? hm, by rw [h]; simp⟩
theorem parts_all {n : Int} {pss : List (List Mono)} (h : ∀ i ms, i < pss.length → pss[i]? = some ms → partB n ms = true) : pss.all (partB n) = true := by
  rw [List.all_eq_true]
  intro ms hm
  obtain ⟨i, hi, rfl⟩ := List.getElem_of_mem hm
  exact h i _ hi (List.getElem?_eq_getElem hi)

end Go.Proofs.YtnnfjjadehgmeaaGreatDoor

set_option maxRecDepth 100000
set_option linter.unusedVariables false
set_option linter.unusedSimpArgs false
namespace Go.Proofs.YtnnfjjadehgmeaaGreatDoor
open Go.RowKit

theorem join_snoc (xs : List (List UInt8)) (x sep : List UInt8) : Lib.join (xs ++ [x]) sep = if xs = [] then x else Lib.join xs sep ++ (sep ++ x) := by
  cases xs with
  | nil => simp [Lib.join_one]
  | cons y r =>
    rw [if_neg (by simp), List.cons_append, Lib.join_cons, Lib.join_cons]
    simp [Lib.joinTail]
theorem join_len {c : Nat} {sep : List UInt8} : ∀ (xs : List (List UInt8)), (∀ x ∈ xs, x.length ≤ c) → (Lib.join xs sep).length ≤ xs.length * (c + sep.length)
  | [], _ => by simp [Lib.join_nil]
  | x :: r, h => by
    rw [Lib.join_cons, List.length_append]
    have h1 := h x (by simp)
    have h2 : ∀ (r : List (List UInt8)), (∀ y ∈ r, y.length ≤ c) → (Lib.joinTail sep r).length ≤ r.length * (c + sep.length) := by
      intro r
      induction r with
      | nil => intro _; simp [Lib.joinTail]
      | cons y r ih =>
        intro hr
        have := ih fun z hz => hr z (by simp [hz])
        have := hr y (by simp)
        simp only [Lib.joinTail, List.map_cons, List.flatten_cons, List.length_append, List.length_cons, Nat.add_mul] at *
        omega
    have h3 := h2 r fun y hy => h y (by simp [hy])
    rw [List.length_cons, Nat.add_mul]
    omega
theorem itoa_len (p : Int) : (Lib.itoa p).length ≤ p.natAbs + 2 := by
  unfold Lib.itoa
  split
  · have := decDigits_len p.natAbs
    rw [List.length_cons]; omega
  · have := decDigits_len p.toNat
    omega
theorem txPQ_len {p : Int} {q : Nat} (h1 : -70 ≤ p) (h2 : p ≤ 70) (h3 : q ≤ 71) : (txPQ p q).length ≤ 200 := by
  unfold txPQ
  have := itoa_len p
  split
  · omega
  · have := decDigits_len q
    rw [List.length_append, List.length_cons]; omega
theorem okQ_bd {a q : Int} (h : okQ a q = true) : -70 ≤ cenP a q ∧ cenP a q ≤ 70 := by
  unfold okQ at h
  simp only [Bool.and_eq_true, decide_eq_true_eq] at h
  exact h.1
theorem numTxF_len {a : Int} (ha : 0 ≤ a) (ha' : a ≤ 10006) : ∀ (k q : Nat), q + k ≤ 71 → (numTxF a k q).length ≤ 10100
  | 0, q, _ => by
    have := itoa_len a
    rw [numTxF]; omega
  | k + 1, q, hk => by
    rw [numTxF]
    split
    · rename_i h
      have := txPQ_len (okQ_bd h).1 (okQ_bd h).2 (show q ≤ 71 by omega)
      omega
    · exact numTxF_len ha ha' k (q + 1) (by omega)
theorem numTx_len {a : Int} (ha : 0 ≤ a) (ha' : a ≤ 10006) : (numTx a).length ≤ 10100 := numTxF_len ha ha' 70 1 (by omega)

def digB (e : Int) : UInt8 := UInt8.ofNat (48 + e.toNat)
/-- the text of a monomial -/
def mTx (m : Mono) : List UInt8 := numTx m.1 ++ (58 :: m.2.map digB)
/-- the text of a part -/
def parTx (ms : List Mono) : List UInt8 := if ms = [] then [48] else Lib.join (ms.map mTx) [43]
/-- the text of a field -/
def fldTx (pss : List (List Mono)) : List UInt8 := Lib.join (pss.map parTx) [59]

theorem mTx_len {m : Mono} (h0 : 0 ≤ m.1) (h1 : m.1 ≤ 10006) (h2 : m.2.length ≤ 3) : (mTx m).length ≤ 10104 := by
  have := numTx_len h0 h1
  unfold mTx
  rw [List.length_append, List.length_cons, List.length_map]; omega
theorem parTx_len {ms : List Mono} (h : ∀ m ∈ ms, 0 ≤ m.1 ∧ m.1 ≤ 10006 ∧ m.2.length ≤ 3) : (parTx ms).length ≤ ms.length * 10105 + 1 := by
  unfold parTx
  split
  · simp
  · have := join_len (c := 10104) (sep := [43]) (ms.map mTx) (fun x hx => by
      obtain ⟨m, hm, rfl⟩ := List.mem_map.1 hx
      exact mTx_len (h m hm).1 (h m hm).2.1 (h m hm).2.2)
    simp at this
    omega
theorem parTx_take {ms : List Mono} {k : Nat} {m : Mono} (h : ms[k]? = some m) : Lib.join ((ms.take (k + 1)).map mTx) [43] = if k = 0 then mTx m else Lib.join ((ms.take k).map mTx) [43] ++ (43 :: mTx m) := by
  have hk := (List.getElem?_eq_some_iff.1 h).1
  rw [List.take_add_one, h, Option.toList_some, List.map_append, List.map_cons, List.map_nil, join_snoc]
  by_cases h0 : k = 0
  · subst h0; simp
  · rw [if_neg h0, if_neg (by intro he; have h1 := congrArg List.length he; rw [List.length_map, List.length_take, List.length_nil] at h1; omega)]
    rfl
theorem fldTx_take {pss : List (List Mono)} {k : Nat} {ms : List Mono} (h : pss[k]? = some ms) : fldTx (pss.take (k + 1)) = if k = 0 then parTx ms else fldTx (pss.take k) ++ (59 :: parTx ms) := by
  have hk := (List.getElem?_eq_some_iff.1 h).1
  unfold fldTx
  rw [List.take_add_one, h, Option.toList_some, List.map_append, List.map_cons, List.map_nil, join_snoc]
  by_cases h0 : k = 0
  · subst h0; simp
  · rw [if_neg h0, if_neg (by intro he; have h1 := congrArg List.length he; rw [List.length_map, List.length_take, List.length_nil] at h1; omega)]
    rfl
end Go.Proofs.YtnnfjjadehgmeaaGreatDoor

set_option maxRecDepth 100000
set_option linter.unusedVariables false
set_option linter.unusedSimpArgs false
namespace Go.Proofs.YtnnfjjadehgmeaaGreatDoor
open Go.RowKit

/-- a text cut at each byte b -/
def splB (b : UInt8) : List UInt8 → List (List UInt8)
  | [] => [[]]
  | c :: r => if c = b then [] :: splB b r else match splB b r with
    | [] => [[c]]
    | p :: ps => (c :: p) :: ps
theorem splB_ne (b : UInt8) : ∀ l, splB b l ≠ []
  | [] => by simp [splB]
  | c :: r => by
    rw [splB]
    split
    · simp
    · split <;> simp
theorem splB_pos (b : UInt8) (l : List UInt8) : 1 ≤ (splB b l).length := by
  have := splB_ne b l
  cases h : splB b l with
  | nil => exact absurd h this
  | cons _ _ => simp
/-- no b: one piece -/
theorem splB_one {b : UInt8} : ∀ {p : List UInt8}, (∀ x ∈ p, x ≠ b) → splB b p = [p]
  | [], _ => rfl
  | c :: r, h => by
    rw [splB, if_neg (h c (by simp)), splB_one fun x hx => h x (by simp [hx])]
/-- up to the first b -/
theorem splB_cons {b : UInt8} : ∀ {p r : List UInt8}, (∀ x ∈ p, x ≠ b) → splB b (p ++ b :: r) = p :: splB b r
  | [], r, _ => by simp [splB]
  | c :: p, r, h => by
    rw [List.cons_append, splB, if_neg (h c (by simp)), splB_cons fun x hx => h x (by simp [hx])]
theorem splB_len (b : UInt8) : ∀ l, (splB b l).length ≤ l.length + 1
  | [] => by simp [splB]
  | c :: r => by
    have := splB_len b r
    rw [splB]
    split
    · simp; omega
    · split
      · simp
      · rename_i h; rw [h] at this; simp at this ⊢; omega
theorem splB_mem_len (b : UInt8) : ∀ l, ∀ p ∈ splB b l, p.length ≤ l.length
  | [], p, h => by simp [splB] at h; subst h; simp
  | c :: r, p, h => by
    rw [splB] at h
    split at h
    · rcases List.mem_cons.1 h with rfl | h
      · simp
      · have := splB_mem_len b r p h
        simp; omega
    · split at h
      · rename_i h'; exact absurd h' (splB_ne b r)
      · rename_i q qs h'
        rcases List.mem_cons.1 h with rfl | h
        · have := splB_mem_len b r q (by rw [h']; simp)
          simp; omega
        · have := splB_mem_len b r p (by rw [h']; simp [h])
          simp; omega
/-- what was joined is cut into its parts -/
theorem splB_join {b : UInt8} : ∀ {xs : List (List UInt8)}, xs ≠ [] → (∀ x ∈ xs, ∀ c ∈ x, c ≠ b) → splB b (Lib.join xs [b]) = xs
  | [], h, _ => absurd rfl h
  | [x], _, h => by rw [Lib.join_one, splB_one (h x (by simp))]
  | x :: y :: r, _, h => by
    have e : Lib.join (x :: y :: r) [b] = x ++ b :: Lib.join (y :: r) [b] := by
      rw [Lib.join_cons, Lib.join_cons]
      simp [Lib.joinTail]
    rw [e, splB_cons (h x (by simp)), splB_join (by simp) fun z hz => h z (by simp [hz])]
theorem pre1 (b c : UInt8) (l : List UInt8) : [b].isPrefixOf (c :: l) = (b == c) := by simp [List.isPrefixOf]
theorem index1_miss {b : UInt8} : ∀ {l : List UInt8}, Lib.index l [b] = -1 → ∀ x ∈ l, x ≠ b
  | [], _, x, h => by simp at h
  | c :: l, hi, x, h => by
    rw [Lib.index, pre1] at hi
    by_cases hc : b = c
    · subst hc; simp at hi
    · rw [if_neg (by simpa using hc)] at hi
      by_cases h1 : Lib.index l [b] = -1
      · rcases List.mem_cons.1 h with rfl | h
        · exact fun e => hc e.symm
        · exact index1_miss h1 x h
      · rw [if_neg (by simpa using h1)] at hi
        have := Lib.index_ge l [b]
        omega
theorem index1_hit {b : UInt8} : ∀ {l : List UInt8} {i : Nat}, Lib.index l [b] = (i : Int) → i < l.length ∧ (∀ x ∈ l.take i, x ≠ b) ∧ l = l.take i ++ b :: l.drop (i + 1)
  | [], i, hi => by rw [Lib.index] at hi; simp at hi
  | c :: l, i, hi => by
    rw [Lib.index, pre1] at hi
    by_cases hc : b = c
    · subst hc
      simp at hi
      have : i = 0 := by omega
      subst this
      exact ⟨by simp, by simp, by simp⟩
    · rw [if_neg (by simpa using hc)] at hi
      by_cases h1 : Lib.index l [b] = -1
      · rw [if_pos (by simpa using h1)] at hi; omega
      · rw [if_neg (by simpa using h1)] at hi
        have hge := Lib.index_ge l [b]
        obtain ⟨j, rfl⟩ : ∃ j, i = j + 1 := ⟨i - 1, by omega⟩
        obtain ⟨g1, g2, g3⟩ := index1_hit (b := b) (l := l) (i := j) (by push_cast at hi; omega)
        refine ⟨by simp; omega, fun x hx => ?_, by rw [List.take_succ_cons, List.drop_succ_cons, List.cons_append, ← g3]⟩
        rw [List.take_succ_cons] at hx
        rcases List.mem_cons.1 hx with rfl | hx
        · exact fun e => hc e.symm
        · exact g2 x hx
/-- the library's Split is splB -/
theorem splitB_splB (b : UInt8) : ∀ (k : Nat) (s : ByteArray), Lib.countB s ⟨#[b]⟩ = k → (Lib.splitB ⟨#[b]⟩ 0 k s).map (·.data.toList) = splB b s.data.toList := by
  intro k
  induction k with
  | zero =>
    intro s hk
    rcases Lib.indexB_cases s ⟨#[b]⟩ with h | ⟨i, h, hr⟩
    · rw [Lib.splitB_miss _ _ _ _ h, List.map_cons, List.map_nil, splB_one (index1_miss h)]
    · rw [Lib.countB_hit s ⟨#[b]⟩ i (Nat.le_refl 1) h] at hk; omega
  | succ k ih =>
    intro s hk
    rcases Lib.indexB_cases s ⟨#[b]⟩ with h | ⟨i, h, hr⟩
    · rw [Lib.countB_miss s _ h] at hk; omega
    · rw [Lib.countB_hit s ⟨#[b]⟩ i (Nat.le_refl 1) h] at hk
      rw [Lib.splitB_hit _ _ _ _ _ h, List.map_cons, ih _ (by omega), Nat.add_zero, Lib.extract_from_zero, Lib.extract_to_end]
      obtain ⟨g1, g2, g3⟩ := index1_hit (l := s.data.toList) (i := i) h
      conv => rhs; rw [g3, splB_cons g2]
      rfl
/-- cut at the first b -/
def cutB (b : UInt8) (l : List UInt8) : List UInt8 × List UInt8 × Bool := Lib.cut l [b]
theorem cutB_hit {b : UInt8} {p r : List UInt8} (h : ∀ x ∈ p, x ≠ b) : cutB b (p ++ b :: r) = (p, r, true) := by
  have hi : Lib.index (p ++ b :: r) [b] = ((p.length : Nat) : Int) := by
    induction p with
    | nil => rw [List.nil_append, Lib.index, pre1]; simp
    | cons c p ih =>
      have h1 := ih fun x hx => h x (by simp [hx])
      rw [List.cons_append, Lib.index, pre1, if_neg (by have := h c (by simp); simpa using fun e => this e.symm), h1, if_neg (by simp)]
      simp
  unfold cutB Lib.cut
  rw [hi, if_pos (by omega)]
  simp
theorem cutB_miss {b : UInt8} {p : List UInt8} (h : ∀ x ∈ p, x ≠ b) : cutB b p = (p, [], false) := by
  have hi : Lib.index p [b] = -1 := by
    induction p with
    | nil => rw [Lib.index]; simp
    | cons c p ih =>
      have h1 := ih fun x hx => h x (by simp [hx])
      rw [Lib.index, pre1, if_neg (by have := h c (by simp); simpa using fun e => this e.symm), h1]
      simp
  unfold cutB Lib.cut
  rw [hi, if_neg (by omega)]
theorem cutB_len (b : UInt8) (l : List UInt8) : (cutB b l).1.length ≤ l.length ∧ (cutB b l).2.1.length ≤ l.length := by
  unfold cutB Lib.cut
  split
  · simp; omega
  · simp
end Go.Proofs.YtnnfjjadehgmeaaGreatDoor

set_option maxRecDepth 100000
set_option linter.unusedVariables false
set_option linter.unusedSimpArgs false
namespace Go.Proofs.YtnnfjjadehgmeaaGreatDoor
open Go.RowKit

theorem itoa_nn' {p : Int} (h : ¬ p < 0) : Lib.itoa p = Lib.decDigits p.toNat := by
  unfold Lib.itoa
  rw [if_neg h]
theorem ofNat_toNat {n : Nat} (h : n < 10) : (UInt8.ofNat (48 + n)).toNat = 48 + n := by
  rw [UInt8.toNat_ofNat']; omega
theorem dig_step (n : Nat) : Lib.decDigits n = (if n < 10 then [] else Lib.decDigits (n / 10)) ++ [UInt8.ofNat (48 + n % 10)] := by
  conv => lhs; rw [Lib.decDigits]
  split
  · rename_i h; rw [show n % 10 = n by omega]; simp
  · rfl
theorem dig_chars (n : Nat) : ∀ x ∈ Lib.decDigits n, 48 ≤ x.toNat ∧ x.toNat ≤ 57 := by
  induction n using Nat.strongRecOn with
  | ind n ih =>
    intro x hx
    rw [dig_step] at hx
    rcases List.mem_append.1 hx with hx | hx
    · split at hx
      · simp at hx
      · exact ih (n / 10) (by omega) x hx
    · simp only [List.mem_singleton] at hx
      subst hx
      rw [ofNat_toNat (Nat.mod_lt _ (by decide))]
      omega
theorem dig_len_pos (n : Nat) : 1 ≤ (Lib.decDigits n).length := by rw [dig_step]; simp
/-- a number is below the power of ten that its digits tell -/
theorem dig_lt (n : Nat) : n < 10 ^ (Lib.decDigits n).length := by
  induction n using Nat.strongRecOn with
  | ind n ih =>
    rw [dig_step, List.length_append, List.length_singleton, Nat.pow_succ]
    split
    · simp; omega
    · have := ih (n / 10) (by omega)
      omega
theorem dig_len_le (k : Nat) : ∀ n, n < 10 ^ (k + 1) → (Lib.decDigits n).length ≤ k + 1 := by
  induction k with
  | zero => intro n h; rw [dig_step, if_pos (by simpa using h)]; simp
  | succ k ih =>
    intro n h
    rw [dig_step, List.length_append, List.length_singleton]
    split
    · simp
    · have := ih (n / 10) (by rw [Nat.pow_succ] at h; omega)
      omega
theorem dig_head (n : Nat) (h : 1 < (Lib.decDigits n).length) : (Lib.decDigits n).head? ≠ some 48 := by
  induction n using Nat.strongRecOn with
  | ind n ih =>
    rw [dig_step] at h ⊢
    by_cases h1 : n < 10
    · rw [if_pos h1] at h; simp at h
    · rw [if_neg h1] at h ⊢
      have hp := dig_len_pos (n / 10)
      have e : (Lib.decDigits (n / 10) ++ [UInt8.ofNat (48 + n % 10)]).head? = (Lib.decDigits (n / 10)).head? := by
        cases hd : Lib.decDigits (n / 10) with
        | nil => rw [hd] at hp; simp at hp
        | cons a r => simp
      rw [e]
      by_cases h2 : 1 < (Lib.decDigits (n / 10)).length
      · exact ih (n / 10) (by omega) h2
      · have h10 := dig_lt (n / 10)
        have h3 : (Lib.decDigits (n / 10)).length = 1 := by omega
        rw [h3] at h10
        rw [Lib.decDigits, dif_pos (by omega)]
        simp only [List.head?_cons, ne_eq, Option.some.injEq]
        intro e2
        have := congrArg UInt8.toNat e2
        rw [ofNat_toNat (by omega)] at this
        have h48 : (48 : UInt8).toNat = 48 := rfl
        omega

/-- the number that digits spell, on from n; -1 where a byte is no digit -/
def valF : Int → List UInt8 → Int
  | n, [] => n
  | n, c :: r => if c.toNat < 48 ∨ 57 < c.toNat then -1 else valF (n * 10 + ((c.toNat : Int) - 48)) r
def valB (l : List UInt8) : Int := if l.length = 0 ∨ 9 < l.length ∨ (1 < l.length ∧ l.head? = some 48) then -1 else valF 0 l
theorem valF_snoc : ∀ (l : List UInt8) (n : Int) (c : UInt8), (∀ x ∈ l, 48 ≤ x.toNat ∧ x.toNat ≤ 57) → 48 ≤ c.toNat → c.toNat ≤ 57 → valF n (l ++ [c]) = valF n l * 10 + ((c.toNat : Int) - 48)
  | [], n, c, _, h1, h2 => by simp only [List.nil_append, valF]; rw [if_neg (by omega)]
  | d :: l, n, c, h, h1, h2 => by
    have hd := h d (by simp)
    rw [List.cons_append, valF, if_neg (by omega), valF, if_neg (by omega)]
    exact valF_snoc l _ c (fun x hx => h x (by simp [hx])) h1 h2
theorem valF_dig (n : Nat) : valF 0 (Lib.decDigits n) = (n : Int) := by
  induction n using Nat.strongRecOn with
  | ind n ih =>
    rw [dig_step]
    have h1 := ofNat_toNat (Nat.mod_lt n (by decide : 0 < 10))
    split
    · rw [List.nil_append, valF, if_neg (by omega), valF, h1]; omega
    · rw [valF_snoc _ _ _ (dig_chars (n / 10)) (by omega) (by omega), ih (n / 10) (by omega), h1]; omega
theorem valB_dig {n : Nat} (h : n < 1000000000) : valB (Lib.decDigits n) = (n : Int) := by
  have h1 := dig_len_pos n
  have h2 := dig_len_le 8 n (by simpa using h)
  unfold valB
  rw [if_neg, valF_dig]
  rintro (h3 | h3 | ⟨h3, h4⟩)
  · omega
  · omega
  · exact dig_head n h3 h4
theorem valF_neg : ∀ {l : List UInt8} {n : Int}, 0 ≤ n → 0 ≤ valF n l → ∀ x ∈ l, 48 ≤ x.toNat ∧ x.toNat ≤ 57
  | [], _, _, _, x, hx => by simp at hx
  | c :: r, n, hn, h, x, hx => by
    rw [valF] at h
    by_cases hc : c.toNat < 48 ∨ 57 < c.toNat
    · rw [if_pos hc] at h; omega
    · rw [if_neg hc] at h
      rcases List.mem_cons.1 hx with rfl | hx
      · omega
      · exact valF_neg (by omega) h x hx
/-- what is read as a number is its decimal text -/
theorem dig_of_val : ∀ (l : List UInt8), l ≠ [] → (∀ x ∈ l, 48 ≤ x.toNat ∧ x.toNat ≤ 57) → ¬ (1 < l.length ∧ l.head? = some 48) → ∃ n : Nat, valF 0 l = (n : Int) ∧ l = Lib.decDigits n ∧ (l.head? = some 48 ∨ 0 < n) := by
  intro l
  induction hk : l.length generalizing l with
  | zero => intro h; exact absurd (List.eq_nil_of_length_eq_zero hk) h
  | succ k ih =>
    intro hne hc hz
    obtain ⟨p, c, rfl⟩ : ∃ p c, l = p ++ [c] := ⟨l.dropLast, l.getLast hne, (List.dropLast_concat_getLast hne).symm⟩
    have hcc := hc c (by simp)
    by_cases hp : p = []
    · subst hp
      refine ⟨c.toNat - 48, ?_, ?_, ?_⟩
      · rw [List.nil_append, valF, if_neg (by omega), valF]; omega
      · rw [List.nil_append, Lib.decDigits, dif_pos (by omega), show 48 + (c.toNat - 48) = c.toNat by omega, UInt8.ofNat_toNat]
      · by_cases h48 : c.toNat = 48
        · left
          simp only [List.nil_append, List.head?_cons, Option.some.injEq]
          exact UInt8.toNat_inj.1 (by rw [h48]; rfl)
        · right; omega
    · have hph : (p ++ [c]).head? = p.head? := by
        cases p with
        | nil => exact absurd rfl hp
        | cons a r => simp
      have hpl : 1 ≤ p.length := by
        cases p with
        | nil => exact absurd rfl hp
        | cons a r => simp
      rw [hph] at hz
      have hk2 := hk
      rw [List.length_append, List.length_singleton] at hk2
      have hpz : p.head? ≠ some 48 := fun e => hz ⟨by have hk2 := hk; rw [List.length_append, List.length_singleton] at hk2; omega, e⟩
      obtain ⟨n, h1, h2, h3⟩ := ih p (by simpa using hk) hp (fun x hx => hc x (by simp [hx])) fun h => hpz h.2
      have hn : 0 < n := by rcases h3 with h3 | h3; · exact absurd h3 hpz
                            · exact h3
      refine ⟨n * 10 + (c.toNat - 48), ?_, ?_, Or.inr (by omega)⟩
      · rw [valF_snoc p 0 c (fun x hx => hc x (by simp [hx])) (by omega) (by omega), h1]; omega
      · conv => rhs; rw [dig_step, if_neg (by omega), show (n * 10 + (c.toNat - 48)) / 10 = n by omega, show (n * 10 + (c.toNat - 48)) % 10 = c.toNat - 48 by omega, show 48 + (c.toNat - 48) = c.toNat by omega, UInt8.ofNat_toNat, ← h2]
theorem valB_ok {l : List UInt8} (h : 0 ≤ valB l) : ∃ n : Nat, n < 1000000000 ∧ l = Lib.decDigits n ∧ valB l = (n : Int) := by
  unfold valB at h ⊢
  split at h
  · omega
  · rename_i hc
    rw [if_neg hc]
    simp only [not_or] at hc
    obtain ⟨n, h1, h2, -⟩ := dig_of_val l (fun e => hc.1 (by rw [e]; rfl)) (valF_neg (by omega) h) hc.2.2
    refine ⟨n, ?_, h2, h1⟩
    have h3 := dig_lt n
    rw [← h2] at h3
    exact Nat.lt_of_lt_of_le h3 (Nat.pow_le_pow_right (by decide) (by omega : l.length ≤ 9))
theorem valB_or (l : List UInt8) : valB l = -1 ∨ ∃ n : Nat, n < 1000000000 ∧ l = Lib.decDigits n ∧ valB l = (n : Int) := by
  by_cases h : 0 ≤ valB l
  · exact .inr (valB_ok h)
  · left
    have hf : ∀ (l : List UInt8) (n : Int), 0 ≤ n → -1 ≤ valF n l := by
      intro l
      induction l with
      | nil => intro n hn; rw [valF]; omega
      | cons c r ih =>
        intro n hn
        rw [valF]
        split
        · omega
        · exact ih _ (by omega)
    have : -1 ≤ valB l := by
      unfold valB
      split
      · omega
      · exact hf l 0 (by omega)
    omega

/-- strconv.ParseInt at a decimal text -/
theorem pu_snoc (M : Nat) : ∀ (l : List UInt8) (acc n : Nat) (r : List UInt8), Lib.parseUintM M acc l = .ok n → Lib.parseUintM M acc (l ++ r) = Lib.parseUintM M n r
  | [], acc, n, r, h => by
    rw [Lib.parseUintM] at h
    injection h with h
    subst h; rfl
  | c :: l, acc, n, r, h => by
    rw [List.cons_append, Lib.parseUintM]
    rw [Lib.parseUintM] at h
    split at h
    · rename_i h1
      rw [if_pos h1]
      split at h
      · cases h
      · rename_i h2
        rw [if_neg h2]
        split at h
        · cases h
        · rename_i h3
          rw [if_neg h3]
          exact pu_snoc M l _ n r h
    · cases h
theorem pu_dig (n : Nat) (h : n < 1000000000) : Lib.parseUintM (2 ^ 64 - 1) 0 (Lib.decDigits n) = .ok n := by
  induction n using Nat.strongRecOn with
  | ind n ih =>
    have h1 := ofNat_toNat (Nat.mod_lt n (by decide : 0 < 10))
    rw [dig_step]
    split
    · rw [List.nil_append, Lib.parseUintM, h1, if_pos (by omega), if_neg (by omega), if_neg (by omega), Lib.parseUintM]
      congr 1; omega
    · rw [pu_snoc _ _ _ _ _ (ih (n / 10) (by omega) (by omega)), Lib.parseUintM, h1, if_pos (by omega), if_neg (by omega), if_neg (by omega), Lib.parseUintM]
      congr 1; omega
theorem pi_dig {n : Nat} (h : n < 1000000000) : Lib.parseIntB 64 (Lib.decDigits n) = .ok (n : Int) := by
  have hp := dig_len_pos n
  have hu := pu_dig n h
  cases hd : Lib.decDigits n with
  | nil => rw [hd] at hp; simp at hp
  | cons c r =>
    have hc := dig_chars n c (by rw [hd]; simp)
    rw [hd] at hu
    unfold Lib.parseIntB Lib.parseUintB
    simp only
    rw [if_neg (by omega : ¬ (c.toNat = 43 ∨ c.toNat = 45)), if_neg (by simp), hu]
    simp only
    rw [if_neg (by omega), if_neg (by omega), if_neg (by omega)]
/-- what readDecimal of the program answers -/
def rdB (l : List UInt8) : Int × Bool := if 0 ≤ valB l then (valB l, true) else (0, false)
/-- .. out of what ParseInt and FormatInt answer -/
theorem rd_ok {l : List UInt8} {v : Int} (h : Lib.parseIntB 64 l = .ok v) : rdB l = if v < 0 ∨ 9 < l.length ∨ Lib.itoa v ≠ l then (0, false) else (v, true) := by
  unfold rdB
  rcases valB_or l with h1 | ⟨n, hn, h2, h3⟩
  · rw [h1, if_neg (by omega)]
    by_cases hc : v < 0 ∨ 9 < l.length ∨ Lib.itoa v ≠ l
    · rw [if_pos hc]
    · exfalso
      simp only [not_or] at hc
      have e : Lib.itoa v = l := Classical.not_not.1 hc.2.2
      rw [itoa_nn' hc.1] at e
      have h4 := dig_lt v.toNat
      rw [e] at h4
      have h5 : v.toNat < 1000000000 := Nat.lt_of_lt_of_le h4 (Nat.pow_le_pow_right (by decide) (by omega : l.length ≤ 9))
      have := valB_dig h5
      rw [e] at this
      omega
  · rw [h3, if_pos (by omega)]
    have h4 := pi_dig hn
    rw [← h2, h] at h4
    injection h4 with h4
    subst h4
    have h5 := dig_len_le 8 n (by simpa using hn)
    rw [← h2] at h5
    rw [if_neg]
    rintro (h6 | h6 | h6)
    · omega
    · omega
    · exact h6 (by rw [itoa_nn' (by omega), h2]; simp)
theorem rd_bad {l : List UInt8} (h : ∀ v, Lib.parseIntB 64 l ≠ .ok v) : rdB l = (0, false) := by
  unfold rdB
  rcases valB_or l with h1 | ⟨n, hn, h2, h3⟩
  · rw [h1, if_neg (by omega)]
  · exact absurd (by rw [h2]; exact pi_dig hn) (h n)
theorem rdB_dig {n : Nat} (h : n < 1000000000) : rdB (Lib.decDigits n) = ((n : Int), true) := by
  unfold rdB
  rw [valB_dig h, if_pos (by omega)]
theorem rdB_bd (l : List UInt8) : 0 ≤ (rdB l).1 ∧ (rdB l).1 < 1000000000 := by
  unfold rdB
  rcases valB_or l with h1 | ⟨n, hn, h2, h3⟩
  · rw [h1, if_neg (by omega)]; simp
  · rw [h3, if_pos (by omega)]; simp; omega
end Go.Proofs.YtnnfjjadehgmeaaGreatDoor

