/- Monomials: words of memory; walks of isMonomial of the program and l13Degree of the reference. | Monomials and fields that came in: words of memory. No program in sight. | Fields, plain: what makes a field. No program in sight. | Plain: the text of a field. No walk. | Contracts of the library, laid: strconv.FormatInt at base 10, strings.Join. | Walk of the program: numberText. | A region that draws its order, whose operations yield one value each in every world of a class S, and leave a world of S: one walk in the order of the text. No program in sight. -/
import Derived.Test.YtnnfjjadehgmeaaDoorFx2
import Derived.Lib.Join
import Derived.Shelf.Strconv.Itoa4
import Derived.Shelf.Strings.OnBuilder
import Derived.Lib.LaidTab
import Derived.Deep.CutRange
import Derived.Deep.CutBlock
import Derived.BigQuiet
import Derived.Below
set_option maxRecDepth 100000
set_option linter.unusedVariables false
set_option linter.unusedSimpArgs false
namespace Go.Proofs.YtnnfjjadehgmeaaDoor
open Go.RowKit

/-- a monomial: the factor and the powers -/
abbrev Mono := Int × List Int
/-- a monomial that can be read -/
def MonoArg (w : World) (v : Value) (m : Mono) : Prop := ∃ u, v = .agg #[.int .i64 m.1, u] ∧ In64 m.1 ∧ Ints w u m.2
theorem MonoArg.below {w w' : World} {v : Value} {m : Mono} (h : MonoArg w v m) (hb : Below w.heap.size w w') : MonoArg w' v m := by
  obtain ⟨u, rfl, h1, h2⟩ := h
  exact ⟨u, rfl, h1, h2.below hb⟩

def powOk (ps : List Int) : Bool := ps.all fun e => inR e 0 3
def degOk (ps : List Int) : Bool := powOk ps && decide (sumF id ps ≤ 3)
/-- is m a monomial of n variables? -/
def monoB (n : Int) (m : Mono) : Bool := degOk m.2 && (!decide (m.1 = 0) && (isNum m.1 && decide ((m.2.length : Int) = n)))
theorem powOk_take {ps : List Int} {j : Nat} (h : ∀ i y, i < j → ps[i]? = some y → inR y 0 3 = true) : ∀ x ∈ ps.take j, 0 ≤ x ∧ x ≤ 3 := by
  intro x hx
  obtain ⟨i, hi, rfl⟩ := List.getElem_of_mem hx
  have hl : i < j ∧ i < ps.length := by simp at hi; omega
  have := h i _ hl.1 (by rw [List.getElem?_eq_getElem hl.2])
  rw [List.getElem_take]
  exact inR_iff.1 this
theorem powOk_all {ps : List Int} (h : ∀ i y, i < ps.length → ps[i]? = some y → inR y 0 3 = true) : powOk ps = true := by
  unfold powOk
  rw [List.all_eq_true]
  intro x hx
  obtain ⟨i, hi, rfl⟩ := List.getElem_of_mem hx
  exact h i _ hi (List.getElem?_eq_getElem hi)
theorem powOk_no {ps : List Int} {j : Nat} {x : Int} (hx : ps[j]? = some x) (h : inR x 0 3 = false) : powOk ps = false := by
  unfold powOk
  rw [List.all_eq_false]
  exact ⟨x, List.mem_of_getElem? hx, by rw [h]; simp⟩

set_option maxHeartbeats 2000000 in
theorem i_isMonomial (w : World) (v : Value) (m : Mono) (n : Int) (ha : MonoArg w v m) (hn : m.2.length ≤ 4294967296) :
    Calls Tryd.prog 25 #[v, .int .i64 n] w fun e w' => e = .returned (.bool (monoB n m)) ∧ Below w.heap.size w w' := by
  obtain ⟨f, ps⟩ := m
  obtain ⟨u, rfl, hf64, hu⟩ := ha
  obtain ⟨A, c, rfl, l1, l2, h3⟩ := hu.open_
  have HU := Lib.hid hu
  simp only at hn l1 h3 HU ⊢
  have H3 := Lib.hid h3
  clear hu h3 hf64
  have B0 := Lib.hid (below1 w (.cells #[.int .i64 f, .slice A ps.length c] 45))
  have K0 := Lib.hid (Blk.new w #[.int .i64 f, .slice A ps.length c] 45)
  go_enter Tryd.func25, Tryd.ntmps25
  go_wp2_with fail
  generalize (w.alloc (.cells #[.int .i64 f, .slice A ps.length c] 45)) = w1 at B0 K0 ⊢
  go_loopw [5, 11] (fun s i wr => ∃ j : Nat, j ≤ ps.length ∧ i = .int .i64 j ∧ s = .int .i64 (sumF id (ps.take j)) ∧ wr = w1 ∧ Hid (∀ i y, i < j → ps[i]? = some y → inR y 0 3 = true)) (fun _ i _ => ps.length - (intOf i).toNat)
  case atStart => exact ⟨0, Nat.zero_le _, rfl, rfl, rfl, fun i y h => by omega⟩
  case round =>
    obtain ⟨j, hj, rfl, rfl, rfl, hI⟩ := hrel
    have hsb := sumF_bd id 3 (ps.take j) (fun x hx => powOk_take hI.out x hx)
    have hsl : ((ps.take j).length : Int) ≤ 4294967296 := by rw [List.length_take]; omega
    by_cases hlt : j < ps.length
    · obtain ⟨ad, x, rfl, hx, -, hc0⟩ := H3.out j hlt
      have hc : wr.cell? (ad.add j) = some (.int .i64 x) := by
        rw [B0.out.cell (by rw [block_add]; have := World.block_lt_of_cell? w _ hc0; rwa [block_add] at this)]; exact hc0
      have HX := Lib.hid hx
      have HS := Lib.hid (sumF_take id hx)
      clear hx hc0
      cases hr : inR x 0 3 with
      | false =>
        have HP := Lib.hid (powOk_no HX.out hr)
        go_wp2_with (go_at_call 23; refine (i_inRange _ _ _ _).mono ?_; rintro e w' ⟨rfl, rfl⟩; rw [hr])
        go_ret
        exact ⟨ret_bool (by simp [monoB, degOk, HP.out]), B0.out⟩
      | true =>
        have hxb := inR_iff.1 hr
        have HR := Lib.hid hr
        generalize sumF id (ps.take j) = s at hsb HS
        generalize (ps.take j).length = q at hsb hsl
        go_wp2_with (go_at_call 23; refine (i_inRange _ _ _ _).mono ?_; rintro e w' ⟨rfl, rfl⟩; rw [hr])
        go_roundw
        case rel =>
          refine ⟨j + 1, by omega, by go_num, by rw [HS.out]; rfl, trivial, fun i y hi hy => ?_⟩
          by_cases e : i = j
          · subst e
            rw [HX.out] at hy
            cases hy
            exact HR.out
          · exact hI.out i y (by omega) hy
        case measure => simp [intOf]; omega
    · have : j = ps.length := by omega
      subst this
      have HP := Lib.hid (powOk_all hI.out)
      rw [List.take_length]
      have k0 : wr.cell? ⟨w.heap.size, 0, none⟩ = some (.int .i64 f) := K0.out.cell 0
      have k1 : wr.cell? ⟨w.heap.size, 1, none⟩ = some (.slice A ps.length c) := K0.out.cell 1
      have HSM := Lib.hid (show degOk ps = decide (sumF id ps ≤ 3) by simp [degOk, HP.out])
      have HUW := Lib.hid (HU.out.below B0.out)
      clear hsb hsl
      generalize sumF id ps = s at HSM
      by_cases h0 : f = 0
      · subst h0
        go_wp2_with fail
        go_ret
        exact ⟨ret_bool (by simp [monoB]), B0.out⟩
      · cases hnum : isNum f with
        | false =>
          go_wp2_with (go_at_call 34; refine (i_IsNumber _ _).mono ?_; rintro e w' ⟨rfl, rfl⟩; rw [hnum])
          go_ret
          exact ⟨ret_bool (by simp [monoB, hnum]), B0.out⟩
        | true =>
          by_cases hl : (ps.length : Int) = n
          · subst hl
            by_cases hd : s ≤ 3
            · have HD := Lib.hid (show degOk ps = true by rw [HSM.out]; simpa using hd)
              have HM := Lib.hid (show monoB (ps.length : Int) (f, ps) = true by simp [monoB, HD.out, h0, hnum])
              go_wp2_with (first | (go_at_call 34; refine (i_IsNumber _ _).mono ?_; rintro e w' ⟨rfl, rfl⟩; rw [hnum]) | (go_at_call 35; refine (lib_lengthI _ _ _ HUW.out).mono ?_; rintro e w' ⟨rfl, rfl⟩))
              go_ret
              exact ⟨ret_bool HM.out.symm, B0.out⟩
            · have HD := Lib.hid (show degOk ps = false by rw [HSM.out]; simpa using hd)
              have HM := Lib.hid (show monoB (ps.length : Int) (f, ps) = false by simp [monoB, HD.out])
              go_wp2_with (first | (go_at_call 34; refine (i_IsNumber _ _).mono ?_; rintro e w' ⟨rfl, rfl⟩; rw [hnum]) | (go_at_call 35; refine (lib_lengthI _ _ _ HUW.out).mono ?_; rintro e w' ⟨rfl, rfl⟩))
              go_ret
              exact ⟨ret_bool (by rw [HM.out]; simpa using hd), B0.out⟩
          · have HM := Lib.hid (show monoB n (f, ps) = false by simp [monoB, hl])
            go_wp2_with (first | (go_at_call 34; refine (i_IsNumber _ _).mono ?_; rintro e w' ⟨rfl, rfl⟩; rw [hnum]) | (go_at_call 35; refine (lib_lengthI _ _ _ HUW.out).mono ?_; rintro e w' ⟨rfl, rfl⟩))
            go_ret
            exact ⟨ret_bool HM.out.symm, B0.out⟩

/-- the degree that the reference reckons -/
def degV (ps : List Int) : Int := if ps.all (fun e => inR e 0 100) then sumF id ps else 1000
theorem sumF_nonneg {ps : List Int} (h : ∀ x ∈ ps, 0 ≤ x) : 0 ≤ sumF id ps ∧ ∀ x ∈ ps, x ≤ sumF id ps := by
  induction ps with
  | nil => simp [sumF]
  | cons y r ih =>
    have h1 := ih (fun x hx => h x (List.mem_cons_of_mem _ hx))
    have h2 := h y List.mem_cons_self
    have e : sumF id (y :: r) = y + sumF id r := by simp [sumF]
    rw [e]
    refine ⟨by omega, fun x hx => ?_⟩
    rcases List.mem_cons.1 hx with rfl | hx
    · omega
    · have := h1.2 x hx; omega
theorem degV_ok (ps : List Int) : decide (degV ps ≤ 3) = degOk ps := by
  unfold degV degOk
  cases ha : ps.all (fun e => inR e 0 100) with
  | true =>
    rw [if_pos rfl]
    have h0 : ∀ x ∈ ps, 0 ≤ x := fun x hx => (inR_iff.1 (List.all_eq_true.1 ha x hx)).1
    have h1 := sumF_nonneg h0
    by_cases hs : sumF id ps ≤ 3
    · have hp : powOk ps = true := by
        unfold powOk
        rw [List.all_eq_true]
        intro x hx
        exact inR_iff.2 ⟨h0 x hx, by have := h1.2 x hx; omega⟩
      simp [hs, hp]
    · simp [hs]
  | false =>
    rw [if_neg (by simp)]
    have hp : powOk ps = false := by
      rw [List.all_eq_false] at ha
      obtain ⟨x, hx, hn⟩ := ha
      unfold powOk
      rw [List.all_eq_false]
      refine ⟨x, hx, ?_⟩
      simp only [Bool.not_eq_true] at hn ⊢
      have := inR_not.1 hn
      exact inR_not.2 (by omega)
    simp [hp]
theorem cent_no {ps : List Int} {j : Nat} {x : Int} (hx : ps[j]? = some x) (h : x < 0 ∨ 100 < x) : degV ps = 1000 := by
  unfold degV
  rw [if_neg]
  rw [Bool.not_eq_true, List.all_eq_false]
  exact ⟨x, List.mem_of_getElem? hx, by rw [Bool.not_eq_true]; exact inR_not.2 h⟩
theorem cent_all {ps : List Int} (h : ∀ i y, i < ps.length → ps[i]? = some y → 0 ≤ y ∧ y ≤ 100) : degV ps = sumF id ps := by
  unfold degV
  rw [if_pos]
  rw [List.all_eq_true]
  intro x hx
  obtain ⟨i, hi, rfl⟩ := List.getElem_of_mem hx
  exact inR_iff.2 (h i _ hi (List.getElem?_eq_getElem hi))

set_option maxHeartbeats 1000000 in
theorem s_l13Degree (w : World) (v : Value) (ps : List Int) (ha : Ints w v ps) (hn : ps.length ≤ 4294967296) :
    Calls Tryd.prog 18 #[v] w fun e w' => e = .returned (.int .i64 (degV ps)) ∧ w = w' := by
  obtain ⟨A, c, rfl, l1, l2, h3⟩ := ha.open_
  have H3 := Lib.hid h3
  clear ha h3
  go_enter Tryd.func18, Tryd.ntmps18
  go_wp2_with fail
  go_loop [3, 4] (fun s i => ∃ j : Nat, j ≤ ps.length ∧ i = .int .i64 j ∧ s = .int .i64 (sumF id (ps.take j)) ∧ Hid (∀ i y, i < j → ps[i]? = some y → 0 ≤ y ∧ y ≤ 100)) (fun _ i => ps.length - (intOf i).toNat)
  case atStart => exact ⟨0, Nat.zero_le _, rfl, rfl, fun i y h => by omega⟩
  case round =>
    obtain ⟨j, hj, rfl, rfl, hI⟩ := hrel
    have hsb := sumF_bd id 100 (ps.take j) (fun x hx => by
      obtain ⟨i, hi, rfl⟩ := List.getElem_of_mem hx
      have hl : i < j ∧ i < ps.length := by simp at hi; omega
      have := hI.out i _ hl.1 (List.getElem?_eq_getElem hl.2)
      rw [List.getElem_take]
      exact this)
    have hsl : ((ps.take j).length : Int) ≤ 4294967296 := by rw [List.length_take]; omega
    by_cases hlt : j < ps.length
    · obtain ⟨ad, x, rfl, hx, -, hc⟩ := H3.out j hlt
      have HX := Lib.hid hx
      have HS := Lib.hid (sumF_take id hx)
      have hji : (j : Int) < (ps.length : Int) := by omega
      clear hx
      by_cases h0 : x < 0
      · have HP := Lib.hid (cent_no HX.out (.inl h0))
        go_wp2_with fail
        go_ret
        exact ⟨ret_int HP.out.symm, rfl⟩
      · by_cases h1 : 100 < x
        · have HP := Lib.hid (cent_no HX.out (.inr h1))
          go_wp2_with fail
          go_ret
          exact ⟨ret_int HP.out.symm, rfl⟩
        · generalize sumF id (ps.take j) = s at hsb HS
          generalize (ps.take j).length = q at hsb hsl
          go_wp2_with fail
          go_round
          case rel =>
            refine ⟨j + 1, by omega, by go_num, by rw [HS.out]; rfl, fun i y hi hy => ?_⟩
            by_cases e : i = j
            · subst e
              rw [HX.out] at hy
              cases hy
              omega
            · exact hI.out i y (by omega) hy
          case measure => simp [intOf]; omega
    · have : j = ps.length := by omega
      subst this
      have HP := Lib.hid (cent_all hI.out)
      rw [List.take_length]
      go_wp2_with fail
      go_ret
      exact ⟨ret_int HP.out.symm, rfl⟩
end Go.Proofs.YtnnfjjadehgmeaaDoor

set_option maxRecDepth 100000
set_option linter.unusedVariables false
set_option linter.unusedSimpArgs false
namespace Go.Proofs.YtnnfjjadehgmeaaDoor
open Go.RowKit

/-- a list of monomials that can be read -/
def Monos (w : World) (v : Value) (ms : List Mono) : Prop :=
  ∃ A c, v = .slice A ms.length c ∧ ms.length ≤ c ∧ c ≤ maxLen ∧ ∀ (k : Nat) (m : Mono), ms[k]? = some m → ∃ b o u, A = some ⟨b, o, none⟩ ∧ In64 m.1 ∧ Ints w u m.2 ∧ w.cell? ⟨b, o + k * 2, none⟩ = some (.int .i64 m.1) ∧ w.cell? ⟨b, o + k * 2 + 1, none⟩ = some u
theorem Monos.below {w w' : World} {v : Value} {ms : List Mono} (h : Monos w v ms) (hb : Below w.heap.size w w') : Monos w' v ms := by
  obtain ⟨A, c, rfl, h1, h2, h3⟩ := h
  refine ⟨A, c, rfl, h1, h2, fun k m hm => ?_⟩
  obtain ⟨b, o, u, hA, hf, hu, hc, hc'⟩ := h3 k m hm
  refine ⟨b, o, u, hA, hf, hu.below hb, ?_, ?_⟩
  · rw [hb.cell (World.block_lt_of_cell? w _ hc)]; exact hc
  · rw [hb.cell (World.block_lt_of_cell? w _ hc')]; exact hc'
theorem Monos.open_ {w : World} {v : Value} {ms : List Mono} (h : Monos w v ms) : ∃ A c, v = .slice A ms.length c ∧ ms.length ≤ c ∧ c ≤ 9223372036854775807 ∧ ∀ (k : Nat), k < ms.length → ∃ b o m u, A = some ⟨b, o, none⟩ ∧ ms[k]? = some m ∧ In64 m.1 ∧ Ints w u m.2 ∧ w.cell? ⟨b, o + k * 2, none⟩ = some (.int .i64 m.1) ∧ w.cell? ⟨b, o + k * 2 + 1, none⟩ = some u := by
  obtain ⟨A, c, rfl, h1, h2, h3⟩ := h
  refine ⟨A, c, rfl, h1, by simpa [maxLen] using h2, fun k hk => ?_⟩
  obtain ⟨b, o, u, hA, hf, hu, hc, hc'⟩ := h3 k ms[k] (List.getElem?_eq_getElem hk)
  exact ⟨b, o, ms[k], u, hA, List.getElem?_eq_getElem hk, hf, hu, hc, hc'⟩
/-- lists of monomials that can be read -/
def MRows (w : World) (v : Value) (pss : List (List Mono)) : Prop :=
  ∃ vs, Cells w v vs ∧ vs.length = pss.length ∧ ∀ (k : Nat) (u : Value) (ms : List Mono), vs[k]? = some u → pss[k]? = some ms → Monos w u ms
theorem MRows.below {w w' : World} {v : Value} {pss : List (List Mono)} (h : MRows w v pss) (hb : Below w.heap.size w w') : MRows w' v pss := by
  obtain ⟨vs, h1, h2, h3⟩ := h
  exact ⟨vs, h1.below hb, h2, fun k u ms hu hm => (h3 k u ms hu hm).below hb⟩
theorem MRows.open_ {w : World} {v : Value} {pss : List (List Mono)} (h : MRows w v pss) : ∃ A c, v = .slice A pss.length c ∧ pss.length ≤ c ∧ c ≤ 9223372036854775807 ∧ ∀ (k : Nat), k < pss.length → ∃ ad u ms, A = some ad ∧ pss[k]? = some ms ∧ Monos w u ms ∧ w.cell? (ad.add k) = some u := by
  obtain ⟨vs, ⟨A, c, rfl, h1, h2, h3⟩, h4, h5⟩ := h
  rw [h4] at h1 ⊢
  refine ⟨A, c, rfl, h1, by simpa [maxLen] using h2, fun k hk => ?_⟩
  have hv : vs[k]? = some (vs[k]'(by rw [h4]; exact hk)) := List.getElem?_eq_getElem _
  obtain ⟨ad, hA, hc⟩ := h3 k _ hv
  exact ⟨ad, _, pss[k], hA, List.getElem?_eq_getElem hk, h5 k _ _ hv (List.getElem?_eq_getElem hk), hc⟩
def FieldArg (w : World) (v : Value) (n : Int) (pss : List (List Mono)) : Prop := ∃ vp, v = .agg #[.int .i64 n, vp] ∧ In64 n ∧ MRows w vp pss

end Go.Proofs.YtnnfjjadehgmeaaDoor

set_option maxRecDepth 100000
set_option linter.unusedVariables false
set_option linter.unusedSimpArgs false
namespace Go.Proofs.YtnnfjjadehgmeaaDoor
open Go.RowKit

/-- is the k-th monomial no monomial, or not behind the one ahead of it? -/
def badAt (n : Int) (ms : List Mono) (k : Nat) : Bool := !monoB n (ms.getD k (0, [])) || (decide (0 < k) && !lessL (ms.getD (k - 1) (0, [])).2 (ms.getD k (0, [])).2)
def partB (n : Int) (ms : List Mono) : Bool := (List.range ms.length).all fun k => !badAt n ms k
def fieldB (n : Int) (pss : List (List Mono)) : Bool := inR n 1 3 && (decide ((pss.length : Int) = n) && pss.all (partB n))
theorem partB_no {n : Int} {ms : List Mono} {k : Nat} (hk : k < ms.length) (h : badAt n ms k = true) : partB n ms = false := by
  unfold partB
  rw [List.all_eq_false]
  exact ⟨k, List.mem_range.2 hk, by rw [h]; simp⟩
theorem partB_all {n : Int} {ms : List Mono} (h : ∀ k, k < ms.length → badAt n ms k = false) : partB n ms = true := by
  unfold partB
  rw [List.all_eq_true]
  intro k hk
  rw [h k (List.mem_range.1 hk)]
  rfl
theorem parts_no {n : Int} {pss : List (List Mono)} {j : Nat} {ms : List Mono} (hm : pss[j]? = some ms) (h : partB n ms = false) : pss.all (partB n) = false := by
  rw [List.all_eq_false]
  exact ⟨ms, List.mem_of_getElem? hm, by rw [h]; simp⟩
theorem parts_all {n : Int} {pss : List (List Mono)} (h : ∀ i ms, i < pss.length → pss[i]? = some ms → partB n ms = true) : pss.all (partB n) = true := by
  rw [List.all_eq_true]
  intro ms hm
  obtain ⟨i, hi, rfl⟩ := List.getElem_of_mem hm
  exact h i _ hi (List.getElem?_eq_getElem hi)

end Go.Proofs.YtnnfjjadehgmeaaDoor

set_option maxRecDepth 100000
set_option linter.unusedVariables false
set_option linter.unusedSimpArgs false
namespace Go.Proofs.YtnnfjjadehgmeaaDoor
open Go.RowKit

theorem join_snoc (xs : List (List UInt8)) (x sep : List UInt8) : Lib.join (xs ++ [x]) sep = if xs = [] then x else Lib.join xs sep ++ (sep ++ x) := by
  cases xs with
  | nil => simp [Lib.join_one]
  | cons y r =>
    rw [if_neg (by simp), List.cons_append, Lib.join_cons, Lib.join_cons]
    simp [Lib.joinTail]
theorem join_len {c : Nat} {sep : List UInt8} : ∀ (xs : List (List UInt8)), (∀ x ∈ xs, x.length ≤ c) → (Lib.join xs sep).length ≤ xs.length * (c + sep.length)
  | [], _ => by simp [Lib.join_nil]
  | x :: r, h => by
    rw [Lib.join_cons, List.length_append]
    have h1 := h x (by simp)
    have h2 : ∀ (r : List (List UInt8)), (∀ y ∈ r, y.length ≤ c) → (Lib.joinTail sep r).length ≤ r.length * (c + sep.length) := by
      intro r
      induction r with
      | nil => intro _; simp [Lib.joinTail]
      | cons y r ih =>
        intro hr
        have := ih fun z hz => hr z (by simp [hz])
        have := hr y (by simp)
        simp only [Lib.joinTail, List.map_cons, List.flatten_cons, List.length_append, List.length_cons, Nat.add_mul] at *
        omega
    have h3 := h2 r fun y hy => h y (by simp [hy])
    rw [List.length_cons, Nat.add_mul]
    omega
theorem itoa_len (p : Int) : (Lib.itoa p).length ≤ p.natAbs + 2 := by
  unfold Lib.itoa
  split
  · have := decDigits_len p.natAbs
    rw [List.length_cons]; omega
  · have := decDigits_len p.toNat
    omega
theorem txPQ_len {p : Int} {q : Nat} (h1 : -70 ≤ p) (h2 : p ≤ 70) (h3 : q ≤ 71) : (txPQ p q).length ≤ 200 := by
  unfold txPQ
  have := itoa_len p
  split
  · omega
  · have := decDigits_len q
    rw [List.length_append, List.length_cons]; omega
theorem okQ_bd {a q : Int} (h : okQ a q = true) : -70 ≤ cenP a q ∧ cenP a q ≤ 70 := by
  unfold okQ at h
  simp only [Bool.and_eq_true, decide_eq_true_eq] at h
  exact h.1
theorem numTxF_len {a : Int} (ha : 0 ≤ a) (ha' : a ≤ 10006) : ∀ (k q : Nat), q + k ≤ 71 → (numTxF a k q).length ≤ 10100
  | 0, q, _ => by
    have := itoa_len a
    rw [numTxF]; omega
  | k + 1, q, hk => by
    rw [numTxF]
    split
    · rename_i h
      have := txPQ_len (okQ_bd h).1 (okQ_bd h).2 (show q ≤ 71 by omega)
      omega
    · exact numTxF_len ha ha' k (q + 1) (by omega)
theorem numTx_len {a : Int} (ha : 0 ≤ a) (ha' : a ≤ 10006) : (numTx a).length ≤ 10100 := numTxF_len ha ha' 70 1 (by omega)

def digB (e : Int) : UInt8 := UInt8.ofNat (48 + e.toNat)
/-- the text of a monomial -/
def mTx (m : Mono) : List UInt8 := numTx m.1 ++ (58 :: m.2.map digB)
/-- the text of a part -/
def parTx (ms : List Mono) : List UInt8 := if ms = [] then [48] else Lib.join (ms.map mTx) [43]
/-- the text of a field -/
def fldTx (pss : List (List Mono)) : List UInt8 := Lib.join (pss.map parTx) [59]

theorem mTx_len {m : Mono} (h0 : 0 ≤ m.1) (h1 : m.1 ≤ 10006) (h2 : m.2.length ≤ 3) : (mTx m).length ≤ 10104 := by
  have := numTx_len h0 h1
  unfold mTx
  rw [List.length_append, List.length_cons, List.length_map]; omega
theorem parTx_len {ms : List Mono} (h : ∀ m ∈ ms, 0 ≤ m.1 ∧ m.1 ≤ 10006 ∧ m.2.length ≤ 3) : (parTx ms).length ≤ ms.length * 10105 + 1 := by
  unfold parTx
  split
  · simp
  · have := join_len (c := 10104) (sep := [43]) (ms.map mTx) (fun x hx => by
      obtain ⟨m, hm, rfl⟩ := List.mem_map.1 hx
      exact mTx_len (h m hm).1 (h m hm).2.1 (h m hm).2.2)
    simp at this
    omega
theorem parTx_take {ms : List Mono} {k : Nat} {m : Mono} (h : ms[k]? = some m) : Lib.join ((ms.take (k + 1)).map mTx) [43] = if k = 0 then mTx m else Lib.join ((ms.take k).map mTx) [43] ++ (43 :: mTx m) := by
  have hk := (List.getElem?_eq_some_iff.1 h).1
  rw [List.take_add_one, h, Option.toList_some, List.map_append, List.map_cons, List.map_nil, join_snoc]
  by_cases h0 : k = 0
  · subst h0; simp
  · rw [if_neg h0, if_neg (by intro he; have h1 := congrArg List.length he; rw [List.length_map, List.length_take, List.length_nil] at h1; omega)]
    rfl
theorem fldTx_take {pss : List (List Mono)} {k : Nat} {ms : List Mono} (h : pss[k]? = some ms) : fldTx (pss.take (k + 1)) = if k = 0 then parTx ms else fldTx (pss.take k) ++ (59 :: parTx ms) := by
  have hk := (List.getElem?_eq_some_iff.1 h).1
  unfold fldTx
  rw [List.take_add_one, h, Option.toList_some, List.map_append, List.map_cons, List.map_nil, join_snoc]
  by_cases h0 : k = 0
  · subst h0; simp
  · rw [if_neg h0, if_neg (by intro he; have h1 := congrArg List.length he; rw [List.length_map, List.length_take, List.length_nil] at h1; omega)]
    rfl
end Go.Proofs.YtnnfjjadehgmeaaDoor

set_option maxRecDepth 100000
namespace Go.Proofs
open Go.Shelf Go.RowKit Go.Lib Go.Sort
def Tryd.laysM173_ren : Go.Shelf.Ren := ⟨fun | 173 => 39 | 246 => 47 | 283 => 51 | 284 => 52 | 285 => 53 | 286 => 54 | 129 => 58 | 317 => 57 | 318 => 59 | 319 => 60 | 320 => 61 | 337 => 62 | 338 => 63 | n => n, fun | 2 => 2 | 3 => 3 | 9 => 9 | 4 => 4 | 171 => 79 | 0 => 0 | 53 => 80 | 37 => 60 | 5 => 5 | 173 => 83 | 212 => 90 | 51 => 91 | 20 => 20 | 213 => 92 | 46 => 94 | 232 => 97 | 233 => 98 | n => n, fun | 17 => 0 | 18 => 2 | 19 => 3 | n => n⟩
theorem Tryd.laysM173 : Go.Proofs.LaysM.n173 Tryd.prog Tryd.laysM173_ren := {
  mixed := by kernel_rfl
  f129 := Tryd.func58.trans (congrArg some (by kernel_rfl))
  f173 := Tryd.func39.trans (congrArg some (by kernel_rfl))
  f246 := Tryd.func47.trans (congrArg some (by kernel_rfl))
  f283 := Tryd.func51.trans (congrArg some (by kernel_rfl))
  f284 := Tryd.func52.trans (congrArg some (by kernel_rfl))
  f285 := Tryd.func53.trans (congrArg some (by kernel_rfl))
  f286 := Tryd.func54.trans (congrArg some (by kernel_rfl))
  f317 := Tryd.func57.trans (congrArg some (by kernel_rfl))
  f318 := Tryd.func59.trans (congrArg some (by kernel_rfl))
  f319 := Tryd.func60.trans (congrArg some (by kernel_rfl))
  f320 := Tryd.func61.trans (congrArg some (by kernel_rfl))
  f337 := Tryd.func62.trans (congrArg some (by kernel_rfl))
  f338 := Tryd.func63.trans (congrArg some (by kernel_rfl))
  t0 := Tryd.underlying0
  a0 := Tryd.isAgg0
  z0 := Tryd.sizeOf0
  v0 := Tryd.zeroValue0
  t2 := Tryd.underlying2
  a2 := Tryd.isAgg2
  z2 := Tryd.sizeOf2
  v2 := Tryd.zeroValue2
  t3 := Tryd.underlying3
  a3 := Tryd.isAgg3
  z3 := Tryd.sizeOf3
  v3 := Tryd.zeroValue3
  t4 := Tryd.underlying4
  a4 := Tryd.isAgg4
  z4 := Tryd.sizeOf4
  v4 := Tryd.zeroValue4
  t5 := Tryd.underlying5
  a5 := Tryd.isAgg5
  z5 := Tryd.sizeOf5
  v5 := Tryd.zeroValue5
  t9 := Tryd.underlying9
  a9 := Tryd.isAgg9
  z9 := Tryd.sizeOf9
  v9 := Tryd.zeroValue9
  t20 := Tryd.underlying20
  a20 := Tryd.isAgg20
  z20 := Tryd.sizeOf20
  v20 := Tryd.zeroValue20
  t37 := Tryd.underlying60
  a37 := Tryd.isAgg60
  z37 := Tryd.sizeOf60
  v37 := Tryd.zeroValue60
  t46 := Tryd.underlying94
  a46 := Tryd.isAgg94
  z46 := Tryd.sizeOf94
  v46 := Tryd.zeroValue94
  t51 := Tryd.underlying91
  a51 := Tryd.isAgg91
  z51 := Tryd.sizeOf91
  v51 := Tryd.zeroValue91
  t53 := Tryd.underlying80
  a53 := Tryd.isAgg80
  z53 := Tryd.sizeOf80
  v53 := Tryd.zeroValue80
  t171 := Tryd.underlying79
  a171 := Tryd.isAgg79
  z171 := Tryd.sizeOf79
  v171 := Tryd.zeroValue79
  t173 := Tryd.underlying83
  a173 := Tryd.isAgg83
  z173 := Tryd.sizeOf83
  v173 := Tryd.zeroValue83
  t212 := Tryd.underlying90
  a212 := Tryd.isAgg90
  z212 := Tryd.sizeOf90
  v212 := Tryd.zeroValue90
  t213 := Tryd.underlying92
  a213 := Tryd.isAgg92
  z213 := Tryd.sizeOf92
  t232 := Tryd.underlying97
  a232 := Tryd.isAgg97
  z232 := Tryd.sizeOf97
  v232 := Tryd.zeroValue97
  t233 := Tryd.underlying98
  a233 := Tryd.isAgg98
  z233 := Tryd.sizeOf98
  v233 := Tryd.zeroValue98
  g17 := by kernel_rfl
  g18 := by kernel_rfl
  g19 := by kernel_rfl
  i0 := by kernel_rfl
  i2 := by kernel_rfl
  i3 := by kernel_rfl
  i4 := by kernel_rfl
  i5 := by kernel_rfl
  i9 := by kernel_rfl
  i20 := by kernel_rfl
  i37 := by kernel_rfl
  i46 := by kernel_rfl
  i51 := by kernel_rfl
  i53 := by kernel_rfl
  i171 := by kernel_rfl
  i173 := by kernel_rfl
  i212 := by kernel_rfl
  i232 := by kernel_rfl
  i233 := by kernel_rfl
  m17 := by kernel_rfl
  m18 := by kernel_rfl
  m19 := by kernel_rfl }
def Tryd.lays156_ren : Go.Shelf.Ren := ⟨fun | 156 => 28 | 165 => 40 | 166 => 41 | 169 => 42 | 240 => 48 | 241 => 49 | 276 => 55 | 277 => 56 | n => n, fun | 31 => 53 | 9 => 9 | 3 => 3 | 4 => 4 | 0 => 0 | 20 => 20 | 72 => 67 | 76 => 71 | 70 => 65 | 37 => 60 | 75 => 70 | 127 => 77 | 164 => 85 | 5 => 5 | 80 => 73 | n => n, fun | n => n⟩
theorem Tryd.lays156 : Go.Proofs.Lays.n156 Tryd.prog Tryd.lays156_ren := {
  mixed := by kernel_rfl
  f156 := Tryd.func28.trans (congrArg some (by kernel_rfl))
  f165 := Tryd.func40.trans (congrArg some (by kernel_rfl))
  f166 := Tryd.func41.trans (congrArg some (by kernel_rfl))
  f169 := Tryd.func42.trans (congrArg some (by kernel_rfl))
  f240 := Tryd.func48.trans (congrArg some (by kernel_rfl))
  f241 := Tryd.func49.trans (congrArg some (by kernel_rfl))
  f276 := Tryd.func55.trans (congrArg some (by kernel_rfl))
  f277 := Tryd.func56.trans (congrArg some (by kernel_rfl))
  t0 := Tryd.underlying0
  a0 := Tryd.isAgg0
  z0 := Tryd.sizeOf0
  v0 := Tryd.zeroValue0
  t3 := Tryd.underlying3
  a3 := Tryd.isAgg3
  z3 := Tryd.sizeOf3
  v3 := Tryd.zeroValue3
  t4 := Tryd.underlying4
  a4 := Tryd.isAgg4
  z4 := Tryd.sizeOf4
  v4 := Tryd.zeroValue4
  t9 := Tryd.underlying9
  a9 := Tryd.isAgg9
  z9 := Tryd.sizeOf9
  v9 := Tryd.zeroValue9
  t20 := Tryd.underlying20
  a20 := Tryd.isAgg20
  z20 := Tryd.sizeOf20
  v20 := Tryd.zeroValue20
  t31 := Tryd.underlying53
  a31 := Tryd.isAgg53
  z31 := Tryd.sizeOf53
  v31 := Tryd.zeroValue53
  t37 := Tryd.underlying60
  a37 := Tryd.isAgg60
  z37 := Tryd.sizeOf60
  v37 := Tryd.zeroValue60
  t70 := Tryd.underlying65
  a70 := Tryd.isAgg65
  z70 := Tryd.sizeOf65
  v70 := Tryd.zeroValue65
  t72 := Tryd.underlying67
  a72 := Tryd.isAgg67
  z72 := Tryd.sizeOf67
  v72 := Tryd.zeroValue67
  t75 := Tryd.underlying70
  a75 := Tryd.isAgg70
  z75 := Tryd.sizeOf70
  v75 := Tryd.zeroValue70
  t76 := Tryd.underlying71
  a76 := Tryd.isAgg71
  z76 := Tryd.sizeOf71
  v76 := Tryd.zeroValue71
  t127 := Tryd.underlying77
  a127 := Tryd.isAgg77
  z127 := Tryd.sizeOf77
  v127 := Tryd.zeroValue77
  t164 := Tryd.underlying85
  a164 := Tryd.isAgg85
  z164 := Tryd.sizeOf85
  v164 := Tryd.zeroValue85 }
theorem Tryd.Builder_Extra_156 : Builder.Extra Tryd.prog Tryd.lays156_ren where
  sizeBuilder := by kernel_rfl
  liesBuilder := by kernel_rfl
  t5 := Tryd.underlying5
  a5 := Tryd.isAgg5
  z5 := Tryd.sizeOf5
  v5 := Tryd.zeroValue5
  infoByte := by kernel_rfl
  cellsByte := by kernel_rfl
  sizeByte := by kernel_rfl
  neB5 := by decide
end Go.Proofs

set_option maxRecDepth 100000
set_option linter.unusedVariables false
set_option linter.unusedSimpArgs false
namespace Go.Proofs.YtnnfjjadehgmeaaDoor
open Go.RowKit

abbrev PowTab (w : World) : Prop := Lib.TabIs Tryd.prog w "internal/strconv.uint64pow10" .u64 Lib.pow10Tab
theorem below_grow (w : World) (k : Nat) (os : Array Obj) : Below w.heap.size w (Go.Sort.grow (w.drewN k) os) :=
  ⟨rfl, rfl, rfl, by show w.heap.size ≤ (w.heap ++ os).size; rw [Array.size_append]; omega, fun j hj => by
    show (w.heap ++ os)[j]? = w.heap[j]?
    simp [Array.getElem?_append, hj]⟩
theorem powTab_below {w w' : World} (h : PowTab w) (hb : Below w.heap.size w w') : PowTab w' := by
  unfold PowTab Lib.TabIs World.var? at h ⊢
  cases hg : Tryd.prog.globalNamed "internal/strconv.uint64pow10" with
  | none => rw [hg] at h; cases h
  | some g =>
    rw [hg] at h
    simp only [Option.bind_some] at h ⊢
    have hlt : g < w.heap.size := by
      rcases Nat.lt_or_ge g w.heap.size with h' | h'
      · exact h'
      · rw [Array.getElem?_eq_none h'] at h; cases h
    rw [hb.block g hlt]
    exact h
theorem lib_FormatInt (x : Int) (w : World) (h0 : -1000000 ≤ x) (h1 : x ≤ 1000000) (ht : PowTab w) :
    Calls Tryd.prog 39 #[.int .i64 x, .int .i64 10] w fun e w' => e = .returned (strB (Lib.itoa x)) ∧ Below w.heap.size w w' :=
  (Any.strconv_FormatInt_10 Tryd.laysM173 x (by omega) (by omega) w ht).mono fun e w' ⟨he, k, os, hw⟩ => ⟨he, hw ▸ below_grow w k os⟩
theorem inR_70 {p : Int} : inR p (-70) 70 = (decide (-70 ≤ p) && decide (p ≤ 70)) := rfl
set_option maxHeartbeats 4000000 in
theorem i_numberText (a : Int) (w : World) (ha : 0 ≤ a) (ha' : a ≤ 10006) (ht : PowTab w) :
    Calls Tryd.prog 27 #[.int .i64 a] w fun e w' => e = .returned (strB (numTx a)) ∧ Below w.heap.size w w' := by
  have HT := Lib.hid ht
  clear ht
  have HFI := Lib.hid (show ∀ (W : World) (x : Int), Below w.heap.size w W → -1000000 ≤ x → x ≤ 1000000 → Calls Tryd.prog 39 #[.int .i64 x, .int .i64 10] W fun e w' => e = .returned (strB (Lib.itoa x)) ∧ Below W.heap.size W w' from fun W x hb x0 x1 => lib_FormatInt x W x0 x1 (powTab_below HT.out hb))
  go_enter Tryd.func27, Tryd.ntmps27
  go_wp2_with fail
  go_loopw [3] (fun y wr => ∃ q : Nat, 1 ≤ q ∧ q ≤ 71 ∧ y = .int .i64 q ∧ Hid (numTx a = numTxF a (71 - q) q) ∧ Below w.heap.size w wr) (fun y _ => 71 - (intOf y).toNat)
  case atStart => exact ⟨1, by omega, by omega, rfl, Lib.hid rfl, Below.refl _ _⟩
  case round =>
    obtain ⟨q, h1, h2, rfl, HN, hb⟩ := hrel
    have HB := Lib.hid hb
    clear hb
    by_cases hq : q ≤ 70
    · have hqi : (q : Int) ≤ 70 := by omega
      have hmul : 0 ≤ a * (q : Int) ∧ a * (q : Int) ≤ 1000000 := ⟨Int.mul_nonneg ha (by omega), by
        have h3 : a * (q : Int) ≤ 10006 * 70 := Int.mul_le_mul ha' hqi (by omega) (by omega)
        omega⟩
      obtain ⟨x, hx⟩ : ∃ x, x = (a * (q : Int)) % 10007 := ⟨_, rfl⟩
      have hx0 : 0 ≤ x := by omega
      have hx1 : x ≤ 10006 := by omega
      have HNM := Lib.hid (fun W => show Calls Tryd.prog 37 #[.int .i64 (a * (q : Int))] W fun e w' => e = .returned (.int .i64 x) ∧ W = w' from by rw [hx]; exact i_num _ W (by omega) (by omega))
      obtain ⟨p, hp⟩ : ∃ p, p = if 5003 < x then x - 10007 else x := ⟨_, rfl⟩
      have HPC := Lib.hid (show p = cenP a q by rw [hp]; unfold cenP; rw [← hx])
      have hpb : -10007 ≤ p ∧ p ≤ 10007 := by rw [hp]; split <;> omega
      have HPX := Lib.hid hp
      have HIR := Lib.hid (fun W => i_inRange p (-70) 70 W)
      have HDV := Lib.hid (fun W => i_divisor p (q : Int) W (by omega) (by omega) (by omega) (by omega))
      clear hx hp
      go_upto_if 14 with (go_at_call 37; refine (HNM.out _).mono ?_; rintro e w2 ⟨rfl, rfl⟩)
      go_cut [4] from 5 to 35 (fun y wx => y = .int .i64 p ∧ Below w.heap.size w wx)
      case first =>
        by_cases hc : 5003 < x
        · have hE : p = x - 10007 := by rw [HPX.out, if_pos hc]
          have HE := Lib.hid hE
          clear hE
          go_wp2_with fail
          go_meet
          exact ⟨by rw [HE.out], HB.out⟩
        · have hE : p = x := by rw [HPX.out, if_neg hc]
          have HE := Lib.hid hE
          clear hE
          go_wp2_with fail
          go_meet
          exact ⟨by rw [HE.out], HB.out⟩
      case rest =>
        obtain ⟨rfl, hcut⟩ := hcut
        rename World => wz
        have HBZ := Lib.hid hcut
        clear hcut
        cases hin : inR p (-70) 70 with
        | false =>
          have hno : okQ a q = false := by
            unfold okQ
            rw [← HPC.out, ← inR_70, hin]
            rfl
          have HNX := Lib.hid (show numTx a = numTxF a (71 - (q + 1)) (q + 1) by
            rw [HN.out, show 71 - q = (71 - (q + 1)) + 1 by omega, numTxF_no hno])
          have hir : ∀ W, Calls Tryd.prog 23 #[.int .i64 p, .int .i64 (-70), .int .i64 70] W fun e w' => e = .returned (.bool false) ∧ W = w' := fun W => by have h := HIR.out W; rwa [hin] at h
          have HIR2 := Lib.hid hir
          clear hno hir hin
          go_wp2_with (go_at_call 23; refine (HIR2.out _).mono ?_; rintro e w2 ⟨rfl, rfl⟩)
          go_roundw
          case rel => exact ⟨q + 1, by omega, by omega, by go_num, HNX, HBZ.out⟩
          case measure => simp [intOf]; omega
        | true =>
          have hpb2 := inR_iff.1 hin
          have hir : ∀ W, Calls Tryd.prog 23 #[.int .i64 p, .int .i64 (-70), .int .i64 70] W fun e w' => e = .returned (.bool true) ∧ W = w' := fun W => by have h := HIR.out W; rwa [hin] at h
          have HIR2 := Lib.hid hir
          have HIN := Lib.hid hin
          clear hir hin
          obtain ⟨g, hg⟩ : ∃ g, g = Int.gcd p (q : Int) := ⟨_, rfl⟩
          rw [← hg] at HDV
          have HGG := Lib.hid hg
          clear hg
          by_cases hg1 : g = 1
          · have hok : okQ a q = true := by
              unfold okQ
              rw [← HPC.out, ← inR_70, HIN.out, ← HGG.out, hg1]
              rfl
            have HTX := Lib.hid (show numTx a = txPQ p q by rw [HN.out, show 71 - q = (70 - q) + 1 by omega, numTxF_yes hok, ← HPC.out])
            have hgb : ((g : Int) != 1) = false := by simp; omega
            clear hok
            have hLp := itoa_len p
            have hLq := itoa_len (q : Int)
            have hl2 : ¬ (9223372036854775807 < (Lib.itoa p).length + 1) := by omega
            have hl3 : ¬ (9223372036854775807 < (Lib.itoa p).length + 1 + (Lib.itoa (q : Int)).length) := by omega
            clear hLp hLq
            by_cases hq1 : q = 1
            · have hqb : ((q : Int) == 1) = true := by simp; omega
              have HQ1 := Lib.hid hq1
              clear hq1
              go_wp2_with (first
                | (go_at_call 23; refine (HIR2.out _).mono ?_; rintro e w2 ⟨rfl, rfl⟩)
                | (go_at_call 38; refine (HDV.out _).mono ?_; rintro e w3 ⟨rfl, n3, rfl⟩)
                | (go_at_call 39; refine (HFI.out _ _ (by exact below_drewN HBZ.out _) (by omega) (by omega)).mono ?_; rintro e w4 ⟨rfl, hb4⟩))
              go_ret
              refine ⟨?_, (below_drewN HBZ.out _).trans (hb4.mono HBZ.out.size)⟩
              rw [HTX.out, HQ1.out]
              unfold txPQ
              rw [if_pos rfl]
              rfl
            · have hqb : ((q : Int) == 1) = false := by simp; omega
              have HQ1 := Lib.hid hq1
              clear hq1
              go_wp2_with (first
                | (go_at_call 23; refine (HIR2.out _).mono ?_; rintro e w2 ⟨rfl, rfl⟩)
                | (go_at_call 38; refine (HDV.out _).mono ?_; rintro e w3 ⟨rfl, n3, rfl⟩)
                | (go_at_call 39; (first
                    | (refine (HFI.out _ p (by exact below_drewN HBZ.out _) (by omega) (by omega)).mono ?_; rintro e w4 ⟨rfl, hb4⟩)
                    | (refine (HFI.out _ (q : Int) (by exact (below_drewN HBZ.out _).trans (hb4.mono HBZ.out.size)) (by omega) (by omega)).mono ?_; rintro e w5 ⟨rfl, hb5⟩))))
              go_ret
              have hz := (below_drewN HBZ.out _).trans (hb4.mono HBZ.out.size)
              refine ⟨?_, hz.trans (hb5.mono hz.size)⟩
              rw [HTX.out, str_cat2, str_cat]
              unfold txPQ
              rw [if_neg HQ1.out, itoa_nn (p := (q : Int)) (by omega)]
              simp [strB]
          · have hno : okQ a q = false := by
              unfold okQ
              rw [← HPC.out, ← HGG.out]
              simp [hg1]
            have HNX := Lib.hid (show numTx a = numTxF a (71 - (q + 1)) (q + 1) by
              rw [HN.out, show 71 - q = (71 - (q + 1)) + 1 by omega, numTxF_no hno])
            have hgb : ((g : Int) != 1) = true := by simp; omega
            clear hno
            go_wp2_with (first
              | (go_at_call 23; refine (HIR2.out _).mono ?_; rintro e w2 ⟨rfl, rfl⟩)
              | (go_at_call 38; refine (HDV.out _).mono ?_; rintro e w3 ⟨rfl, n3, rfl⟩))
            go_roundw
            case rel => exact ⟨q + 1, by omega, by omega, by go_num, HNX, below_drewN HBZ.out _⟩
            case measure => simp [intOf]; omega
    · have hqe : q = 71 := by omega
      subst hqe
      have HFN := Lib.hid (show numTx a = Lib.itoa a by rw [HN.out]; rfl)
      go_wp2_with (go_at_call 39; refine (HFI.out _ _ HB.out (by omega) (by omega)).mono ?_; rintro e w4 ⟨rfl, hb4⟩)
      go_ret
      exact ⟨by rw [HFN.out]; rfl, HB.out.trans (hb4.mono HB.out.size)⟩
end Go.Proofs.YtnnfjjadehgmeaaDoor

set_option linter.unusedVariables false
set_option linter.unusedSimpArgs false
namespace Go.Proofs.YtnnfjjadehgmeaaDoor
open Go Go.RowKit

/-- a world of the class -/
structure GW (S : World → Prop) where
  w : World
  h : S w

theorem wp_region_grow {P : Program} {id : Nat} {Q : Exit → Act → World → Prop} {a : Act} {w : World} {l : List Oper} (S : World → Prop) (hm : P.follows .mixedOrders = true) (hB : Region.lexB .any l.toArray = true) (hC : S w.drew)
    (h : Nonempty (GW S) → wpQuiet P l.toArray (fun w' => ∃ x : GW S, w' = x.w) (fun a' => ∀ w', (∃ x : GW S, w' = x.w) → Q .normal a' w') l a) : (Code.region id l.toArray true).wp P Q a w :=
  wp_region_quiet (C := fun w' => ∃ x : GW S, w' = x.w) hm hB ⟨⟨_, hC⟩, rfl⟩ (by simpa using h ⟨⟨_, hC⟩⟩)

/-- a callee that leaves a world of the class -/
theorem grow_call {P : Program} {f : FuncId} {args : Array Value} {w : World} {v : Value} {S : World → Prop} (h : Calls P f args w fun e w' => e = .returned v ∧ S w') : Calls P f args w fun e w'' => e = .returned v ∧ ∃ x : GW S, w'' = x.w :=
  h.mono fun _ w' ⟨he, hw⟩ => ⟨he, ⟨w', hw⟩, rfl⟩
end Go.Proofs.YtnnfjjadehgmeaaDoor

