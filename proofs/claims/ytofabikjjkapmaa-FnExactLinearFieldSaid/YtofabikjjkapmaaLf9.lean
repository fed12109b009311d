/- Walks: matrices, squares and forms of both. | Walks: fieldOf and LinearField of the program. | append(s, make([]int64, k)...) at an owned list. No program in sight but for the types. | Columns that grow beside a tableau, in plain words of memory. No program in sight. | Walks: times of the program. | Walks: l01Own, l01Own2, l09Own of the reference. -/
import Derived.Test.YtofabikjjkapmaaLf8
import Derived.Test.YtofabikjjkapmaaLf6
import Derived.Test.YtofabikjjkapmaaLf7
import Derived.Test.YtofabikjjkapmaaLf4
import Derived.Deep.RegionLaw
import Derived.Test.YtofabikjjkapmaaRows
import Derived.Test.YtofabikjjkapmaaLf1
import Derived.Test.YtofabikjjkapmaaLf2
import Derived.Lib.AppendZerosOnto
import Derived.Deep.RegionHeld3
set_option maxRecDepth 100000
set_option linter.unusedVariables false
set_option linter.unusedSimpArgs false
namespace Go.Proofs.Ytofabikjjkapmaa
open Go.RowKit

def rowOk (m : Nat) (zs : List Int) : Bool := decide (zs.length = m) && nums zs
/-- is it a matrix? -/
def matB (a : List (List Int)) : Bool := decide (1 ≤ a.length ∧ a.length ≤ 8 ∧ 1 ≤ (a.headD []).length ∧ (a.headD []).length ≤ 8) && a.all (rowOk (a.headD []).length)
theorem matB_size {a : List (List Int)} (h : ¬ (1 ≤ a.length ∧ a.length ≤ 8)) : matB a = false := by
  unfold matB; rw [decide_eq_false (fun h' => h ⟨h'.1, h'.2.1⟩)]; rfl
theorem matB_cols {a : List (List Int)} (h : ¬ (1 ≤ (a.headD []).length ∧ (a.headD []).length ≤ 8)) : matB a = false := by
  unfold matB; rw [decide_eq_false (fun h' => h h'.2.2)]; rfl
theorem matB_row {a : List (List Int)} {k : Nat} {zs : List Int} (hz : a[k]? = some zs) (h : rowOk (a.headD []).length zs = false) : matB a = false := by
  have : a.all (rowOk (a.headD []).length) = false := by rw [List.all_eq_false]; exact ⟨zs, List.mem_of_getElem? hz, by rw [h]; simp⟩
  unfold matB; rw [this, Bool.and_false]
theorem matB_yes {a : List (List Int)} (h1 : 1 ≤ a.length ∧ a.length ≤ 8) (h2 : 1 ≤ (a.headD []).length ∧ (a.headD []).length ≤ 8) (h : ∀ i zs, i < a.length → a[i]? = some zs → rowOk (a.headD []).length zs = true) : matB a = true := by
  have : a.all (rowOk (a.headD []).length) = true := by
    rw [List.all_eq_true]
    intro zs hz
    obtain ⟨i, hi, rfl⟩ := List.getElem_of_mem hz
    exact h i _ hi (List.getElem?_eq_getElem hi)
  unfold matB; rw [this, decide_eq_true ⟨h1.1, h1.2, h2.1, h2.2⟩]; rfl
/-- what is known of a matrix -/
structure MatOk (a : List (List Int)) (m : Nat) : Prop where
  l1 : 1 ≤ a.length
  l8 : a.length ≤ 8
  m1 : 1 ≤ m
  m8 : m ≤ 8
  row : ∀ zs ∈ a, zs.length = m ∧ Nums zs
theorem matOk {a : List (List Int)} (h : matB a = true) : MatOk a (a.headD []).length := by
  simp only [matB, Bool.and_eq_true, decide_eq_true_eq, List.all_eq_true] at h
  refine ⟨h.1.1, h.1.2.1, h.1.2.2.1, h.1.2.2.2, fun zs hz => ?_⟩
  have := h.2 zs hz
  simp only [rowOk, Bool.and_eq_true, decide_eq_true_eq] at this
  exact ⟨this.1, nums_iff.1 this.2⟩
theorem head_of {a : List (List Int)} {zs : List Int} (h : a[0]? = some zs) : a.headD [] = zs := by
  cases a with
  | nil => simp at h
  | cons x r => simpa using h

set_option maxHeartbeats 400000 in
theorem lib_lengthR (w : World) (v : Value) (xss : List (List Int)) (ha : Rows w v xss) : Calls Try.prog 28 #[v] w fun e w' => e = .returned (.int .i64 xss.length) ∧ w = w' := by
  obtain ⟨A, c, rfl, h1, h2, h3⟩ := ha.open_
  clear ha h3
  go_enter Try.func28, Try.ntmps28
  go_wp2
  go_ret
  exact ⟨rfl, rfl⟩

set_option maxHeartbeats 2000000 in
theorem i_isMatrix (w : World) (v : Value) (a : List (List Int)) (ha : Rows w v a) :
    Calls Try.prog 25 #[v] w fun e w' => e = .returned (.bool (matB a)) ∧ w = w' := by
  have HA := Lib.hid ha
  obtain ⟨A, c, rfl, h1, h2, h3⟩ := ha.open_
  have H3 := Lib.hid h3
  clear ha h3
  go_enter Try.func25, Try.ntmps25
  by_cases hn : 1 ≤ a.length ∧ a.length ≤ 8
  · have hir : inR (a.length : Int) 1 8 = true := inR_iff.2 (by omega)
    obtain ⟨hn1, hn8⟩ := hn
    obtain ⟨ad, u0, zs0, rfl, hz0, hu0, hc0⟩ := H3.out 0 (by omega)
    obtain ⟨A0, d0, rfl, -, -, -⟩ := hu0.open_
    have HH := Lib.hid (head_of hz0)
    have hc00 : w.cell? ad = some (.slice A0 zs0.length d0) := hc0
    clear hz0 hu0 hc0
    go_wp2_with (first | (go_at_call 28; refine (lib_lengthR _ _ a HA.out).mono ?_; rintro e w' ⟨rfl, rfl⟩) | (go_at_call 44; refine (i_inRange _ _ _ _).mono ?_; rintro e w' ⟨rfl, rfl⟩; rw [hir]))
    go_loop [11] (fun i => ∃ k : Nat, k ≤ a.length ∧ i = .int .i64 k ∧ Hid (∀ i zs, i < k → a[i]? = some zs → rowOk zs0.length zs = true ∧ 1 ≤ zs.length ∧ zs.length ≤ 8)) (fun i => a.length - (intOf i).toNat)
    case atStart => exact ⟨0, Nat.zero_le _, rfl, fun i y h => by omega⟩
    case round =>
      obtain ⟨k, hk, rfl, hI⟩ := hrel
      by_cases hlt : k < a.length
      · obtain ⟨ad', u, zs, he, hz, hu, hc⟩ := H3.out k hlt
        simp only [Option.some.injEq] at he
        subst he
        have HU := Lib.hid hu
        obtain ⟨A5, c5, rfl, -, -, -⟩ := hu.open_
        have HZ := Lib.hid hz
        clear hz hu
        by_cases hl : zs.length = zs0.length
        · have hd : ((zs.length : Int) != (zs0.length : Int)) = false := by simp [hl]
          have HL := Lib.hid hl
          clear hl
          by_cases hr : 1 ≤ zs.length ∧ zs.length ≤ 8
          · have hir2 : inR (zs.length : Int) 1 8 = true := inR_iff.2 (by omega)
            have HRR := Lib.hid hr
            clear hr
            cases hb : nums zs with
            | true =>
              have HOK := Lib.hid (show rowOk zs0.length zs = true by simp [rowOk, HL.out, hb])
              go_wp2_with (first | (go_at_call 45; refine (lib_lengthI _ _ zs HU.out).mono ?_; rintro e w' ⟨rfl, rfl⟩) | (go_at_call 44; refine (i_inRange _ _ _ _).mono ?_; rintro e w' ⟨rfl, rfl⟩; rw [hir2]) | (go_at_call 46; refine (i_areNumbers _ _ zs HU.out).mono ?_; rintro e w' ⟨rfl, rfl⟩; rw [hb]))
              go_round
              case rel =>
                refine ⟨k + 1, by omega, by go_num, fun i y hi hy => ?_⟩
                by_cases e : i = k
                · subst e
                  have e2 := HZ.out.symm.trans hy
                  injection e2 with e2
                  subst e2
                  exact ⟨HOK.out, HRR.out.1, HRR.out.2⟩
                · exact hI.out i y (by omega) hy
              case measure => simp [intOf]; omega
            | false =>
              have HF := Lib.hid (matB_row HZ.out (by rw [HH.out]; simp [rowOk, hb]))
              go_wp2_with (first | (go_at_call 45; refine (lib_lengthI _ _ zs HU.out).mono ?_; rintro e w' ⟨rfl, rfl⟩) | (go_at_call 44; refine (i_inRange _ _ _ _).mono ?_; rintro e w' ⟨rfl, rfl⟩; rw [hir2]) | (go_at_call 46; refine (i_areNumbers _ _ zs HU.out).mono ?_; rintro e w' ⟨rfl, rfl⟩; rw [hb]))
              go_ret
              exact ⟨ret_bool HF.out.symm, rfl⟩
          · have hir2 : inR (zs.length : Int) 1 8 = false := by rw [inR_not]; omega
            have HF := Lib.hid (matB_cols (by rw [HH.out, ← HL.out]; exact hr))
            clear hr
            go_wp2_with (first | (go_at_call 45; refine (lib_lengthI _ _ zs HU.out).mono ?_; rintro e w' ⟨rfl, rfl⟩) | (go_at_call 44; refine (i_inRange _ _ _ _).mono ?_; rintro e w' ⟨rfl, rfl⟩; rw [hir2]))
            go_ret
            exact ⟨ret_bool HF.out.symm, rfl⟩
        · have hd : ((zs.length : Int) != (zs0.length : Int)) = true := by simp; omega
          have HF := Lib.hid (matB_row HZ.out (by rw [HH.out]; simp [rowOk, hl]))
          clear hl
          go_wp2_with fail
          go_ret
          exact ⟨ret_bool HF.out.symm, rfl⟩
      · have : k = a.length := by omega
        subst this
        have HF := Lib.hid (show matB a = true from by
          have h0 := hI.out 0 zs0 (by omega) (by
            obtain ⟨ad2, u2, zs2, _, hz2, _, _⟩ := H3.out 0 (by omega)
            rw [hz2, ← HH.out, head_of hz2])
          exact matB_yes ⟨hn1, hn8⟩ (by rw [HH.out]; exact h0.2) (by rw [HH.out]; exact fun i zs hi hz => (hI.out i zs hi hz).1))
        go_wp2_with fail
        go_ret
        exact ⟨ret_bool HF.out.symm, rfl⟩
  · have HF := Lib.hid (matB_size hn)
    have hir : inR (a.length : Int) 1 8 = false := by rw [inR_not]; omega
    clear hn
    go_wp2_with (first | (go_at_call 28; refine (lib_lengthR _ _ a HA.out).mono ?_; rintro e w' ⟨rfl, rfl⟩) | (go_at_call 44; refine (i_inRange _ _ _ _).mono ?_; rintro e w' ⟨rfl, rfl⟩; rw [hir]))
    go_ret
    exact ⟨ret_bool HF.out.symm, rfl⟩

/-- the code of a matrix -/
def matC (a : List (List Int)) : Int := if matB a then 0 else 1

set_option maxHeartbeats 2000000 in
theorem s_l01Matrix (w : World) (v : Value) (a : List (List Int)) (ha : Rows w v a) :
    Calls Try.prog 23 #[v] w fun e w' => e = .returned (.int .i64 (matC a)) ∧ Below w.heap.size w w' := by
  have HA := Lib.hid ha
  obtain ⟨A, c, rfl, h1, h2, h3⟩ := ha.open_
  have H3 := Lib.hid h3
  clear ha h3
  go_enter Try.func23, Try.ntmps23
  by_cases hn : 1 ≤ a.length ∧ a.length ≤ 8
  · obtain ⟨hn1, hn8⟩ := hn
    obtain ⟨ad, u0, zs0, rfl, hz0, hu0, hc0⟩ := H3.out 0 (by omega)
    obtain ⟨A0, d0, rfl, -, -, -⟩ := hu0.open_
    have HH := Lib.hid (head_of hz0)
    have HZ0 := Lib.hid hz0
    have hc00 : w.cell? ad = some (.slice A0 zs0.length d0) := hc0
    have HAB := Lib.hid (World.block_lt_of_cell? w _ hc00)
    clear hz0 hu0 hc0
    have t1 : ¬ (a.length : Int) < 1 := by omega
    have t2 : ¬ (8 : Int) < (a.length : Int) := by omega
    have t3 : (0 : Int) < (a.length : Int) := by omega
    by_cases hr : 1 ≤ zs0.length ∧ zs0.length ≤ 8
    · have t4 : ¬ (zs0.length : Int) < 1 := by omega
      have t5 : ¬ (8 : Int) < (zs0.length : Int) := by omega
      have HRR := Lib.hid hr
      clear hr
      go_wp2_with fail
      go_loopw [3] (fun i wr => ∃ k : Nat, k ≤ a.length ∧ i = .int .i64 k ∧ Hid (∀ i zs, i < k → a[i]? = some zs → rowOk zs0.length zs = true) ∧ Below w.heap.size w wr) (fun i _ => a.length - (intOf i).toNat)
      case atStart => exact ⟨0, Nat.zero_le _, rfl, fun i y h => by omega, Below.refl _ _⟩
      case round =>
        obtain ⟨k, hk, rfl, hI, hb⟩ := hrel
        have HB := Lib.hid hb
        clear hb
        by_cases hlt : k < a.length
        · obtain ⟨ad', u, zs, he, hz, hu, hc⟩ := H3.out k hlt
          simp only [Option.some.injEq] at he
          subst he
          obtain ⟨A5, c5, rfl, -, -, -⟩ := hu.open_
          have HU := Lib.hid hu
          have HZ := Lib.hid hz
          have q0 : wr.cell? ad = some (.slice A0 zs0.length d0) := by rw [HB.out.cell (by exact HAB.out)]; exact hc00
          have q1 : wr.cell? (ad.add k) = some (.slice A5 zs.length c5) := by rw [HB.out.cell (by rw [block_add]; exact HAB.out)]; exact hc
          have hki : (k : Int) < (a.length : Int) := by omega
          clear hz hu hc
          have HNM : ∀ W, Below w.heap.size w W → Calls Try.prog 41 #[.slice A5 zs.length c5] W (fun e w' => e = .returned (.bool (nums zs)) ∧ W = w') := fun W hW => s_l01Numbers W _ zs (HU.out.below hW)
          by_cases hl : zs.length = zs0.length
          · have hd : ((zs.length : Int) != (zs0.length : Int)) = false := by simp [hl]
            have HL := Lib.hid hl
            clear hl
            cases hb : nums zs with
            | true =>
              have HOK := Lib.hid (show rowOk zs0.length zs = true by simp [rowOk, HL.out, hb])
              rw [hb] at HNM
              go_wp2_with fail
              go_quiet ((go_at_call 41; first | exact quiet_same0 (HNM _ (below_drewN HB.out _)) | exact quiet_same (HNM _ (below_drewN HB.out _))))
              clear q0 q1 HNM
              go_wp2_with fail
              go_roundw
              case rel =>
                refine ⟨k + 1, by omega, by go_num, fun i y hi hy => ?_, below_drewN HB.out _⟩
                by_cases e : i = k
                · subst e
                  have e2 := HZ.out.symm.trans hy
                  injection e2 with e2
                  subst e2
                  exact HOK.out
                · exact hI.out i y (by omega) hy
              case measure => simp [intOf]; omega
            | false =>
              have HF := Lib.hid (matB_row HZ.out (by rw [HH.out]; simp [rowOk, hb]))
              rw [hb] at HNM
              go_wp2_with fail
              go_quiet ((go_at_call 41; first | exact quiet_same0 (HNM _ (below_drewN HB.out _)) | exact quiet_same (HNM _ (below_drewN HB.out _))))
              clear q0 q1 HNM
              go_wp2_with fail
              go_ret
              exact ⟨ret_int (by unfold matC; rw [HF.out]; rfl), below_drewN HB.out _⟩
          · have hd : ((zs.length : Int) != (zs0.length : Int)) = true := by simp; omega
            have HF := Lib.hid (matB_row HZ.out (by rw [HH.out]; simp [rowOk, hl]))
            clear hl
            go_wp2_with fail
            go_quiet (fail)
            clear q0 q1 HNM
            go_wp2_with fail
            go_ret
            exact ⟨ret_int (by unfold matC; rw [HF.out]; rfl), below_drewN HB.out _⟩
        · have : k = a.length := by omega
          subst this
          have HF := Lib.hid (show matB a = true from matB_yes ⟨hn1, hn8⟩ (by rw [HH.out]; exact HRR.out) (by rw [HH.out]; exact hI.out))
          go_wp2_with fail
          go_ret
          exact ⟨ret_int (by unfold matC; rw [HF.out]; rfl), HB.out⟩
    · have HF := Lib.hid (matB_cols (by rw [HH.out]; exact hr))
      by_cases t4 : (zs0.length : Int) < 1
      · clear hr
        go_wp2_with fail
        go_ret
        exact ⟨ret_int (by unfold matC; rw [HF.out]; rfl), Below.refl _ _⟩
      · have t5 : (8 : Int) < (zs0.length : Int) := by omega
        clear hr
        go_wp2_with fail
        go_ret
        exact ⟨ret_int (by unfold matC; rw [HF.out]; rfl), Below.refl _ _⟩
  · have HF := Lib.hid (matB_size hn)
    by_cases t1 : (a.length : Int) < 1
    · clear hn
      go_wp2_with fail
      go_ret
      exact ⟨ret_int (by unfold matC; rw [HF.out]; rfl), Below.refl _ _⟩
    · have t2 : (8 : Int) < (a.length : Int) := by omega
      clear hn
      go_wp2_with fail
      go_ret
      exact ⟨ret_int (by unfold matC; rw [HF.out]; rfl), Below.refl _ _⟩
end Go.Proofs.Ytofabikjjkapmaa

set_option maxRecDepth 100000
set_option linter.unusedVariables false
set_option linter.unusedSimpArgs false
namespace Go.Proofs.Ytofabikjjkapmaa
open Go.RowKit Go.Maps Go.Sort Go.Shelf

def monoX (row : List Int) (i : Fin row.length) : Mono := (row[i], unitV row.length i)
/-- the monomials of a linear form -/
def linMs (row : List Int) : List Mono := (linX row).map (monoX row)
theorem omo_of {row : List Int} {w : World} {B : Nat} {x : Value} {css : List (List Value)} {xs : List (Fin row.length)} (hi : ∀ z ∈ row, In64 z) (ho : OwnK w B tMn 2 x css) (he : Elts (eLin row) w B css xs) (hp : (rowsOf css).Pairwise Apart) :
    OMo w B w.heap.size x (xs.map (monoX row)) := by
  have hz : ∀ (css : List (List Value)) (xs : List (Fin row.length)), Elts (eLin row) w B css xs → List.zipWith cellM (rowsOf css) (xs.map (monoX row)) = css := by
    intro css
    induction css with
    | nil => intro xs h; simp [rowsOf]
    | cons c css ih =>
      intro xs h
      cases xs with
      | nil => have := h.1; simp at this
      | cons x xs =>
        obtain ⟨u, rfl, -⟩ := h.2 0 c x rfl rfl
        have h' := ih xs ⟨by have := h.1; simpa using this, fun i c' x' hc hx => h.2 (i + 1) c' x' (by simpa using hc) (by simpa using hx)⟩
        simp only [rowsOf, List.map_cons, List.zipWith_cons_cons] at h' ⊢
        rw [h']
        rfl
  refine ⟨rowsOf css, by rw [hz css xs he]; exact ho, OwnK.lt ho, ⟨by simp [rowsOf, he.1], fun k u zs hu hzs => ?_, fun i j u u' hij hu hu' => ?_⟩, fun m hm => ?_⟩
  · unfold rowsOf at hu
    rw [List.getElem?_map] at hu
    rw [List.map_map, List.getElem?_map] at hzs
    cases hc : css[k]? with
    | none => rw [hc] at hu; cases hu
    | some c =>
      cases hx : xs[k]? with
      | none => rw [hx] at hzs; cases hzs
      | some x =>
        rw [hc] at hu
        rw [hx] at hzs
        obtain ⟨u', rfl, h'⟩ := he.2 k c x hc hx
        simp only [Option.map_some, Option.some.injEq, Function.comp] at hu hzs
        subst hu; subst hzs
        exact OI.of h'
  · have hk1 := (List.getElem?_eq_some_iff.1 hu).1
    have hl1 := (List.getElem?_eq_some_iff.1 hu').1
    have := List.pairwise_iff_getElem.1 hp i j hk1 hl1 hij
    rwa [(List.getElem?_eq_some_iff.1 hu).2, (List.getElem?_eq_some_iff.1 hu').2] at this
  · obtain ⟨i, -, rfl⟩ := List.mem_map.1 hm
    exact hi _ (List.getElem_mem _)
theorem i_partM (w : World) (b n : Nat) (row : List Int) (hn : row.length ≤ 3) (hl : row.length = n) (hi : ∀ z ∈ row, In64 z) (hm : OMp w b row row.length) :
    Calls Try.prog 47 #[.map (some b), .int .i64 (n : Nat)] w fun e w' => ∃ x, e = .returned x ∧ OMo w' w.heap.size w'.heap.size x (linMs row) ∧ Below w.heap.size w w' := by
  subst hl
  refine (i_part w b row hn hm).mono ?_
  rintro e w' ⟨x, css, rfl, h1, h2, h3, h4⟩
  exact ⟨x, rfl, omo_of hi h1 h2 h3, h4⟩
theorem OMp.below {w w' : World} {b : Nat} {row : List Int} {k : Nat} (h : OMp w b row k) (hb : Below w.heap.size w w') : OMp w' b row k := World.ownsMap.kept (row := none) h ⟨hb.os, hb.tape, hb.output, hb.size, fun j hj _ => hb.block j hj⟩ (by simp)
theorem T_mrs : ElemT Try.prog 24 45 (.slice none 0 0) 24 := ⟨Try.underlying24, by kernel_rfl, rfl, by omega⟩
theorem T_pol : ElemT Try.prog 47 49 (.map none) 8 := ⟨by kernel_rfl, by kernel_rfl, rfl, by omega⟩
abbrev tFi : TypeId := 26
/-- a list of maps of linear forms -/
def LMp (w : World) (B : Nat) (v : Value) (rows : List (List Int)) : Prop := ∃ bs : List Nat, Own w B tPl v (bs.map fun b => .map (some b)) ∧ bs.length = rows.length ∧ ∀ (k b : Nat) (row : List Int), bs[k]? = some b → rows[k]? = some row → OMp w b row row.length
theorem LMp.below {w w' : World} {B : Nat} {v : Value} {rows : List (List Int)} (h : LMp w B v rows) (hb : Below w.heap.size w w') : LMp w' B v rows := by
  obtain ⟨bs, h1, h2, h3⟩ := h
  exact ⟨bs, h1.below hb, h2, fun k b row hk hr => (h3 k b row hk hr).below hb⟩
theorem LMp.open_ {w : World} {B : Nat} {v : Value} {rows : List (List Int)} (h : LMp w B v rows) : ∃ A c, v = .slice A rows.length c ∧ rows.length ≤ c ∧ c ≤ 9223372036854775807 ∧ ∀ k, k < rows.length → ∃ ad b row, A = some ad ∧ rows[k]? = some row ∧ OMp w b row row.length ∧ w.cell? (ad.add k) = some (.map (some b)) := by
  obtain ⟨bs, h1, h2, h3⟩ := h
  obtain ⟨A, c, rfl, q1, q2, q3⟩ := h1.cells
  rw [List.length_map, h2] at q1 ⊢
  refine ⟨A, c, rfl, q1, by simpa [maxLen] using q2, fun k hk => ?_⟩
  have hb : bs[k]? = some (bs[k]'(by omega)) := List.getElem?_eq_getElem _
  obtain ⟨ad, hA, hc⟩ := q3 k (.map (some (bs[k]'(by omega)))) (by rw [List.getElem?_map, hb]; rfl)
  exact ⟨ad, _, _, hA, List.getElem?_eq_getElem hk, h3 k _ _ hb (List.getElem?_eq_getElem hk), hc⟩

set_option maxHeartbeats 4000000 in
theorem i_fieldOf (w : World) (B n : Nat) (v : Value) (rows : List (List Int)) (hn : n ≤ 3) (hrl : rows.length ≤ 3) (hl : ∀ row ∈ rows, row.length = n) (hi : ∀ row ∈ rows, ∀ z ∈ row, In64 z) (hv : LMp w B v rows) :
    Calls Try.prog 27 #[.int .i64 (n : Nat), v] w fun e w' => ∃ u, e = .returned (.agg #[.int .i64 (n : Nat), u]) ∧ PF w' w.heap.size w'.heap.size u (rows.map linMs) ∧ Below w.heap.size w w' := by
  obtain ⟨A, c, rfl, l1, l2, h3⟩ := hv.open_
  have H3 := Lib.hid h3
  have HL := Lib.hid hl
  have HI := Lib.hid hi
  clear h3 hv hl hi
  go_enter Try.func27, Try.ntmps27
  go_wp2_with fail
  have K0 := Lib.hid (show Blk ((w.alloc (.cells #[.int .i64 0, .slice none 0 0] tFi)).alloc (.cells #[.int .i64 (n : Nat), .slice none 0 0] tFi)) w.heap.size tFi #[.int .i64 0, .slice none 0 0] from (Blk.new w _ _).alloc _)
  have K1 := Lib.hid (show Blk ((w.alloc (.cells #[.int .i64 0, .slice none 0 0] tFi)).alloc (.cells #[.int .i64 (n : Nat), .slice none 0 0] tFi)) (w.heap.size + 1) tFi #[.int .i64 (n : Nat), .slice none 0 0] from Blk.new1 w _ _ _)
  have HB0 := Lib.hid (below2 w (.cells #[.int .i64 0, .slice none 0 0] tFi) (.cells #[.int .i64 (n : Nat), .slice none 0 0] tFi))
  have HZ := Lib.hid (show ((w.alloc (.cells #[.int .i64 0, .slice none 0 0] tFi)).alloc (.cells #[.int .i64 (n : Nat), .slice none 0 0] tFi)).heap.size = w.heap.size + 2 by simp)
  generalize ((w.alloc (.cells #[.int .i64 0, .slice none 0 0] tFi)).alloc (.cells #[.int .i64 (n : Nat), .slice none 0 0] tFi)) = w4 at K0 K1 HB0 HZ ⊢
  obtain ⟨p, hp⟩ : ∃ p, p = w.heap.size + 1 := ⟨_, rfl⟩
  have HP := Lib.hid hp
  rw [← hp] at K1 ⊢
  clear hp
  go_loopw [12] (fun i wr => ∃ (j : Nat) (u : Value) (vs : List Value) (ivs : List (Nat × Nat)), j ≤ rows.length ∧ i = .int .i64 j ∧ Blk wr p tFi #[.int .i64 (n : Nat), u] ∧ Blk wr w.heap.size tFi #[.int .i64 0, .slice none 0 0] ∧ PFd wr (p + 1) wr.heap.size u vs ivs ((rows.take j).map linMs) ∧ Below w.heap.size w wr) (fun i _ => rows.length - (intOf i).toNat)
  case atStart => exact ⟨0, _, [], [], Nat.zero_le _, rfl, K1.out, K0.out, (PFd.nil w4 (p + 1)).mono (Nat.le_refl _) (by have h1 := HP.out; have h2 := HZ.out; omega), HB0.out⟩
  case round =>
    obtain ⟨j, u, vs, ivs, hj, rfl, k1, k0, hf, hb⟩ := hrel
    clear K0 K1 HB0 HZ
    have K0 := Lib.hid k0
    have K1 := Lib.hid k1
    have HF := Lib.hid hf
    have HB := Lib.hid hb
    obtain ⟨Au, cu, hu0, -⟩ := hf.own.cells.open_
    clear k0 k1 hf hb
    by_cases hlt : j < rows.length
    · obtain ⟨ad, b, row, rfl, hr, hm, hc0⟩ := H3.out j hlt
      have hc : wr.cell? (ad.add j) = some (.map (some b)) := (HB.out.cell (World.block_lt_of_cell? w _ hc0)).trans hc0
      have HR := Lib.hid hr
      have HM := Lib.hid (OMp.below hm HB.out.drew)
      have HLR := Lib.hid (HL.out row (List.mem_of_getElem? hr))
      have HIR := Lib.hid (HI.out row (List.mem_of_getElem? hr))
      have q0 := (K1.out.cell 1 : wr.cell? ⟨p, 1, none⟩ = some u)
      have q1 := K1.out.frozen 1
      have hji : (j : Int) < (rows.length : Int) := by omega
      clear hc0 hr hm H3 hu0
      go_wp2_with fail
      go_region_law (first | (refine step_app1 T_mrs (B := p + 1) (v := u) (vs := vs) (HF.out.own.below (below_of_drew hb5)) (by have h1 := HF.out.len; rw [List.length_map, List.length_take] at h1; omega) (by have h1 := HF.out.le; have h2 := hb5.size; simp at h2; omega) (by rfl) rfl (by rfl) (by rfl) (by rfl) ?_; intro v6 w6 hown6 hgr6; obtain ⟨A6, c6, hv6, -⟩ := hown6.cells.open_; subst hv6; have hpu : u.ownBlock ≠ some p := (fun e => by have h1 := HF.out.own.ge _ e; omega); have q6 := (((K1.out.below (below_of_drew hb5) K1.out.lt).grow hgr6 hpu).cell 1 : w6.cell? ⟨p, 1, none⟩ = some u); have q7 := ((K1.out.below (below_of_drew hb5) K1.out.lt).grow hgr6 hpu).frozen 1) | (go_simp; go_at_call 47; refine (i_partM _ _ _ row (by have := HLR.out; omega) (by exact HLR.out) HIR.out (by exact HM.out)).mono ?_; rintro e w5 ⟨x5, rfl, ho5, hb5⟩; obtain ⟨A5, c5, hv5, -⟩ := ho5.monos.open_; subst hv5; have q5 := ((K1.out.below (below_of_drew hb5) K1.out.lt).cell 1 : w5.cell? ⟨p, 1, none⟩ = some u); have q5a : ∀ o, (w5.alloc o).cell? ⟨p, 1, none⟩ = some u := fun o => ((K1.out.below (below_of_drew hb5) K1.out.lt).alloc o).cell 1))
      all_goals
        have hw5 := below_of_drew hb5
        have hpu : u.ownBlock ≠ some p := fun e => by have h1 := HF.out.own.ge _ e; omega
        have h0u : u.ownBlock ≠ some w.heap.size := fun e => by have h1 := HF.out.own.ge _ e; have h2 := HP.out; omega
        have hf6 := HF.out.step (Nat.le_refl _) hw5 (by exact ho5) (Below.refl w5.heap.size w5) hown6 hgr6
        have hsame : Same (p + 1) w6.heap.size w6 (w6.setCell ⟨p, 1, none⟩ (.slice A6 (vs ++ [Value.slice A5 (linMs row).length c5]).length c6)) := fun k h1 _ => Below.heap_setCell w6 ⟨p, 1, none⟩ _ k (by show k ≠ p; omega)
        have hF := Lib.hid (hf6.agree hsame)
        have K6 := (((K1.out.below hw5 K1.out.lt).grow hgr6 hpu).set_ 1 (.slice A6 (vs ++ [Value.slice A5 (linMs row).length c5]).length c6))
        have k6 := (((K0.out.below hw5 K0.out.lt).grow hgr6 h0u).far (p := ⟨p, 1, none⟩) (by have h2 := HP.out; simp; omega) (.slice A6 (vs ++ [Value.slice A5 (linMs row).length c5]).length c6))
        have hb6 : Below w.heap.size w w6 := hgr6.below (HB.out.trans (hw5.mono HB.out.size)) (Nat.le_trans HB.out.size hw5.size) (fun b hb => by have h1 := HF.out.own.ge _ hb; have h2 := HP.out; omega)
        have hb7 : Below w.heap.size w (w6.setCell ⟨p, 1, none⟩ (.slice A6 (vs ++ [Value.slice A5 (linMs row).length c5]).length c6)) := hb6.setCell (by have h2 := HP.out; show w.heap.size ≤ p; omega) _
        have HK6 := Lib.hid K6
        have Hk6 := Lib.hid k6
        have HB7 := Lib.hid hb7
        have hsz : (w6.setCell ⟨p, 1, none⟩ (.slice A6 (vs ++ [Value.slice A5 (linMs row).length c5]).length c6)).heap.size = w6.heap.size := by simp
        have HSZ := Lib.hid hsz
        simp only [List.length_append, List.length_singleton] at hF HK6 Hk6 HB7 HSZ
        clear hw5 hpu h0u hf6 hsame K6 k6 hb6 hb7 hsz hown6 hgr6 ho5 hb5 q0 q1 q5 q5a q6 q7 hc
        go_wp2_with fail
        go_roundw
        case rel =>
          refine ⟨j + 1, _, vs ++ [Value.slice A5 (linMs row).length c5], ivs ++ [(wr.heap.size, w5.heap.size)], by omega, by go_num, HK6.out, Hk6.out, ?_, HB7.out⟩
          rw [List.take_add_one, HR.out, Option.toList_some, List.map_append]
          rw [HSZ.out]
          exact hF.out
        case measure => simp [intOf]; omega
    · have : j = rows.length := by omega
      subst this
      rw [List.take_length] at HF
      subst hu0
      have e0 : wr.cell? ⟨p, 0, none⟩ = some (.int .i64 (n : Nat)) := K1.out.cell 0
      have e1 : wr.cell? ⟨p, 1, none⟩ = some (.slice Au vs.length cu) := K1.out.cell 1
      have f0 : wr.cell? ⟨w.heap.size, 0, none⟩ = some (.int .i64 0) := K0.out.cell 0
      have f1 : wr.cell? ⟨w.heap.size, 1, none⟩ = some (.slice none 0 0) := K0.out.cell 1
      have f2 := K0.out.frozen 0
      have f3 := K0.out.frozen 1
      go_wp2_with fail
      have c0 := Chg.refl w.heap.size (w.heap.size + 1) wr
      have c1' := c0.setCell (p := ⟨w.heap.size, 0, none⟩) (Nat.le_refl _) (by simp) (.int .i64 (n : Nat))
      have c2' := c1'.setCell (p := ⟨w.heap.size, 1, none⟩) (Nat.le_refl _) (by simp) (.slice Au vs.length cu)
      have hsb := HB.out.size
      have hsz := c2'.size
      refine bodyPost_ret (v := .agg #[.int .i64 (n : Nat), .slice Au vs.length cu]) (by simp [results, Try.results27, go_sem, f0, f1]) rfl ⟨_, rfl, ⟨_, _, (HF.out.agree (Same.of_chg c2' (Nat.le_refl _) (.inr (by have := HP.out; omega)))).mono (by have := HP.out; omega) hsz⟩, c2'.below HB.out (Nat.le_refl _) hsb⟩
end Go.Proofs.Ytofabikjjkapmaa

set_option maxRecDepth 100000
set_option linter.unusedVariables false
set_option linter.unusedSimpArgs false
namespace Go.Proofs.Ytofabikjjkapmaa
open Go.RowKit

end Go.Proofs.Ytofabikjjkapmaa

set_option maxRecDepth 100000
set_option linter.unusedVariables false
set_option linter.unusedSimpArgs false
namespace Go.Proofs.Ytofabikjjkapmaa
open Go.RowKit

section
variable {w w' : World} {B N p : Nat} {e t : TypeId} {v va vb : Value} {vs : List Value} {cs : Array Value} {rows : List (List Int)} {Bs : List Int}
theorem Own.ne_blk (h : Own w B e v vs) (hk : Blk w p t cs) (hne : e ≠ t) : v.ownBlock ≠ some p := by
  intro hb
  rcases h.cases with ⟨rfl, _⟩ | ⟨g, cap, cur, rfl, _, _, hg, _⟩
  · simp [Value.ownBlock] at hb
  · simp [Value.ownBlock] at hb
    subst hb
    have h2 : w.heap[g]? = some (.cells cs t (0, 0)) := hk
    rw [hg] at h2
    simp at h2
    exact hne h2.2
theorem Two.storeAt (h : Two w N va vb vs rows Bs) (hk : Blk w p t cs) (h1 : tL ≠ t) (h2 : tI ≠ t) (i : Nat) (u : Value) : Two (w.setCell ⟨p, i, none⟩ u) N va vb vs rows Bs := by
  have hh : ∀ b, b ≠ p → (w.setCell ⟨p, i, none⟩ u).heap[b]? = w.heap[b]? := fun b hb => Below.heap_setCell w ⟨p, i, none⟩ u b hb
  have hs : (w.setCell ⟨p, i, none⟩ u).heap.size = w.heap.size := by simp [World.setCell]
  refine ⟨h.own.of_block fun b hb => hh b (fun e => h.own.ne_blk hk h1 (e ▸ hb)), ?_, ⟨h.ws.1.of_block fun b hb => hh b (fun e => h.ws.1.ne_blk hk h2 (e ▸ hb)), h.ws.2⟩, h.ap⟩
  rw [hs]
  exact ⟨h.rows.1, fun k u' zs hu hz => ⟨⟨(h.rows.2.1 k u' zs hu hz).1.1.of_block fun b hb => hh b (fun e => (h.rows.2.1 k u' zs hu hz).1.1.ne_blk hk h2 (e ▸ hb)), (h.rows.2.1 k u' zs hu hz).1.2⟩, (h.rows.2.1 k u' zs hu hz).2⟩, h.rows.2.2⟩

/-- all that Two tells stands where only block p, of another type, has turned -/
theorem Two.other (h : Two w N va vb vs rows Bs) (hk : Blk w p t cs) (h1 : tL ≠ t) (h2 : tI ≠ t) (hg : w.grownBy w' (some p)) : Two w' N va vb vs rows Bs :=
  ⟨h.own.kept hg (.inr (h.own.ne_blk hk h1)), (h.rows.other hg fun k u hu => by
    have hx : rows[k]? = some (rows[k]'(by rw [← h.rows.1]; exact (List.getElem?_eq_some_iff.1 hu).1)) := List.getElem?_eq_getElem _
    exact .inr ((h.rows.2.1 k u _ hu hx).1.1.ne_blk hk h2)).mono (Nat.le_refl _) hg.size, ⟨h.ws.1.kept hg (.inr (h.ws.1.ne_blk hk h2)), h.ws.2⟩, h.ap⟩
end

section
variable {w0 w w' w1 : World} {p : Nat} {vc vb v1 r : Value} {vs : List Value} {rows : List (List Int)} {zs Bs : List Int} {z : Int}
end

section
variable {w0 w4 w w5 w6 : World} {p : Nat} {va vb v1 r : Value} {vs : List Value} {rows : List (List Int)} {zs : List Int}
end

section
variable {w0 w w5 w6 : World} {p : Nat} {va vb v1 r : Value} {vs : List Value} {rows : List (List Int)} {zs Bs : List Int}
end

section
variable {w0 w w' : World} {c0 c1 c2 : Array Value} {v v' : Value} {vs : List Value} {B p : Nat} {e : TypeId}
end
end Go.Proofs.Ytofabikjjkapmaa

set_option linter.unusedVariables false
set_option linter.unusedSimpArgs false
namespace Go.Proofs.Ytofabikjjkapmaa
open Go.RowKit

/-- a tableau of numbers, of any form -/
structure NumTab (A : List (List Int)) (Bs : List Int) : Prop where
  la : A.length ≤ 1000
  lb : Bs.length ≤ 1000
  rows : ∀ zs ∈ A, Nums zs ∧ zs.length ≤ 1000
  ws : Nums Bs

end Go.Proofs.Ytofabikjjkapmaa

set_option maxRecDepth 100000
set_option linter.unusedVariables false
set_option linter.unusedSimpArgs false
namespace Go.Proofs.Ytofabikjjkapmaa
open Go.RowKit

theorem ints_oneC (zs : List Int) : ∀ u ∈ ints zs, u.oneCell' = true := by
  intro u hu
  obtain ⟨z, _, rfl⟩ := List.mem_map.1 hu
  rfl

set_option maxHeartbeats 1000000 in
theorem s_l01Own (w : World) (v : Value) (zs : List Int) (ha : Ints w v zs) (hn : zs.length ≤ 4294967296) :
    Calls Try.prog 69 #[v] w fun e w' => ∃ r, e = .returned r ∧ OwnInts w' w.heap.size tI r zs ∧ Below w.heap.size w w' := by
  obtain ⟨A, c, rfl, l1, l2, h3⟩ := ha.open_
  have HA := Lib.hid ha
  clear h3 ha
  have OL := Lib.hid (own_lit w tI [] (by simp [maxLen]))
  have B1 := Lib.hid (below1 w (.cells #[] tI))
  go_enter Try.func69, Try.ntmps69
  go_wp2_with (at_builtin; refine wpList_appN T_int OL.out (HA.out.below B1.out).1 (by rw [ints_len]; simp; omega) B1.out.size (ints_oneC _) rfl (by rfl) (by rfl) (by rfl) ?_; intro v1 w2 hown1 hgr1)
  go_ret
  exact ⟨_, rfl, ⟨by simpa using hown1, HA.out.2⟩, hgr1.below B1.out (by simp) OL.out.ge⟩

end Go.Proofs.Ytofabikjjkapmaa

