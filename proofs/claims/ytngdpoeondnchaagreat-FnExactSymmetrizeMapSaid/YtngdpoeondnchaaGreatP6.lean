/- Walks of tests: in a range, a number, all numbers. | The walk of the program's length at lists of numbers. | Monomials: words of memory; walks of isMonomial of the program and l13Degree of the reference. | Monomials and fields that came in: words of memory. No program in sight. | Fields, plain: what makes a field. No program in sight. | Walk: l13Is of the reference. -/
import Derived.Test.YtngdpoeondnchaaGreatRows
import Derived.Test.YtngdpoeondnchaaGreatP1
import Derived.Test.YtngdpoeondnchaaGreatP3
import Derived.WalkLawsBesides
import Derived.BigGuardPart
import Derived.Test.YtngdpoeondnchaaGreatP5
set_option linter.unusedVariables false
set_option linter.unusedSimpArgs false
namespace Go.Proofs.YtngdpoeondnchaaGreat
open Go.RowKit

set_option maxHeartbeats 400000 in
theorem i_inRange (n lo hi : Int) (w : World) :
    Calls Tryz.prog 104 #[.int .i64 n, .int .i64 lo, .int .i64 hi] w fun e w' => e = .returned (.bool (inR n lo hi)) ∧ w = w' := by
  by_cases h1 : lo ≤ n
  · by_cases h2 : n ≤ hi
    · go_enter Tryz.func104, Tryz.ntmps104
      go_wp2
      go_ret
      exact ⟨ret_bool (by simp [inR, h1, h2]), rfl⟩
    · go_enter Tryz.func104, Tryz.ntmps104
      go_wp2
      go_ret
      exact ⟨ret_bool (by simp [inR, h1, h2]), rfl⟩
  · go_enter Tryz.func104, Tryz.ntmps104
    go_wp2
    go_ret
    exact ⟨ret_bool (by simp [inR]; omega), rfl⟩

set_option maxHeartbeats 400000 in
theorem s_l01In (n lo hi : Int) (w : World) :
    Calls Tryz.prog 83 #[.int .i64 n, .int .i64 lo, .int .i64 hi] w fun e w' => e = .returned (.bool (inR n lo hi)) ∧ w = w' := by
  by_cases h1 : lo ≤ n
  · by_cases h2 : n ≤ hi
    · go_enter Tryz.func83, Tryz.ntmps83
      go_wp2
      go_ret
      exact ⟨ret_bool (by simp [inR, h1, h2]), rfl⟩
    · go_enter Tryz.func83, Tryz.ntmps83
      go_wp2
      go_ret
      exact ⟨ret_bool (by simp [inR, h1, h2]), rfl⟩
  · go_enter Tryz.func83, Tryz.ntmps83
    go_wp2
    go_ret
    exact ⟨ret_bool (by simp [inR]; omega), rfl⟩

set_option maxHeartbeats 400000 in
theorem i_IsNumber (n : Int) (w : World) : Calls Tryz.prog 155 #[.int .i64 n] w fun e w' => e = .returned (.bool (isNum n)) ∧ w = w' := by
  go_enter Tryz.func155, Tryz.ntmps155
  go_wp2_with (go_at_call 104; refine (i_inRange _ _ _ _).mono ?_; rintro e w' ⟨rfl, rfl⟩)
  go_ret
  exact ⟨rfl, rfl⟩

set_option maxHeartbeats 400000 in
theorem s_IsNumber (n : Int) (w : World) : Calls Tryz.prog 152 #[.int .i64 n] w fun e w' => e = .returned (.bool (isNum n)) ∧ w = w' := by
  go_enter Tryz.func152, Tryz.ntmps152
  go_wp2_with (go_at_call 83; refine (s_l01In _ _ _ _).mono ?_; rintro e w' ⟨rfl, rfl⟩)
  go_ret
  exact ⟨rfl, rfl⟩

set_option maxHeartbeats 400000 in
theorem i_areNumbers1 (n : Int) (w : World) : Calls Tryz.prog 154 #[.int .i64 n] w fun e w' => e = .returned (.bool (!isNum n)) ∧ w = w' := by
  go_enter Tryz.func154, Tryz.ntmps154
  go_wp2_with (go_at_call 155; refine (i_IsNumber _ _).mono ?_; rintro e w' ⟨rfl, rfl⟩)
  go_ret
  exact ⟨rfl, rfl⟩

set_option maxHeartbeats 400000 in
theorem lib_IndexFuncI (w : World) (v : Value) (zs : List Int) (g : Nat) (p : Int → Bool) (ha : Ints w v zs)
    (hcf : ∀ (args : Array Value) (w : World), Sem.run Tryz.prog (callFunc g args) w = .ok (.enter g args) w)
    (hp : ∀ z : Int, Calls Tryz.prog g #[.int .i64 z] w fun e w' => e = .returned (.bool (p z)) ∧ w = w') :
    Calls Tryz.prog 185 #[v, .func (.func g) #[] #[]] w fun e w' => e = .returned (.int .i64 (idxF p zs)) ∧ w = w' := by
  obtain ⟨A, c, rfl, h1, h2, h3⟩ := ha.open_
  clear ha
  have H3 := Lib.hid h3
  have HP := Lib.hid hp
  clear h3 hp
  go_enter Tryz.func185, Tryz.ntmps185
  go_wp2_with fail
  go_loop [8] (fun i => ∃ k : Nat, k ≤ zs.length ∧ i = .int .i64 k ∧ Hid (∀ i y, i < k → zs[i]? = some y → p y = false)) (fun i => zs.length - (intOf i).toNat)
  case atStart => exact ⟨0, Nat.zero_le _, rfl, fun i y h => by omega⟩
  case round =>
    obtain ⟨k, hk, rfl, hI⟩ := hrel
    by_cases hlt : k < zs.length
    · obtain ⟨ad, z, rfl, hz, hz2, hc⟩ := H3.out k hlt
      have HZ := Lib.hid hz
      clear hz hz2
      go_wp2_with fail
      refine (HP.out z).mono ?_
      rintro e w' ⟨rfl, rfl⟩
      go_wp2_with fail
      · have hpz : p z = true := by assumption
        go_ret
        exact ⟨ret_int (idxF_hit hI.out HZ.out hpz).symm, rfl⟩
      · have hpz : p z = false := by assumption
        go_round
        case rel =>
          refine ⟨k + 1, by omega, by go_num, fun i y hi hy => ?_⟩
          by_cases e : i = k
          · subst e
            rw [HZ.out] at hy
            cases hy
            exact hpz
          · exact hI.out i y (by omega) hy
        case measure => simp [intOf]; omega
    · have : k = zs.length := by omega
      subst this
      go_wp2_with fail
      go_ret
      exact ⟨ret_int (idxF_miss hI.out).symm, rfl⟩

set_option maxHeartbeats 400000 in
theorem lib_ContainsFuncI (w : World) (v : Value) (zs : List Int) (g : Nat) (p : Int → Bool) (ha : Ints w v zs)
    (hcf : ∀ (args : Array Value) (w : World), Sem.run Tryz.prog (callFunc g args) w = .ok (.enter g args) w)
    (hp : ∀ z : Int, Calls Tryz.prog g #[.int .i64 z] w fun e w' => e = .returned (.bool (p z)) ∧ w = w') :
    Calls Tryz.prog 153 #[v, .func (.func g) #[] #[]] w fun e w' => e = .returned (.bool (zs.any p)) ∧ w = w' := by
  have HA := Lib.hid ha
  have HP := Lib.hid hp
  clear ha hp
  go_enter Tryz.func153, Tryz.ntmps153
  go_wp2_with (go_at_call 185; refine (lib_IndexFuncI _ _ _ _ _ HA.out hcf HP.out).mono ?_; rintro e w' ⟨rfl, rfl⟩)
  go_ret
  exact ⟨ret_bool (idxF_nonneg p zs), rfl⟩

set_option maxHeartbeats 400000 in
theorem i_areNumbers (w : World) (v : Value) (zs : List Int) (ha : Ints w v zs) : Calls Tryz.prog 123 #[v] w fun e w' => e = .returned (.bool (nums zs)) ∧ w = w' := by
  have HA := Lib.hid ha
  clear ha
  go_enter Tryz.func123, Tryz.ntmps123
  go_wp2_with (go_at_call 153; refine (lib_ContainsFuncI _ _ _ _ (fun z => !isNum z) HA.out (fun _ _ => by kernel_rfl) (fun z => i_areNumbers1 z _)).mono ?_; rintro e w' ⟨rfl, rfl⟩)
  go_ret
  exact ⟨ret_bool (by rw [any_not_nums, Bool.not_not]), rfl⟩

set_option maxHeartbeats 400000 in
theorem s_l01Numbers (w : World) (v : Value) (zs : List Int) (ha : Ints w v zs) : Calls Tryz.prog 122 #[v] w fun e w' => e = .returned (.bool (nums zs)) ∧ w = w' := by
  obtain ⟨A, c, rfl, h1, h2, h3⟩ := ha.open_
  clear ha
  have H3 := Lib.hid h3
  clear h3
  go_enter Tryz.func122, Tryz.ntmps122
  go_wp2_with fail
  go_loop [3] (fun i => ∃ k : Nat, k ≤ zs.length ∧ i = .int .i64 k ∧ Hid (∀ i y, i < k → zs[i]? = some y → isNum y = true)) (fun i => zs.length - (intOf i).toNat)
  case atStart => exact ⟨0, Nat.zero_le _, rfl, fun i y h => by omega⟩
  case round =>
    obtain ⟨k, hk, rfl, hI⟩ := hrel
    by_cases hlt : k < zs.length
    · obtain ⟨ad, z, rfl, hz, hz2, hc⟩ := H3.out k hlt
      have HZ := Lib.hid hz
      clear hz hz2
      go_wp2_with (go_at_call 152; refine (s_IsNumber _ _).mono ?_; rintro e w' ⟨rfl, rfl⟩)
      · have hpz : isNum z = false := by simpa using (by assumption : (!isNum z) = true)
        go_ret
        exact ⟨ret_bool (nums_false HZ.out hpz).symm, rfl⟩
      · have hpz : isNum z = true := by simpa using (by assumption : (!isNum z) = false)
        go_round
        case rel =>
          refine ⟨k + 1, by omega, by go_num, fun i y hi hy => ?_⟩
          by_cases e : i = k
          · subst e
            rw [HZ.out] at hy
            cases hy
            exact hpz
          · exact hI.out i y (by omega) hy
        case measure => simp [intOf]; omega
    · have : k = zs.length := by omega
      subst this
      go_wp2_with fail
      go_ret
      exact ⟨ret_bool (nums_all hI.out).symm, rfl⟩
end Go.Proofs.YtngdpoeondnchaaGreat

set_option linter.unusedVariables false
set_option linter.unusedSimpArgs false
namespace Go.Proofs.YtngdpoeondnchaaGreat
open Go.RowKit

set_option maxHeartbeats 400000 in
theorem lib_lengthI (w : World) (v : Value) (zs : List Int) (ha : Ints w v zs) : Calls Tryz.prog 124 #[v] w fun e w' => e = .returned (.int .i64 zs.length) ∧ w = w' := by
  obtain ⟨A, c, rfl, h1, h2, h3⟩ := ha.open_
  clear ha h3
  go_enter Tryz.func124, Tryz.ntmps124
  go_wp2
  go_ret
  exact ⟨rfl, rfl⟩

end Go.Proofs.YtngdpoeondnchaaGreat

set_option maxRecDepth 100000
set_option linter.unusedVariables false
set_option linter.unusedSimpArgs false
namespace Go.Proofs.YtngdpoeondnchaaGreat
open Go.RowKit

/-- a monomial: the factor and the powers -/
abbrev Mono := Int × List Int
/-- a monomial that can be read -/
def MonoArg (w : World) (v : Value) (m : Mono) : Prop := ∃ u, v = .agg #[.int .i64 m.1, u] ∧ In64 m.1 ∧ Ints w u m.2
theorem MonoArg.below {w w' : World} {v : Value} {m : Mono} (h : MonoArg w v m) (hb : Below w.heap.size w w') : MonoArg w' v m := by
  obtain ⟨u, rfl, h1, h2⟩ := h
  exact ⟨u, rfl, h1, h2.below hb⟩

end Go.Proofs.YtngdpoeondnchaaGreat

set_option maxRecDepth 100000
set_option linter.unusedVariables false
set_option linter.unusedSimpArgs false
namespace Go.Proofs.YtngdpoeondnchaaGreat
open Go.RowKit

/-- a list of monomials that can be read -/
def Monos (w : World) (v : Value) (ms : List Mono) : Prop :=
  ∃ A c, v = .slice A ms.length c ∧ ms.length ≤ c ∧ c ≤ maxLen ∧ ∀ (k : Nat) (m : Mono), ms[k]? = some m → ∃ b o u, A = some ⟨b, o, none⟩ ∧ In64 m.1 ∧ Ints w u m.2 ∧ w.cell? ⟨b, o + k * 2, none⟩ = some (.int .i64 m.1) ∧ w.cell? ⟨b, o + k * 2 + 1, none⟩ = some u
theorem Monos.below {w w' : World} {v : Value} {ms : List Mono} (h : Monos w v ms) (hb : Below w.heap.size w w') : Monos w' v ms := by
  obtain ⟨A, c, rfl, h1, h2, h3⟩ := h
  refine ⟨A, c, rfl, h1, h2, fun k m hm => ?_⟩
  obtain ⟨b, o, u, hA, hf, hu, hc, hc'⟩ := h3 k m hm
  refine ⟨b, o, u, hA, hf, hu.below hb, ?_, ?_⟩
  · rw [hb.cell (World.block_lt_of_cell? w _ hc)]; exact hc
  · rw [hb.cell (World.block_lt_of_cell? w _ hc')]; exact hc'
theorem Monos.open_ {w : World} {v : Value} {ms : List Mono} (h : Monos w v ms) : ∃ A c, v = .slice A ms.length c ∧ ms.length ≤ c ∧ c ≤ 9223372036854775807 ∧ ∀ (k : Nat), k < ms.length → ∃ b o m u, A = some ⟨b, o, none⟩ ∧ ms[k]? = some m ∧ In64 m.1 ∧ Ints w u m.2 ∧ w.cell? ⟨b, o + k * 2, none⟩ = some (.int .i64 m.1) ∧ w.cell? ⟨b, o + k * 2 + 1, none⟩ = some u := by
  obtain ⟨A, c, rfl, h1, h2, h3⟩ := h
  refine ⟨A, c, rfl, h1, by simpa [maxLen] using h2, fun k hk => ?_⟩
  obtain ⟨b, o, u, hA, hf, hu, hc, hc'⟩ := h3 k ms[k] (List.getElem?_eq_getElem hk)
  exact ⟨b, o, ms[k], u, hA, List.getElem?_eq_getElem hk, hf, hu, hc, hc'⟩
/-- lists of monomials that can be read -/
def MRows (w : World) (v : Value) (pss : List (List Mono)) : Prop :=
  ∃ vs, Cells w v vs ∧ vs.length = pss.length ∧ ∀ (k : Nat) (u : Value) (ms : List Mono), vs[k]? = some u → pss[k]? = some ms → Monos w u ms
theorem MRows.below {w w' : World} {v : Value} {pss : List (List Mono)} (h : MRows w v pss) (hb : Below w.heap.size w w') : MRows w' v pss := by
  obtain ⟨vs, h1, h2, h3⟩ := h
  exact ⟨vs, h1.below hb, h2, fun k u ms hu hm => (h3 k u ms hu hm).below hb⟩
theorem MRows.open_ {w : World} {v : Value} {pss : List (List Mono)} (h : MRows w v pss) : ∃ A c, v = .slice A pss.length c ∧ pss.length ≤ c ∧ c ≤ 9223372036854775807 ∧ ∀ (k : Nat), k < pss.length → ∃ ad u ms, A = some ad ∧ pss[k]? = some ms ∧ Monos w u ms ∧ w.cell? (ad.add k) = some u := by
  obtain ⟨vs, ⟨A, c, rfl, h1, h2, h3⟩, h4, h5⟩ := h
  rw [h4] at h1 ⊢
  refine ⟨A, c, rfl, h1, by simpa [maxLen] using h2, fun k hk => ?_⟩
  have hv : vs[k]? = some (vs[k]'(by rw [h4]; exact hk)) := List.getElem?_eq_getElem _
  obtain ⟨ad, hA, hc⟩ := h3 k _ hv
  exact ⟨ad, _, pss[k], hA, List.getElem?_eq_getElem hk, h5 k _ _ hv (List.getElem?_eq_getElem hk), hc⟩
end Go.Proofs.YtngdpoeondnchaaGreat

set_option maxRecDepth 100000
set_option linter.unusedVariables false
set_option linter.unusedSimpArgs false
namespace Go.Proofs.YtngdpoeondnchaaGreat
open Go.RowKit

end Go.Proofs.YtngdpoeondnchaaGreat

set_option maxRecDepth 100000
set_option linter.unusedVariables false
set_option linter.unusedSimpArgs false
namespace Go.Proofs.YtngdpoeondnchaaGreat
open Go.RowKit

theorem quiet_lessF {w : World} {n : Nat} {v v' : Value} {a b : List Int} (h : Ints w v a) (h' : Ints w v' b) :
    Calls Tryz.prog 186 #[v, v'] (w.drewN n) fun e w'' => e = .returned (.bool (lessL a b)) ∧ ∃ m, w'' = w.drewN m :=
  (s_l01Less _ _ _ a b (h.drewN n) (h'.drewN n)).mono fun _ _ ⟨he, m, hm⟩ => ⟨he, n + m, by rw [hm, World.drewN_drewN]⟩

end Go.Proofs.YtngdpoeondnchaaGreat

