/- The laws' helpers: equality of lists of lists of monomials, and of fields. | The map of a linear form: its keys, what it reads as. | slices.SortFunc at monomials: laid. | Walks: the comparison of the monomials of a linear form; slices.SortFunc at them. | Walk: part of the program, at the map of a linear form. | Walk: linear of the program. | Walk: IsField of the program. | Walks: is it a tableau (the program's and the reference's test). | Walks: vectors and vector series of fields. | One round of 'z.A = append(z.A, row)', in plain words of memory. No program in sight. | One round of 'z.A = append(z.A, row); z.B = append(z.B, x)', in plain words of memory. No program in sight. | Rows and numbers that grow side by side, in plain words of memory. No program in sight. | Walks: ScaleVectors of both. -/
import Derived.Test.YtofabikjjkapmaaLf7
import Derived.Test.YtofabikjjkapmaaLf3
import Derived.Maps.RangeWalk
import Derived.Maps.OwnOps
import Derived.DeepKeys4
import Derived.Test.YtofabikjjkapmaaLf4
import Derived.Shelf.SlSortCmp.WholeK
import Derived.Shelf.SlSortCmp.NoneTotal
import Derived.Shelf.SlGeneric
import Derived.Ground.SlsfProg
import Derived.Test.YtofabikjjkapmaaLf5
import Derived.Deep.CutRange
import Derived.Deep.CutBlock
import Derived.Deep.DeepCutAuto
import Derived.Test.YtofabikjjkapmaaLf6
import Derived.Test.YtofabikjjkapmaaRows
import Derived.Test.YtofabikjjkapmaaLf1
import Derived.Test.YtofabikjjkapmaaLf2
import Derived.WalkLawsBesides
import Derived.BigGuardPart
set_option maxRecDepth 100000
set_option linter.unusedVariables false
set_option linter.unusedSimpArgs false
namespace Go.Proofs.Ytofabikjjkapmaa
open Go.RowKit

set_option maxHeartbeats 2000000 in
theorem l_eqMonomialSS (w : World) (a b : Value) (xs ys : List (List Mono)) (ha : MRows w a xs) (hb : MRows w b ys) :
    Calls Try.prog 29 #[a, b] w fun e w' => e = .returned (.bool (decide (xs = ys))) ∧ Below w.heap.size w w' := by
  obtain ⟨A, c, rfl, h1, h2, h3⟩ := ha.open_
  obtain ⟨B, d, rfl, g1, g2, g3⟩ := hb.open_
  clear ha hb
  have H3 := Lib.hid h3
  have G3 := Lib.hid g3
  clear h3 g3
  by_cases hl : xs.length = ys.length
  · have hl' : (((xs.length : Nat) : Int) != ((ys.length : Nat) : Int)) = false := by simp [hl]
    have HL := Lib.hid hl
    clear hl
    have g4 : ys.length ≤ xs.length := by rw [HL.out]; omega
    have g5 : xs.length ≤ ys.length := by rw [HL.out]; omega
    go_enter Try.func29, Try.ntmps29
    go_wp2
    go_loopw [5] (fun i wr => ∃ k : Nat, k ≤ xs.length ∧ i = .int .i64 k ∧ Hid (xs.take k = ys.take k) ∧ Below w.heap.size w wr) (fun i _ => xs.length - (intOf i).toNat)
    case atStart => exact ⟨0, Nat.zero_le _, rfl, rfl, Below.refl _ _⟩
    case round =>
      obtain ⟨k, hk, rfl, HT, hbw⟩ := hrel
      have HB := Lib.hid hbw
      clear hbw
      by_cases hlt : k < xs.length
      · obtain ⟨ad1, u1, m1, rfl, hx, hu1, hc1⟩ := H3.out k hlt
        obtain ⟨ad2, u2, m2, rfl, hy, hu2, hc2⟩ := G3.out k (by omega)
        have q1 : wr.cell? (ad1.add k) = some u1 := by rw [HB.out.cell (by rw [block_add]; have := World.block_lt_of_cell? w _ hc1; rwa [block_add] at this)]; exact hc1
        have q2 : wr.cell? (ad2.add k) = some u2 := by rw [HB.out.cell (by rw [block_add]; have := World.block_lt_of_cell? w _ hc2; rwa [block_add] at this)]; exact hc2
        have M1 := Lib.hid (hu1.below HB.out)
        have M2 := Lib.hid (hu2.below HB.out)
        have HX := Lib.hid hx
        have HY := Lib.hid hy
        have hki : (k : Int) < (xs.length : Int) := by omega
        have hki2 : (k : Int) < (ys.length : Int) := by omega
        have hkn2 : k < ys.length := by omega
        clear hx hy hu1 hu2 hc1 hc2
        by_cases he : m1 = m2
        · have hd : decide (m1 = m2) = true := decide_eq_true he
          have HE := Lib.hid he
          clear he
          go_wp2_with fail
          go_region_law (go_simp; go_at_call 48; refine (l_eqMonomialS _ _ _ m1 m2 (by exact M1.out.below (Below.refl _ _).drew) (by exact M2.out.below (Below.refl _ _).drew)).mono ?_; rintro e w5 ⟨rfl, hb5⟩; rw [hd])
          all_goals
            have HB5 := Lib.hid (HB.out.trans ((below_of_drew hb5).mono HB.out.size))
            clear hb5 q1 q2
            go_wp2_with fail
            go_roundw
            case rel => exact ⟨k + 1, by omega, by go_num, mtake_succ HT.out HX.out HY.out HE.out, HB5.out⟩
            case measure => simp [intOf]; omega
        · have hd : decide (m1 = m2) = false := decide_eq_false he
          have HE := Lib.hid he
          clear he
          go_wp2_with fail
          go_region_law (go_simp; go_at_call 48; refine (l_eqMonomialS _ _ _ m1 m2 (by exact M1.out.below (Below.refl _ _).drew) (by exact M2.out.below (Below.refl _ _).drew)).mono ?_; rintro e w5 ⟨rfl, hb5⟩; rw [hd])
          all_goals
            have HB5 := Lib.hid (HB.out.trans ((below_of_drew hb5).mono HB.out.size))
            clear hb5 q1 q2
            go_wp2_with fail
            go_ret
            refine ⟨ret_bool ?_, HB5.out⟩
            symm
            simp only [decide_eq_false_iff_not]
            rintro rfl
            have := HX.out.symm.trans HY.out
            simp only [Option.some.injEq] at this
            exact HE.out this
      · have : k = xs.length := by omega
        subst this
        go_wp2_with fail
        go_ret
        refine ⟨ret_bool ?_, HB.out⟩
        have e := HT.out
        rw [List.take_length, List.take_of_length_le (by omega)] at e
        simp [e]
  · have hl' : (((xs.length : Nat) : Int) != ((ys.length : Nat) : Int)) = true := by simp; omega
    have HL := Lib.hid hl
    clear hl
    go_enter Try.func29, Try.ntmps29
    go_wp2
    go_ret
    refine ⟨ret_bool ?_, Below.refl _ _⟩
    have := HL.out
    symm
    simp only [decide_eq_false_iff_not]
    rintro rfl
    exact this rfl

set_option maxHeartbeats 1000000 in
theorem l_eqField (w : World) (v v' : Value) (n n' : Int) (pss pss' : List (List Mono)) (ha : FieldArg w v n pss) (hb : FieldArg w v' n' pss') :
    Calls Try.prog 9 #[v, v'] w fun e w' => e = .returned (.bool (decide (n = n') && decide (pss = pss'))) ∧ Below w.heap.size w w' := by
  obtain ⟨u, rfl, hf, hu⟩ := ha
  obtain ⟨u', rfl, hf', hu'⟩ := hb
  have BB := Lib.hid (below2 w (.cells #[.int .i64 n, u] 26) (.cells #[.int .i64 n', u'] 26))
  have HU := Lib.hid (hu.below BB.out)
  have HU' := Lib.hid (hu'.below BB.out)
  obtain ⟨A, c, rfl, -, -, -⟩ := hu.open_
  obtain ⟨A', c', rfl, -, -, -⟩ := hu'.open_
  clear hu hu'
  go_enter Try.func9, Try.ntmps9
  by_cases h : n = n'
  · have hb1 : (n != n') = false := by simp [h]
    have H := Lib.hid h
    clear h
    by_cases hp : pss = pss'
    · have HP := Lib.hid hp
      have hd : decide (pss = pss') = true := by simp [hp]
      clear hp
      go_wp2_with (go_at_call 29; refine (l_eqMonomialSS _ _ _ _ _ HU.out HU'.out).mono ?_; rintro e w1 ⟨rfl, hb5⟩; rw [hd])
      go_ret
      exact ⟨ret_bool (by simp [H.out, HP.out]), BB.out.trans (hb5.mono BB.out.size)⟩
    · have HP := Lib.hid hp
      have hd : decide (pss = pss') = false := by simp [hp]
      clear hp
      go_wp2_with (go_at_call 29; refine (l_eqMonomialSS _ _ _ _ _ HU.out HU'.out).mono ?_; rintro e w1 ⟨rfl, hb5⟩; rw [hd])
      go_ret
      exact ⟨ret_bool (by simp [HP.out]), BB.out.trans (hb5.mono BB.out.size)⟩
  · have hb1 : (n != n') = true := by simp [h]
    have H := Lib.hid h
    clear h
    go_wp2_with fail
    go_ret
    exact ⟨ret_bool (by simp [H.out]), BB.out⟩
end Go.Proofs.Ytofabikjjkapmaa

set_option maxRecDepth 100000
set_option linter.unusedVariables false
set_option linter.unusedSimpArgs false
namespace Go.Proofs.Ytofabikjjkapmaa
open Go.RowKit Go.Maps

abbrev tXp : TypeId := 64
abbrev tPl : TypeId := 49
theorem xpLaid : laidOutB Try.prog = true := by kernel_rfl
theorem xpUnder : Try.prog.underlying tXp = some (.array 3 2) := by kernel_rfl
theorem plUnder : Try.prog.underlying tPl = some (.map tXp 2) := by kernel_rfl
theorem i6Under : Try.prog.underlying 2 = some (.int .i64) := by kernel_rfl
theorem xpLaw : Keyed Try.prog tXp := Keyed.of_law (deep_law_laid xpLaid (m := 2) (by omega) (of_decide_eq_true (by kernel_rfl)) (by kernel_rfl) (by rw [xpUnder]))
/-- the key of a variable -/
def xpV (i : Nat) : Value := .agg #[.int .i64 (if i = 0 then 1 else 0), .int .i64 (if i = 1 then 1 else 0), .int .i64 (if i = 2 then 1 else 0)]
def xpB (i j : Nat) : UInt8 := if j = 8 * i + 7 then 1 else 0
/-- .. as it reads -/
def xpK (i : Nat) : Lit := .string ((List.range 24).map (xpB i))
theorem xpKey {i : Nat} (hi : i < 3) : keyOf Try.prog tXp (xpV i) = some (xpK i) := by
  rcases i with _ | _ | _ | i
  · kernel_rfl
  · kernel_rfl
  · kernel_rfl
  · omega
theorem xpK_ne {i j : Nat} (hi : i < 3) (hj : j < 3) (h : i ≠ j) : xpK i ≠ xpK j := by
  intro e
  have h1 := xpKey hi
  rw [e] at h1
  have := xpLaw.inj h1 (xpKey hj)
  simp only [xpV, Value.agg.injEq] at this
  rcases i with _ | _ | _ | i <;> rcases j with _ | _ | _ | j <;> simp at this <;> omega
theorem xpK_isKey (i : Nat) : WideAt.IsKeyLit (xpK i) := trivial
/-- the map after k variables -/
def linD (row : List Int) : Nat → DataW Unit
  | 0 => .map []
  | k + 1 => (linD row k).put (xpK k) (.lit (.int .i64 (row.getD k 0)))
theorem linD_isMap (row : List Int) : ∀ k, IsMap (linD row k)
  | 0 => isMap_empty
  | k + 1 => (linD_isMap row k).put _ _
theorem linD_has {row : List Int} : ∀ {k : Nat} {l : Lit}, has (linD row k) l = true → ∃ i, i < k ∧ l = xpK i
  | 0, l, h => by simp [linD, has] at h
  | k + 1, l, h => by
    by_cases hl : l = xpK k
    · exact ⟨k, by omega, hl⟩
    · rw [linD, has_put_other hl] at h
      obtain ⟨i, hi, rfl⟩ := linD_has h
      exact ⟨i, by omega, rfl⟩
theorem linD_has' {row : List Int} : ∀ {k i : Nat}, i < k → k ≤ 3 → has (linD row k) (xpK i) = true
  | 0, i, h, _ => by omega
  | k + 1, i, h, hk => by
    by_cases hi : i = k
    · subst hi; exact has_put_same (linD_isMap row _) (xpK_isKey _) _
    · rw [linD, has_put_other (xpK_ne (by omega) (by omega) hi)]
      exact linD_has' (by omega) (by omega)
theorem linD_at {row : List Int} : ∀ {k i : Nat} (z : DataW Unit), i < k → k ≤ 3 → (linD row k).atKey (xpK i) z = .lit (.int .i64 (row.getD i 0))
  | 0, i, z, h, _ => by omega
  | k + 1, i, z, h, hk => by
    by_cases hi : i = k
    · subst hi; exact atKey_put_same (linD_isMap row _) (xpK_isKey _) _ _
    · rw [linD, atKey_put_other (xpK_ne (by omega) (by omega) hi)]
      exact linD_at z (by omega) (by omega)
abbrev OMp (w : World) (b : Nat) (row : List Int) (k : Nat) : Prop := w.ownsMap Try.prog tXp (plainElem Try.prog 2) b k (linD row k)

set_option maxHeartbeats 4000000 in
/-- the step of a range over such a map -/
theorem wpList_next_lin {w : World} {ops : Array Oper} {rest : List Oper} {o : Oper} {a : Act} {Q : Exit → Act → World → Prop} (hg : o.guard = none) (it : Operand) (hop : o.op = Op.next it false) (b r n : Nat) (row : List Int) (k : Nat) (hk : k ≤ 3) (left : Lit → Bool) (cnt : Nat)
    (hL : ∀ l, left l = true → ∃ i, i < k ∧ l = xpK i)
    (hit : a.eval it = .pointer (some ⟨r, 0, none⟩)) (h : w.ranges Try.prog tXp (plainElem Try.prog 2) b r n (linD row k) left cnt)
    (hDone : (∀ kl, left kl = false) → wpList Try.prog ops Q rest (a.put o.dst (.tuple #[.bool false])) w)
    (hMore : ∀ (i : Nat) (key : Value) (c : Int) (w' : World) (cnt' : Nat), i < k → key = xpV i → c = row.getD i 0 → left (xpK i) = true → w'.ranges Try.prog tXp (plainElem Try.prog 2) b r n (linD row k) (fun z => left z && !z.sameKey (xpK i)) cnt' → cnt' < cnt →
      w.grownBy w' (some r) → w'.heap.size = w.heap.size → (Instr.entry (.pointer (some ⟨r, 0, none⟩))).run Try.prog w' = .ok (.tuple #[key, .int .i64 c]) w' → wpList Try.prog ops Q rest (a.put o.dst (.tuple #[.bool true, key, .int .i64 c])) w') :
    wpList Try.prog ops Q (o :: rest) a w := by
  refine wpList_plain hg fun K' hK' => ?_
  unfold Oper.wp
  rcases h.next xpLaw o.type with ⟨h0, hl, hrun⟩ | ⟨key, v, kl, y, w', cnt', hkey, hlk, hv, hat, hrun, hrg, hlt, hgr, hsz, hen⟩
  · simp [execOp, hop, hit, hrun, Result.andThen]
    exact hK' _ _ (hDone hl)
  · obtain ⟨i, hi, rfl⟩ := hL kl hlk
    obtain rfl := xpLaw.inj hkey (xpKey (by omega))
    obtain ⟨c, rfl, rfl, -⟩ := plainElem_int_inv i6Under hv
    have e := (hat (.lit (.int .i64 0))).symm.trans (linD_at _ hi hk)
    simp only [DataW.lit.injEq, Lit.int.injEq, true_and] at e
    subst e
    simp [execOp, hop, hit, hrun, Result.andThen]
    exact hK' _ _ (hMore i _ _ w' cnt' hi rfl rfl hlk hrg hlt hgr hsz hen)
end Go.Proofs.Ytofabikjjkapmaa

set_option maxRecDepth 100000
namespace Go.Proofs
open Go.Shelf Go.RowKit Go.Lib Go.Sort
def Try.msort_ren : Go.Shelf.Ren := ⟨fun | 6 => 76 | 15 => 87 | 14 => 92 | 28 => 103 | 29 => 104 | 20 => 114 | 21 => 115 | 22 => 116 | 23 => 117 | 24 => 118 | 25 => 119 | 26 => 120 | 27 => 121 | 46 => 131 | 47 => 124 | 48 => 125 | 49 => 132 | 50 => 133 | 57 => 137 | n => n, fun | 22 => 45 | 24 => 82 | 25 => 86 | 3 => 3 | 39 => 97 | 0 => 0 | 53 => 113 | 55 => 68 | 4 => 4 | 46 => 106 | 45 => 105 | 50 => 110 | 5 => 5 | 9 => 9 | 66 => 126 | 70 => 130 | 76 => 136 | 77 => 137 | n => n, fun | n => n⟩
theorem Try.msort : Go.Proofs.SlLaysF0.n6 Try.prog Try.msort_ren := {
  mixed := by kernel_rfl
  f6 := ⟨Try.f76.name, by decide, Try.func76.trans (congrArg some (by kernel_rfl))⟩
  f14 := ⟨Try.f92.name, by decide, Try.func92.trans (congrArg some (by kernel_rfl))⟩
  f15 := Try.func87.trans (congrArg some (by kernel_rfl))
  f20 := ⟨Try.f114.name, by decide, Try.func114.trans (congrArg some (by kernel_rfl))⟩
  f21 := ⟨Try.f115.name, by decide, Try.func115.trans (congrArg some (by kernel_rfl))⟩
  f22 := ⟨Try.f116.name, by decide, Try.func116.trans (congrArg some (by kernel_rfl))⟩
  f23 := ⟨Try.f117.name, by decide, Try.func117.trans (congrArg some (by kernel_rfl))⟩
  f24 := ⟨Try.f118.name, by decide, Try.func118.trans (congrArg some (by kernel_rfl))⟩
  f25 := ⟨Try.f119.name, by decide, Try.func119.trans (congrArg some (by kernel_rfl))⟩
  f26 := ⟨Try.f120.name, by decide, Try.func120.trans (congrArg some (by kernel_rfl))⟩
  f27 := ⟨Try.f121.name, by decide, Try.func121.trans (congrArg some (by kernel_rfl))⟩
  f28 := Try.func103.trans (congrArg some (by kernel_rfl))
  f29 := Try.func104.trans (congrArg some (by kernel_rfl))
  f46 := ⟨Try.f131.name, by decide, Try.func131.trans (congrArg some (by kernel_rfl))⟩
  f47 := Try.func124.trans (congrArg some (by kernel_rfl))
  f48 := Try.func125.trans (congrArg some (by kernel_rfl))
  f49 := ⟨Try.f132.name, by decide, Try.func132.trans (congrArg some (by kernel_rfl))⟩
  f50 := ⟨Try.f133.name, by decide, Try.func133.trans (congrArg some (by kernel_rfl))⟩
  f57 := ⟨Try.f137.name, by decide, Try.func137.trans (congrArg some (by kernel_rfl))⟩
  t0 := Try.underlying0
  a0 := Try.isAgg0
  z0 := Try.sizeOf0
  v0 := Try.zeroValue0
  t3 := Try.underlying3
  a3 := Try.isAgg3
  z3 := Try.sizeOf3
  v3 := Try.zeroValue3
  t4 := Try.underlying4
  a4 := Try.isAgg4
  z4 := Try.sizeOf4
  v4 := Try.zeroValue4
  t5 := Try.underlying5
  a5 := Try.isAgg5
  z5 := Try.sizeOf5
  v5 := Try.zeroValue5
  t9 := Try.underlying9
  a9 := Try.isAgg9
  z9 := Try.sizeOf9
  v9 := Try.zeroValue9
  t22 := Try.underlying45
  a22 := Try.isAgg45
  z22 := Try.sizeOf45
  v22 := Try.zeroValue45
  t25 := Try.underlying86
  a25 := Try.isAgg86
  z25 := Try.sizeOf86
  v25 := Try.zeroValue86
  t39 := Try.underlying97
  a39 := Try.isAgg97
  z39 := Try.sizeOf97
  v39 := Try.zeroValue97
  t45 := Try.underlying105
  a45 := Try.isAgg105
  z45 := Try.sizeOf105
  v45 := Try.zeroValue105
  t46 := Try.underlying106
  a46 := Try.isAgg106
  z46 := Try.sizeOf106
  v46 := Try.zeroValue106
  t50 := Try.underlying110
  a50 := Try.isAgg110
  z50 := Try.sizeOf110
  v50 := Try.zeroValue110
  t53 := Try.underlying113
  a53 := Try.isAgg113
  z53 := Try.sizeOf113
  v53 := Try.zeroValue113
  t55 := Try.underlying68
  a55 := Try.isAgg68
  z55 := Try.sizeOf68
  v55 := Try.zeroValue68
  t66 := Try.underlying126
  a66 := Try.isAgg126
  z66 := Try.sizeOf126
  v66 := Try.zeroValue126
  t70 := Try.underlying130
  a70 := Try.isAgg130
  z70 := Try.sizeOf130
  v70 := Try.zeroValue130
  t76 := Try.underlying136
  a76 := Try.isAgg136
  z76 := Try.sizeOf136
  v76 := Try.zeroValue136
  t77 := Try.underlying137
  a77 := Try.isAgg137
  z77 := Try.sizeOf137
  v77 := Try.zeroValue137 }
end Go.Proofs

set_option maxRecDepth 100000
set_option linter.unusedVariables false
set_option linter.unusedSimpArgs false
namespace Go.Proofs.Ytofabikjjkapmaa
open Go.RowKit Go.Sort Go.Shelf

abbrev tMn : TypeId := 82
/-- the exponents of a variable -/
def unitV (n i : Nat) : List Int := (List.range n).map fun k => if k = i then 1 else 0
/-- a monomial of a linear form: its factor, and the exponents of its variable -/
def eLin (row : List Int) : Elt (Fin row.length) where
  k := 2
  D w B c x := ∃ u, c = [.int .i64 row[x], u] ∧ OwnInts w B tI u (unitV row.length x)
  len h := by obtain ⟨u, rfl, -⟩ := h; rfl
  one h := by
    obtain ⟨u, rfl, h1⟩ := h
    intro v hv
    simp at hv
    rcases hv with rfl | rfl
    · rfl
    · obtain ⟨A, c, rfl, -⟩ := h1.ints.open_
      cases A <;> rfl
  below h hb := by obtain ⟨u, rfl, h1⟩ := h; exact ⟨u, rfl, h1.below hb⟩
  mono h hB := by obtain ⟨u, rfl, h1⟩ := h; exact ⟨u, rfl, h1.mono hB⟩
  kept h hg hb h1 _ := by obtain ⟨u, rfl, a⟩ := h; exact ⟨u, rfl, a.kept hg (a.1.bt.ne hb h1)⟩
/-- the greater variable first -/
def ltV {n : Nat} (x y : Fin n) : Bool := decide (y < x)
theorem STO.ltV {n : Nat} : STO (ltV (n := n)) where
  irrefl x := by simp [Go.Proofs.Ytofabikjjkapmaa.ltV]
  trans h1 h2 := by simp [Go.Proofs.Ytofabikjjkapmaa.ltV] at *; omega
  tri h1 h2 := by simp [Go.Proofs.Ytofabikjjkapmaa.ltV] at *; exact Fin.le_antisymm h1 h2
def cmpV {n : Nat} (x y : Fin n) : Int := cmpL (unitV n x) (unitV n y)
theorem cmpV_small : ∀ n < 4, ∀ x y : Fin n, decide (cmpV x y < 0) = ltV x y := by decide
theorem cmpV_lt {n : Nat} (hn : n ≤ 3) (x y : Fin n) : decide (cmpV x y < 0) = ltV x y := cmpV_small n (by omega) x y

set_option maxHeartbeats 4000000 in
theorem i_cmpMono (W : World) (f g : Int) (u u' : Value) (ps qs : List Int) (hu : Ints W u ps) (hu' : Ints W u' qs) :
    Calls Try.prog 77 #[.agg #[.int .i64 f, u], .agg #[.int .i64 g, u']] W fun e w' => e = .returned (.int .i64 (cmpL ps qs)) ∧ ∃ q os, w' = grow (W.drewN q) os := by
  have HU := Lib.hid hu
  have HU' := Lib.hid hu'
  obtain ⟨A1, c1, rfl, -, -, -⟩ := hu.open_
  obtain ⟨A2, c2, rfl, -, -, -⟩ := hu'.open_
  have HBB := Lib.hid (fun o o' => show Below W.heap.size W ((W.alloc o).alloc o') from ((Below.refl W.heap.size W).alloc (Nat.le_refl _) _).alloc (by simp) _)
  clear hu hu'
  go_enter Try.func77, Try.ntmps77
  go_wp2_with (go_at_call 66; go_loud (refine (lib_Compare _ _ _ _ _ (HU.out.below (HBB.out _ _)) (HU'.out.below (HBB.out _ _))).mono ?_; rintro e w1 ⟨rfl, rfl⟩))
  go_ret
  exact ⟨rfl, 0, _, by rw [alloc_eq_grow, alloc_eq_grow, grow_grow]; rfl⟩

theorem lib_SortMono (row : List Int) (hn3 : row.length ≤ 3) (w : World) (B cap : Nat) (A : Option Addr) (css : List (List Value)) (xs : List (Fin row.length)) (h : OwnK w B tMn 2 (.slice A css.length cap) css) (hr : Elts (eLin row) w B css xs) (hn : css.length ≤ 1000000) :
    Calls Try.prog 76 #[.slice A css.length cap, .func (.func 77) #[] #[]] w fun e w' => e = .returned (.tuple #[]) ∧
      ∃ css', css'.length = css.length ∧ OwnK w' B tMn 2 (.slice A css.length cap) css' ∧ Elts (eLin row) w' B css' (srtS ltV xs) ∧ w.grownBy w' (Value.ownBlock (.slice A css.length cap)) ∧ css'.Perm css := by
  have aE : ∀ w, (isAgg tMn).run Try.prog w = .ok true w := fun w => by kernel_rfl
  have zE : ∀ w, (Go.sizeOf tMn).run Try.prog w = .ok 2 w := fun w => by kernel_rfl
  have eg : ∀ args w, (callFunc 77 args).run Try.prog w = .ok (.enter 77 args) w := enters_of Try.func77 (by kernel_rfl) rfl
  refine sort_eltsP Try.msort (eLin row) (e := tMn) aE zE ltV STO.ltV cmpV (cmpV_lt hn3) 77 eg (by decide) (by decide) (fun W B c c' x y hx hy => ?_) w B cap A css xs h hr hn
  obtain ⟨u, rfl, h1⟩ := hx
  obtain ⟨u', rfl, h2⟩ := hy
  exact i_cmpMono W _ _ u u' _ _ h1.ints h2.ints
end Go.Proofs.Ytofabikjjkapmaa

set_option maxRecDepth 100000
set_option linter.unusedVariables false
set_option linter.unusedSimpArgs false
namespace Go.Proofs.Ytofabikjjkapmaa
open Go.RowKit Go.Maps Go.Sort Go.Shelf

theorem T_mono : ElemK Try.prog 45 82 (.agg #[.int .i64 0, .slice none 0 0]) 2 32 := ⟨Try.underlying45, by kernel_rfl, rfl, by omega, by omega⟩
/-- the exponents' slice of a monomial's cells -/
def snd2 (c : List Value) : Value := c.getD 1 undef
def rowsOf (css : List (List Value)) : List Value := css.map snd2
/-- the variables with a factor -/
def nzV (row : List Int) (i : Fin row.length) : Bool := !decide (row[i] = 0)
/-- the monomials of a linear form, in order -/
def linX (row : List Int) : List (Fin row.length) := ((List.finRange row.length).reverse).filter (nzV row)
theorem linX_asc (row : List Int) : AscS ltV (linX row) := by
  unfold AscS linX
  refine List.Pairwise.filter _ ?_
  rw [List.pairwise_reverse]
  rw [List.pairwise_iff_getElem]
  intro i j hi hj hij
  simp [ltV]
  omega
theorem linX_of {row : List Int} {gone : List (Fin row.length)} (hnd : gone.Nodup) (hall : ∀ i, i ∈ gone) : srtS ltV (gone.filter (nzV row)) = linX row := by
  refine (srtS_unique STO.ltV (l := linX row) ?_ (linX_asc row)).symm
  unfold linX
  refine List.Perm.filter _ ?_
  refine (List.reverse_perm _).trans ?_
  refine (List.perm_ext_iff_of_nodup (List.nodup_finRange _) hnd).2 fun i => ?_
  simp [hall]
theorem xpV_cells (i n : Nat) (hi : i < n) (hn : n ≤ 3) : ∃ z0 z1 z2 : Int, xpV i = .agg #[.int .i64 z0, .int .i64 z1, .int .i64 z2] ∧ ([z0, z1, z2] : List Int).take n = unitV n i ∧ ∀ z ∈ [z0, z1, z2], In64 z := by
  refine ⟨_, _, _, rfl, ?_, ?_⟩
  · have h : n = 1 ∨ n = 2 ∨ n = 3 := by omega
    rcases h with rfl | rfl | rfl <;> simp [unitV, List.range_succ] <;> omega
  · intro z hz
    simp only [List.mem_cons, List.not_mem_nil, or_false] at hz
    unfold In64
    rcases hz with rfl | rfl | rfl <;> split <;> omega
theorem rows_apart {row : List Int} {w : World} {B M : Nat} {css : List (List Value)} {xs : List (Fin row.length)} (h : (rowsOf css).Pairwise Apart) (he : Elts (eLin row) w B css xs) (hM : w.heap.size ≤ M) {c : Value} {r : Value} (hr : ∀ b, r.ownBlock = some b → M ≤ b) : (rowsOf (css ++ [[c, r]])).Pairwise Apart := by
  unfold rowsOf
  rw [List.map_append]
  refine pairApart_snoc h fun x hx => ?_
  obtain ⟨d, hd, rfl⟩ := List.mem_map.1 hx
  obtain ⟨i, hi, rfl⟩ := List.getElem_of_mem hd
  obtain ⟨u, e, ho⟩ := he.2 i _ _ (List.getElem?_eq_getElem hi) (List.getElem?_eq_getElem (by rw [← he.1]; exact hi))
  rw [e]
  refine apart_of_lt (B := w.heap.size) (fun b hb => ho.1.lt b hb) (fun b hb => Nat.le_trans hM (hr b hb))

theorem nodup_len {n : Nat} {l : List (Fin n)} (h : l.Nodup) : l.length ≤ n := by
  have hp : ((List.finRange n).filter (fun i => decide (i ∈ l))).Perm l := (List.perm_ext_iff_of_nodup (List.Pairwise.filter _ (List.nodup_finRange n)) h).2 fun i => by simp
  have h1 := hp.length_eq
  have h2 := List.length_filter_le (fun i => decide (i ∈ l)) (List.finRange n)
  rw [List.length_finRange] at h2
  omega
/-- lists of cells lie in neither block of a range -/
theorem rg_ne {w : World} {b r n : Nat} {D : DataW Unit} {left : Lit → Bool} {cnt : Nat} (h : w.ranges Try.prog tXp (plainElem Try.prog 2) b r n D left cnt) {e : TypeId} {v : Value} (hv : BT w e v) : some b ≠ v.ownBlock ∧ some r ≠ v.ownBlock := by
  obtain ⟨es, clock, since, seen, c0, hb, _, _, _, hr, _⟩ := h
  rcases hv with hv | ⟨g, cur, fz, hv, hg⟩
  · rw [hv]; exact ⟨by simp, by simp⟩
  · rw [hv]
    refine ⟨fun e => ?_, fun e => ?_⟩
    · injection e with e; subst e; rw [hg] at hb; cases hb
    · injection e with e; subst e; rw [hg] at hr; cases hr
theorem rg_elts {w w' : World} {b r n B : Nat} {D : DataW Unit} {left : Lit → Bool} {cnt : Nat} {row : List Int} {css : List (List Value)} {xs : List (Fin row.length)} (h : w.ranges Try.prog tXp (plainElem Try.prog 2) b r n D left cnt) (he : Elts (eLin row) w B css xs) (hg : w.grownBy w' (some r)) : Elts (eLin row) w' B css xs :=
  ⟨he.1, fun i c x hc hx => by
    obtain ⟨u, rfl, ho⟩ := he.2 i c x hc hx
    exact ⟨u, rfl, (show OwnInts w' B tI u _ from ⟨ho.1.of_block fun b' hb => hg.block b' (ho.1.lt b' hb) (fun e => (rg_ne h ho.1.bt).2 (by rw [hb, e])), ho.2⟩)⟩⟩
theorem key_ints (W : World) (z0 z1 z2 : Int) (n : Nat) (hn : n ≤ 3) (zs : List Int) (hu : ([z0, z1, z2] : List Int).take n = zs) (hin : ∀ z ∈ [z0, z1, z2], In64 z) :
    Ints (W.alloc (.cells #[.int .i64 z0, .int .i64 z1, .int .i64 z2] tXp)) (.slice (some ⟨W.heap.size, 0, none⟩) n 3) zs := by
  have hl : zs.length = n := by rw [← hu, List.length_take]; simp; omega
  refine ⟨⟨some ⟨W.heap.size, 0, none⟩, 3, by simp [ints, hl], by simp [ints, hl]; exact hn, by simp [maxLen], fun k u hk => ⟨_, rfl, ?_⟩⟩, fun z hz => hin z (by rw [← hu] at hz; exact List.mem_of_mem_take hz)⟩
  rw [addr_add, (Blk.new W _ tXp).cell]
  have e : #[Value.int .i64 z0, .int .i64 z1, .int .i64 z2] = (ints [z0, z1, z2]).toArray := rfl
  rw [e, List.getElem?_toArray]
  rw [← hu] at hk
  unfold ints at *
  rw [List.map_take, List.getElem?_take] at hk
  split at hk
  · exact hk
  · cases hk
theorem left_step {n : Nat} {left : Lit → Bool} {gone : List (Fin n)} {i : Nat} (hi : i < n) (hn : n ≤ 3) (hL : ∀ l, left l = true ↔ ∃ i : Fin n, i ∉ gone ∧ l = xpK i) :
    ∀ l, (left l && !l.sameKey (xpK i)) = true ↔ ∃ j : Fin n, j ∉ gone ++ [⟨i, hi⟩] ∧ l = xpK j := by
  intro l
  rw [Bool.and_eq_true, hL]
  constructor
  · rintro ⟨⟨j, hj, rfl⟩, h⟩
    refine ⟨j, ?_, rfl⟩
    rw [List.mem_append, List.mem_singleton]
    rintro (h' | rfl)
    · exact hj h'
    · have e : (xpK i).sameKey (xpK i) = true := by simp [xpK, Lit.sameKey]
      rw [e] at h
      cases h
  · rintro ⟨j, hj, rfl⟩
    rw [List.mem_append, List.mem_singleton, not_or] at hj
    refine ⟨⟨j, hj.1, rfl⟩, ?_⟩
    have : xpK j ≠ xpK i := xpK_ne (by omega) (by omega) fun e => hj.2 (Fin.ext e)
    rw [sameKey_ne this]
    rfl

set_option maxHeartbeats 4000000 in
theorem i_part (w : World) (b : Nat) (row : List Int) (hn : row.length ≤ 3) (hm : OMp w b row row.length) :
    Calls Try.prog 47 #[.map (some b), .int .i64 (row.length : Nat)] w fun e w' => ∃ x css, e = .returned x ∧ OwnK w' w.heap.size tMn 2 x css ∧ Elts (eLin row) w' w.heap.size css (linX row) ∧ (rowsOf css).Pairwise Apart ∧ Below w.heap.size w w' := by
  have HM := Lib.hid hm
  have hbl := hm.lt
  have OL := Lib.hid (show OwnK (w.alloc (.cells #[] tMn)) w.heap.size tMn 2 (.slice (some ⟨w.heap.size, 0, none⟩) 0 0) [] from OwnK.lit w tMn 2 [] (fun c hc => by simp at hc) (by simp [maxLen]) #[] rfl)
  have e1 : (w.alloc (.cells #[] tMn)).heap.size = w.heap.size + 1 := by simp
  clear hm
  go_enter Try.func47, Try.ntmps47
  go_wp2_with (first
    | (at_range; refine wpList_range_own _ rfl _ tPl rfl tXp 2 xpLaw plUnder _ b row.length _ rfl (HM.out.alloc _) ?_; intro w0 hrg0 hg0 hs0)
    | go_in)
  go_frame
  rw [e1] at hrg0 hs0 ⊢
  go_loopw [5] (fun o wr => ∃ (left : Lit → Bool) (cnt : Nat) (gone : List (Fin row.length)) (css : List (List Value)), wr.ranges Try.prog tXp (plainElem Try.prog 2) b (w.heap.size + 1) row.length (linD row row.length) left cnt ∧
      gone.Nodup ∧ (∀ l, left l = true ↔ ∃ i : Fin row.length, i ∉ gone ∧ l = xpK i) ∧ OwnK wr w.heap.size tMn 2 o css ∧ Elts (eLin row) wr w.heap.size css (gone.filter (nzV row)) ∧ (rowsOf css).Pairwise Apart ∧ Below w.heap.size w wr)
    (fun _ wr => wr.rangeLeft b (w.heap.size + 1))
  case atStart =>
    have hg1 : w.heap.size ≤ (w.alloc (.cells #[] tMn)).heap.size := by simp
    have hb0 : Below w.heap.size w w0 := (below1 w _).grown hg0 hg1 (fun j hj => by cases hj)
    refine ⟨_, _, [], [], hrg0, List.nodup_nil, fun l => ⟨fun h => ?_, fun ⟨i, _, h⟩ => ?_⟩, OL.out.kept hg0 (.inr (by simp [Value.ownBlock])), Elts.nil _ _ _, List.Pairwise.nil, hb0⟩
    · obtain ⟨i, hi, h⟩ := linD_has h
      exact ⟨⟨i, hi⟩, List.not_mem_nil, h⟩
    · rw [h]; exact linD_has' i.2 hn
  case round =>
    obtain ⟨left, cnt, gone, css, hrg, hnd, hL, ho, he, hap, hb⟩ := hrel
    have HL := Lib.hid hL
    have HND := Lib.hid hnd
    have HE := Lib.hid he
    have HO := Lib.hid ho
    have HAP := Lib.hid hap
    have HB := Lib.hid hb
    obtain ⟨A4, c4, rfl, q1, q2⟩ := OwnK.open_ (k := 2) ho
    clear OL hrg0 hg0 hs0 hL hnd he ho hap hb
    go_wp2_with (first
      | (at_next; refine wpList_next_lin rfl _ rfl b (w.heap.size + 1) row.length row row.length hn left cnt (fun l h => by obtain ⟨i, -, h⟩ := (HL.out l).1 h; exact ⟨i, i.2, h⟩) rfl hrg ?_ ?_)
      | go_in)
    · intro hl0
      have hall : ∀ i, i ∈ gone := fun i => by
        by_cases hi : i ∈ gone
        · exact hi
        · have := (HL.out (xpK i)).2 ⟨i, hi, rfl⟩
          rw [hl0] at this
          cases this
      have hlen : css.length ≤ 1000000 := by
        rw [HE.out.1]
        refine Nat.le_trans (List.length_filter_le _ _) ?_
        have := nodup_len HND.out
        omega
      have HS := Lib.hid (lib_SortMono row hn wr w.heap.size c4 A4 css _ HO.out HE.out hlen)
      have HX := Lib.hid (linX_of HND.out hall)
      clear hl0 hall hrg
      go_wp2_with (go_at_call 76; go_loud (refine HS.out.mono ?_; rintro e w5 ⟨rfl, css', h1, h2, h3, h4, h5⟩; have H2 := Lib.hid h2; have H3 := Lib.hid h3; have H4 := Lib.hid h4; have H5 := Lib.hid h5; clear h2 h3 h4 h5))
      go_ret
      refine ⟨_, css', rfl, H2.out, ?_, ?_, ?_⟩
      · rw [← HX.out]; exact H3.out
      · exact pairApart_perm HAP.out (H5.out.map _)
      · exact HB.out.grown H4.out HB.out.size (fun j hj => HO.out.ge j (by rw [← hj]))
    · intro i key ca w1 cnt1 hi hkv hca hli hrg1 hlt hg1 hs1 hen
      obtain ⟨z0, z1, z2, hz, hu, hin⟩ := xpV_cells i row.length hi hn
      rw [hz] at hkv
      subst hkv
      have hlen : css.length ≤ 100 := by
        have h1 := HE.out.1
        have h2 := List.length_filter_le (nzV row) gone
        have := nodup_len HND.out
        omega
      obtain ⟨m, hmz⟩ : ∃ m, m = css.length := ⟨_, rfl⟩
      have HMZ := Lib.hid hmz
      rw [← hmz] at hlen ⊢
      have hgi : (⟨i, hi⟩ : Fin row.length) ∉ gone := by
        obtain ⟨j, hj, e⟩ := (HL.out _).1 hli
        by_cases hij : i = j
        · intro h; apply hj; have : j = ⟨i, hi⟩ := Fin.ext hij.symm; rw [this]; exact h
        · exact absurd e (xpK_ne (by omega) (by omega) hij)
      have HND2 := Lib.hid (show (gone ++ [(⟨i, hi⟩ : Fin row.length)]).Nodup from List.nodup_append.2 ⟨HND.out, List.pairwise_singleton _ _, fun a ha c hc => by rw [List.mem_singleton] at hc; subst hc; intro e; subst e; exact hgi ha⟩)
      have HL2 := Lib.hid (left_step hi hn HL.out)
      have HE1 := Lib.hid (rg_elts hrg HE.out hg1)
      have HO1 := Lib.hid (OwnK.kept HO.out hg1 (.inr fun e => (rg_ne hrg (OwnK.bt HO.out)).2 e.symm))
      have HB1 := Lib.hid (HB.out.grown hg1 HB.out.size (fun j hj => by cases hj; exact Nat.le_succ _))
      have HCA := Lib.hid (show row[(⟨i, hi⟩ : Fin row.length)] = ca by rw [hca]; simp [List.getD, hi])
      have HU := Lib.hid (key_ints w1 z0 z1 z2 row.length hn _ hu hin)
      have HUL := Lib.hid (show (unitV row.length i).length = row.length by simp [unitV])
      have HOM := Lib.hid (show OwnK w1 w.heap.size tMn 2 (.slice A4 m c4) css by rw [HMZ.out]; exact HO1.out)
      have HRG := Lib.hid hrg1
      have HLT := Lib.hid (And.intro hlt hrg.left_eq)
      have hal : Try.prog.arrayLen tXp = 3 := by kernel_rfl
      clear hu hin hz hca hli hgi hrg1 hg1 hlt hmz hs1
      by_cases hc0 : ca = 0
      · subst hc0
        go_wp2_with fail
        have hrg2 := HRG.out.alloc (.cells #[.int .i64 z0, .int .i64 z1, .int .i64 z2] tXp)
        have hba := below1 w1 (.cells #[.int .i64 z0, .int .i64 z1, .int .i64 z2] tXp)
        go_roundw
        case rel =>
          refine ⟨_, cnt1, _, css, hrg2, HND2.out, HL2.out, OwnK.below HOM.out hba, ?_, HAP.out, HB1.out.trans (hba.mono HB1.out.size)⟩
          rw [List.filter_append]
          have e : [(⟨i, hi⟩ : Fin row.length)].filter (nzV row) = [] := by simp only [List.filter_cons, nzV, HCA.out]; rfl
          rw [e, List.append_nil]
          exact HE1.out.below hba
        case measure => rw [hrg2.left_eq, HLT.out.2]; exact HLT.out.1
      · have hc1 : (ca != 0) = true := by simpa using hc0
        have HBA := Lib.hid (below1 w1 (.cells #[.int .i64 z0, .int .i64 z1, .int .i64 z2] tXp))
        have hsl : (0 : Int) ≤ (row.length : Int) := by omega
        have hsl3 : (row.length : Int) ≤ 3 := by omega
        go_wp2_with (first
          | (go_at_call 75; go_loud (refine (lib_Clone _ _ _ HU.out (by rw [HUL.out]; omega)).mono ?_; rintro e w3 ⟨x3, rfl, hx3, hb3⟩; obtain ⟨A5, c5, he5, -, -, -⟩ := hx3.ints.open_; rw [HUL.out] at he5; subst he5; have HX3 := Lib.hid hx3; have HB3 := Lib.hid hb3; clear hx3 hb3))
          | (at_builtin; go_loud (refine wpList_app1K T_mono (W := w3.alloc (.cells #[.int .i64 ca, .slice A5 row.length c5] tMn)) (c := [.int .i64 ca, .slice A5 row.length c5]) (css := css) ((OwnK.below (OwnK.below HOM.out HBA.out) HB3.out).below (below1 w3 _)) (by rw [← HMZ.out]; omega) (by have := HB1.out.size; have := HBA.out.size; have := HB3.out.size; simp; omega) rfl (by intro u hu; simp at hu; rcases hu with rfl | rfl <;> rfl) (lit_cells _ _ _ _ rfl) (by rfl) rfl (by rfl) (by rfl) ?_; intro v5 w5 hown5 hgr5; have HN5 := Lib.hid hown5; have HG5 := Lib.hid hgr5; clear hown5 hgr5)))
        have hb4 : Below w3.heap.size w3 (w3.alloc (.cells #[.int .i64 ca, .slice A5 row.length c5] tMn)) := below1 w3 _
        have hb34 := HB3.out.trans (hb4.mono HB3.out.size)
        have hb14 := HBA.out.trans (hb34.mono HBA.out.size)
        have hw1 : w.heap.size ≤ (w1.alloc (.cells #[.int .i64 z0, .int .i64 z1, .int .i64 z2] tXp)).heap.size := Nat.le_trans HB1.out.size HBA.out.size
        have hbt : BT _ tMn (.slice A4 m c4) := (OwnK.below HOM.out hb14).bt
        have hrg4 : World.ranges (w3.alloc (.cells #[.int .i64 ca, .slice A5 row.length c5] tMn)) Try.prog tXp (plainElem Try.prog 2) b (w.heap.size + 1) row.length (linD row row.length) (fun z => left z && !z.sameKey (xpK i)) cnt1 :=
          HRG.out.kept (row := none) ⟨hb14.os, hb14.tape, hb14.output, hb14.size, fun k hk _ => hb14.block k hk⟩ (by simp) (by simp)
        have hrg5 := hrg4.kept HG5.out.1 (rg_ne hrg4 hbt).1 (rg_ne hrg4 hbt).2
        have hE5 := (((HE1.out.below hb14).snoc (x := (⟨i, hi⟩ : Fin row.length)) (c := [.int .i64 ca, .slice A5 row.length c5]) ⟨_, by rw [HCA.out], ((HX3.out.below hb4).mono hw1)⟩)).kept HG5.out.1 hbt (by decide) (by decide)
        have hap := rows_apart (c := .int .i64 ca) (r := .slice A5 row.length c5) HAP.out HE1.out HBA.out.size (fun j hj => HX3.out.1.ge j hj)
        go_roundw
        case rel =>
          refine ⟨_, cnt1, _, _, hrg5, HND2.out, HL2.out, HN5.out, ?_, hap, HG5.out.below (HB1.out.trans (hb14.mono HB1.out.size)) (Nat.le_trans HB1.out.size hb14.size) (fun j hj => (OwnK.ge HOM.out) j hj)⟩
          rw [List.filter_append]
          have e : [(⟨i, hi⟩ : Fin row.length)].filter (nzV row) = [⟨i, hi⟩] := by simp only [List.filter_cons, nzV, HCA.out, decide_eq_false hc0]; rfl
          rw [e]
          exact hE5
        case measure => rw [hrg5.left_eq, HLT.out.2]; exact HLT.out.1
end Go.Proofs.Ytofabikjjkapmaa

set_option maxRecDepth 100000
set_option linter.unusedVariables false
set_option linter.unusedSimpArgs false
namespace Go.Proofs.Ytofabikjjkapmaa
open Go.RowKit Go.Maps

set_option maxHeartbeats 4000000 in
theorem i_linear (w : World) (v : Value) (row : List Int) (ha : Ints w v row) (hn : row.length ≤ 3) :
    Calls Try.prog 26 #[v] w fun e w' => e = .returned (.map (some w.heap.size)) ∧ OMp w' w.heap.size row row.length ∧ Below w.heap.size w w' := by
  have hmm := @run_makeMap Try.prog
  have HA := Lib.hid ha
  obtain ⟨A, c, rfl, l1, l2, h3⟩ := ha.open_
  have H3 := Lib.hid h3
  have OL := Lib.hid (show OMp (w.alloc (.map #[] 0)) w.heap.size row 0 from World.ownsMap_made _ _ _ _)
  have B1 := Lib.hid (below1 w (.map #[] 0))
  clear ha h3
  go_enter Try.func26, Try.ntmps26
  go_wp2_with fail
  go_loopw [10] (fun i wr => ∃ k : Nat, k ≤ row.length ∧ i = .int .i64 k ∧ OMp wr w.heap.size row k ∧ Below w.heap.size w wr) (fun i _ => row.length - (intOf i).toNat)
  case atStart => exact ⟨0, Nat.zero_le _, rfl, OL.out, B1.out⟩
  case round =>
    obtain ⟨k, hk, rfl, hown, hb⟩ := hrel
    have HO := Lib.hid hown
    have HB := Lib.hid hb
    clear OL hown hb
    by_cases hlt : k < row.length
    · obtain ⟨ad, ca, rfl, hc, hin, hce⟩ := H3.out k hlt
      have hcell : wr.cell? (ad.add k) = some (.int .i64 ca) := (HB.out.cell (World.block_lt_of_cell? w _ hce)).trans hce
      have HC := Lib.hid (show row.getD k 0 = ca by simp [List.getD, hc])
      have HI := Lib.hid hin
      have hki : (k : Int) < (row.length : Int) := by omega
      clear hc hin hce HA H3
      have hcase : k = 0 ∨ k = 1 ∨ k = 2 := by omega
      go_upto_region 5 with fail
      clear hcell hki
      rcases hcase with rfl | rfl | rfl
      · go_wp2_with (at_mapUpdate; refine wpList_mapUpdate_own _ rfl _ _ _ tPl rfl tXp 2 xpLaw plUnder _ w.heap.size 0 _ rfl (HO.out.alloc _) (by unfold maxLen; omega) _ _ (xpK 0) rfl rfl (xpKey (i := 0) (by omega)) _ [] (plainElem_int i6Under (WalkArith.wf_i64 HI.out)) ?_; intro w1 hown1 hgrow1)
        go_roundw
        case rel =>
          refine ⟨1, by omega, by go_num, ?_, HB.out.alloc (by exact HB.out.size) _ |>.grown hgrow1 (by simp; exact Nat.le_succ_of_le HB.out.size) (fun j hj => by cases hj; exact Nat.le_refl _)⟩
          rw [← HC.out] at hown1
          exact hown1
        case measure => simp [intOf]; omega
      · go_wp2_with (at_mapUpdate; refine wpList_mapUpdate_own _ rfl _ _ _ tPl rfl tXp 2 xpLaw plUnder _ w.heap.size 1 _ rfl (HO.out.alloc _) (by unfold maxLen; omega) _ _ (xpK 1) rfl rfl (xpKey (i := 1) (by omega)) _ [] (plainElem_int i6Under (WalkArith.wf_i64 HI.out)) ?_; intro w1 hown1 hgrow1)
        go_roundw
        case rel =>
          refine ⟨2, by omega, by go_num, ?_, HB.out.alloc (by exact HB.out.size) _ |>.grown hgrow1 (by simp; exact Nat.le_succ_of_le HB.out.size) (fun j hj => by cases hj; exact Nat.le_refl _)⟩
          rw [← HC.out] at hown1
          exact hown1
        case measure => simp [intOf]; omega
      · go_wp2_with (at_mapUpdate; refine wpList_mapUpdate_own _ rfl _ _ _ tPl rfl tXp 2 xpLaw plUnder _ w.heap.size 2 _ rfl (HO.out.alloc _) (by unfold maxLen; omega) _ _ (xpK 2) rfl rfl (xpKey (i := 2) (by omega)) _ [] (plainElem_int i6Under (WalkArith.wf_i64 HI.out)) ?_; intro w1 hown1 hgrow1)
        go_roundw
        case rel =>
          refine ⟨3, by omega, by go_num, ?_, HB.out.alloc (by exact HB.out.size) _ |>.grown hgrow1 (by simp; exact Nat.le_succ_of_le HB.out.size) (fun j hj => by cases hj; exact Nat.le_refl _)⟩
          rw [← HC.out] at hown1
          exact hown1
        case measure => simp [intOf]; omega
    · have : k = row.length := by omega
      subst this
      go_wp2_with fail
      go_ret
      exact ⟨rfl, HO.out, HB.out⟩
end Go.Proofs.Ytofabikjjkapmaa

set_option maxRecDepth 100000
set_option linter.unusedVariables false
set_option linter.unusedSimpArgs false
namespace Go.Proofs.Ytofabikjjkapmaa
open Go.RowKit

end Go.Proofs.Ytofabikjjkapmaa

set_option linter.unusedVariables false
set_option linter.unusedSimpArgs false
namespace Go.Proofs.Ytofabikjjkapmaa
open Go.RowKit

end Go.Proofs.Ytofabikjjkapmaa

set_option maxRecDepth 100000
set_option linter.unusedVariables false
set_option linter.unusedSimpArgs false
namespace Go.Proofs.Ytofabikjjkapmaa
open Go.RowKit

end Go.Proofs.Ytofabikjjkapmaa

set_option linter.unusedVariables false
set_option linter.unusedSimpArgs false
namespace Go.Proofs.Ytofabikjjkapmaa
open Go.RowKit

theorem Blk.grow {w w' : World} {g : Nat} {t : TypeId} {cs : Array Value} {v v' : Value} (h : Blk w g t cs) (hg : Grow w w' v v') (hne : v.ownBlock ≠ some g) : Blk w' g t cs :=
  (hg.1.block g h.lt (fun e => hne e.symm)).trans h
theorem Blk.both {w : World} {g : Nat} {t : TypeId} {cs : Array Value} {u : Value} (h : Blk w g t cs) (h0 : cs[0]? = some u) : w.cell? ⟨g, 0, none⟩ = some u ∧ w.frozen? ⟨g, 0, none⟩ = false := ⟨(h.cell 0).trans h0, h.frozen 0⟩

section
variable {w0 wr w2 w3 : World} {p N : Nat} {va vb v1 r : Value} {vs : List Value} {rows : List (List Int)} {zs Bs : List Int}
end
end Go.Proofs.Ytofabikjjkapmaa

set_option linter.unusedVariables false
set_option linter.unusedSimpArgs false
namespace Go.Proofs.Ytofabikjjkapmaa
open Go.RowKit

section
variable {w0 w w' w1 : World} {p : Nat} {va vb v1 r : Value} {vs : List Value} {rows : List (List Int)} {zs Bs : List Int} {z : Int}
end
end Go.Proofs.Ytofabikjjkapmaa

set_option linter.unusedVariables false
set_option linter.unusedSimpArgs false
namespace Go.Proofs.Ytofabikjjkapmaa
open Go.RowKit

/-- rows va and numbers vb of one's own, all made since N -/
structure Two (w : World) (N : Nat) (va vb : Value) (vs : List Value) (rows : List (List Int)) (Bs : List Int) : Prop where
  own : Own w N tL va vs
  rows : RowsOwn w N w.heap.size tI vs rows
  ws : OwnInts w N tI vb Bs
  ap : ∀ (k : Nat) (u : Value), vs[k]? = some u → Apart u vb

section
variable {w w' w1 : World} {N p q : Nat} {va vb v1 r : Value} {vs : List Value} {rows : List (List Int)} {zs Bs : List Int} {z : Int}
theorem Two.nil (w : World) (N : Nat) : Two w N (.slice none 0 0) (.slice none 0 0) [] [] [] :=
  ⟨Own.nil _ _ _, RowsOwn.nil _ _ _ _, OwnInts.nil _ _ _, fun k u hu => by simp at hu⟩
theorem Two.step (h : Two w N va vb vs rows Bs) (hb : Below w.heap.size w w') : Two w' N va vb vs rows Bs :=
  ⟨h.own.below hb, (h.rows.below hb).mono (Nat.le_refl _) hb.size, h.ws.below hb, h.ap⟩
theorem Two.kept (h : Two w N va vb vs rows Bs) (hc : Chg p q w w') (hq : q ≤ N) : Two w' N va vb vs rows Bs :=
  ⟨h.own.of_block fun b hb => hc.block b (h.own.lt b hb) (.inr (Nat.le_trans hq (h.own.ge b hb))), (h.rows.mono (Nat.le_refl _) hc.size).kept hc (.inr hq), ⟨h.ws.1.of_block fun b hb => hc.block b (h.ws.1.lt b hb) (.inr (Nat.le_trans hq (h.ws.1.ge b hb))), h.ws.2⟩, h.ap⟩
end
section
variable {w0 w w' w1 : World} {p : Nat} {va vb v1 r : Value} {vs : List Value} {rows : List (List Int)} {zs Bs : List Int}
end
section
variable {w0 w w9 : World} {p : Nat} {va vb v6 v9 : Value} {vs : List Value} {rows : List (List Int)} {Bs : List Int}
end
end Go.Proofs.Ytofabikjjkapmaa

set_option maxRecDepth 100000
set_option linter.unusedVariables false
set_option linter.unusedSimpArgs false
namespace Go.Proofs.Ytofabikjjkapmaa
open Go.RowKit

/-- what is known of a series that was checked -/
structure SerOk (n : Int) (xss : List (List Int)) (k : Int) : Prop where
  len : xss.length = 7
  row : ∀ zs ∈ xss, (zs.length : Int) = n ∧ Nums zs
  k0 : 0 ≤ k
  k1 : k ≤ 10006
  n1 : 1 ≤ n
  n3 : n ≤ 3
end Go.Proofs.Ytofabikjjkapmaa

