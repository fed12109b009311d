/- The walks of the laws' small functions over lists of lists and tableaus. |  | The laws' helpers, in one form each: for the walks that lawgen3.py prints. | Arguments that came in, opened to the words of the Mem text. | The law FnExactFreeConditions, walked: it returns true. | Level lists, plain: what the program and the reference reckon with them. No program in sight. -/
import Derived.Test.YtcfohigbpjcjaaaRows
import Derived.Test.YtcfohigbpjcjaaaG1
import Derived.WalkLawsBesides
import Derived.Deep.QuietTactic
import Derived.BigQuiet
import Derived.WalkKit
import Derived.ProofKit
import Derived.OpenShut
import Derived.Deep.RegionHeld3
set_option linter.unusedVariables false
set_option linter.unusedSimpArgs false
namespace Go.Proofs.Ytcfohigbpjcjaaa
open Go.RowKit

theorem T_row : ElemT Try.prog 22 37 (.slice none 0 0) 24 := ⟨Try.underlying22, by kernel_rfl, rfl, by omega⟩

abbrev tI : TypeId := 2
abbrev tL : TypeId := 37

/-- sizes: each list is short -/
def Short (xss : List (List Int)) : Prop := xss.length ≤ 4294967296 ∧ ∀ zs ∈ xss, zs.length ≤ 4294967296

theorem set_next {vs : List Value} {k n : Nat} {u z : Value} (hk : vs.length = k) (hn : k < n) : (vs ++ List.replicate (n - k) z).set k u = (vs ++ [u]) ++ List.replicate (n - (k + 1)) z := by
  subst hk
  rw [List.set_append_right _ _ (Nat.le_refl _), Nat.sub_self, List.append_assoc]
  congr 1
  rw [show n - vs.length = (n - (vs.length + 1)) + 1 by omega, List.replicate_succ]
  rfl

set_option maxHeartbeats 1000000 in
theorem l_toInt64SS (w : World) (a : Value) (xss : List (List Int)) (ha : Rows w a xss) (hsh : Short xss) :
    Calls Try.prog 9 #[a] w fun e w' => ∃ v, e = .returned v ∧ OR w' w.heap.size w'.heap.size tL tI v xss ∧ Below w.heap.size w w' := by
  obtain ⟨A, c, rfl, h1, h2, h3⟩ := ha.open_
  have hn := hsh.1
  have HS := Lib.hid hsh.2
  have H3 := Lib.hid h3
  clear h3 ha hsh
  go_enter Try.func9, Try.ntmps9
  go_wp2_with (at_make; refine wpList_mk rfl _ _ _ rfl _ _ _ T_row xss.length _ rfl rfl rfl (by omega) _ ?_; intro w1 hown hb hs1; have HOWN := Lib.hid hown; have HB1 := Lib.hid hb; clear hown hb)
  go_loopw [4] (fun i wr => ∃ (k : Nat) (vs : List Value), k ≤ xss.length ∧ i = .int .i64 k ∧ Own wr w.heap.size tL (.slice (some ⟨w.heap.size, 0, none⟩) xss.length xss.length) (vs ++ List.replicate (xss.length - k) (.slice none 0 0)) ∧
    RowsOwn wr w.heap.size wr.heap.size tI vs (xss.take k) ∧ Below w.heap.size w wr ∧ w.heap.size < wr.heap.size) (fun i _ => xss.length - (intOf i).toNat)
  case atStart => exact ⟨0, [], Nat.zero_le _, rfl, by simpa using HOWN.out, by simpa using RowsOwn.nil _ _ _ _, HB1.out, hs1⟩
  case round =>
    obtain ⟨k, vs, hk, rfl, hown, hrows, hb, hsz⟩ := hrel
    have hvl : vs.length = k := by rw [hrows.1]; simp; omega
    have HO := Lib.hid hown
    have HR := Lib.hid hrows
    have HB := Lib.hid hb
    have HV := Lib.hid hvl
    clear hown hrows hb hvl
    by_cases hlt : k < xss.length
    · obtain ⟨ad, u, zs, rfl, hz, hu, hc0⟩ := H3.out k hlt
      have hc : wr.cell? (ad.add k) = some u := by
        rw [HB.out.cell (by rw [block_add]; have := World.block_lt_of_cell? w _ hc0; rwa [block_add] at this)]; exact hc0
      have HU := Lib.hid (hu.below HB.out)
      have hzs := HS.out zs (List.mem_of_getElem? hz)
      have HZ := Lib.hid hz
      clear hz hu hc0
      go_wp2_with fail
      refine (l_toInt64S _ _ _ HU.out hzs).mono ?_
      rintro e w2 ⟨v2, rfl, ho2, hb2⟩
      obtain ⟨A2, c2, hv2, _, _, _⟩ := ho2.ints.open_
      subst hv2
      have HO2 := Lib.hid (HO.out.below hb2)
      obtain ⟨u0, hu0, hcg, hfg, hg2, hg1, hown', hgr⟩ := HO2.out.storeAt (k := k) (by simp [HV.out]; omega) (.slice A2 zs.length c2)
      rw [set_next HV.out hlt] at hown'
      have hsz2 : w.heap.size < w2.heap.size := Nat.lt_of_lt_of_le hsz hb2.size
      have hne : (Value.slice A2 zs.length c2).ownBlock = none ∨ (Value.slice A2 zs.length c2).ownBlock ≠ some w.heap.size := by
        rcases ho2.1.cases with ⟨e, _⟩ | ⟨g, cap, cur, e, hgge, _⟩
        · exact .inl (by rw [e]; rfl)
        · refine .inr ?_
          rw [e]
          simp only [Value.ownBlock, ne_eq, Option.some.injEq]
          omega
      have HN := Lib.hid hown'
      have hr2 := (HR.out.below hb2).mono (Nat.le_refl _) hb2.size
      have hr3 := hr2.snoc (u := .slice A2 zs.length c2) (zs := zs) ⟨ho2.mono (by omega), ho2.1.lt⟩ (fun j u' hu' => by
        have hx : (xss.take k)[j]? = some ((xss.take k)[j]'(by rw [← HR.out.1]; exact (List.getElem?_eq_some_iff.1 hu').1)) := List.getElem?_eq_getElem _
        exact apart_of_lt (HR.out.2.1 j u' _ hu' hx).1.1.lt ho2.1.ge)
      have hr4 := hr3.other hgr (fun j u' hu' => by
        by_cases hj : j < vs.length
        · rw [List.getElem?_append_left hj] at hu'
          have hx : (xss.take k)[j]? = some ((xss.take k)[j]'(by rw [← HR.out.1]; exact hj)) := List.getElem?_eq_getElem _
          exact Own.ne_of_type (HR.out.2.1 j u' _ hu' hx).1.1 HO.out (by decide)
        · have hj' := (List.getElem?_eq_some_iff.1 hu').1
          simp at hj'
          have : j = vs.length := by omega
          subst this
          rw [List.getElem?_append_right (Nat.le_refl _)] at hu'
          simp at hu'
          subst hu'
          exact hne)
      have HRN := Lib.hid hr4
      have HBN := Lib.hid ((HB.out.trans (hb2.mono (Nat.le_of_lt hsz))).setCell (p := ⟨w.heap.size, k, none⟩) (Nat.le_refl _) (.slice A2 zs.length c2))
      clear ho2 hb2 hu0 hg1 hown' hgr hne hr2 hr3 hr4
      go_wp2
      go_roundw
      case rel =>
        refine ⟨k + 1, vs ++ [.slice A2 zs.length c2], by omega, by go_num, HN.out, ?_, HBN.out, by simpa [World.setCell] using hsz2⟩
        rw [List.take_add_one, HZ.out]
        exact (HRN.out).mono (Nat.le_refl _) (by simp [World.setCell])
      case measure => simp [intOf]; omega
    · have : k = xss.length := by omega
      subst this
      go_wp2
      go_ret
      refine ⟨_, rfl, ⟨vs, by simpa using HO.out, fun b hb => by simp [Value.ownBlock] at hb; omega, by simpa using HR.out⟩, HB.out⟩
theorem rtake_succ {xs ys : List (List Int)} {k : Nat} {x y : List Int} (h : xs.take k = ys.take k) (hx : xs[k]? = some x) (hy : ys[k]? = some y) (e : x = y) : xs.take (k + 1) = ys.take (k + 1) := by
  rw [List.take_add_one, List.take_add_one, h, hx, hy, e]

set_option maxHeartbeats 1000000 in
theorem l_eqInt64SS (w : World) (a b : Value) (xs ys : List (List Int)) (ha : Rows w a xs) (hb : Rows w b ys) :
    Calls Try.prog 12 #[a, b] w fun e w' => e = .returned (.bool (decide (xs = ys))) ∧ ∃ n, w' = w.drewN n := by
  obtain ⟨A, c, rfl, h1, h2, h3⟩ := ha.open_
  obtain ⟨B, d, rfl, g1, g2, g3⟩ := hb.open_
  clear ha hb
  have H3 := Lib.hid h3
  have G3 := Lib.hid g3
  clear h3 g3
  by_cases hl : xs.length = ys.length
  · have hl' : (((xs.length : Nat) : Int) != ((ys.length : Nat) : Int)) = false := by simp [hl]
    have HL := Lib.hid hl
    clear hl
    have g4 : ys.length ≤ xs.length := by rw [HL.out]; omega
    have g5 : xs.length ≤ ys.length := by rw [HL.out]; omega
    go_enter Try.func12, Try.ntmps12
    go_wp2
    go_loopw [5] (fun i wr => ∃ k n : Nat, k ≤ xs.length ∧ i = .int .i64 k ∧ xs.take k = ys.take k ∧ wr = w.drewN n) (fun i _ => xs.length - (intOf i).toNat)
    case atStart => exact ⟨0, 0, Nat.zero_le _, rfl, rfl, rfl⟩
    case round =>
      obtain ⟨k, n, hk, rfl, ht, rfl⟩ := hrel
      have HT := Lib.hid ht
      clear ht
      by_cases hlt : k < xs.length
      · obtain ⟨ad, u, z, rfl, hz, hz2, hc⟩ := H3.out k hlt
        obtain ⟨ad', u', y, rfl, hy, hy2, hc'⟩ := G3.out k (by omega)
        have HZ := Lib.hid hz
        have HY := Lib.hid hy
        have HZ2 := Lib.hid hz2
        have HY2 := Lib.hid hy2
        clear hz hy hz2 hy2
        go_wp2_with fail
        go_quiet ((go_at_call 22; exact quiet_more (l_eqInt64S _ _ _ _ _ (HZ2.out.drewN _) (HY2.out.drewN _))))
        go_wp2_with fail
        · have hne : (!decide (z = y)) = true := by assumption
          go_ret
          refine ⟨ret_bool ?_, _, World.drewN_drewN _ _ _⟩
          symm
          simp only [decide_eq_false_iff_not]
          rintro rfl
          have := HZ.out.symm.trans HY.out
          simp at this hne
          exact hne this
        · have hne : (!decide (z = y)) = false := by assumption
          go_roundw
          case rel => exact ⟨k + 1, _, by omega, by go_num, rtake_succ HT.out HZ.out HY.out (by simpa using hne), rfl⟩
          case measure => simp [intOf]; omega
      · have : k = xs.length := by omega
        subst this
        go_wp2_with fail
        go_ret
        refine ⟨ret_bool ?_, _, rfl⟩
        have e := HT.out
        rw [List.take_length, List.take_of_length_le (by omega)] at e
        simp [e]
  · have hl' : (((xs.length : Nat) : Int) != ((ys.length : Nat) : Int)) = true := by simp; omega
    have HL := Lib.hid hl
    clear hl
    go_enter Try.func12, Try.ntmps12
    go_wp2
    go_ret
    refine ⟨ret_bool ?_, 0, rfl⟩
    have := HL.out
    symm
    simp only [decide_eq_false_iff_not]
    rintro rfl
    exact this rfl

def szI (left : Int) (n : Nat) : Int := if left - n < 0 then -1 else left - n
def szR : Int → List (List Int) → Int
  | left, [] => left
  | left, zs :: r => if szI left zs.length < 0 then -1 else szR (szI left zs.length) r
def szRows (left : Int) (xss : List (List Int)) : Int := if left - xss.length < 0 then -1 else szR (left - xss.length) xss
theorem szI_le {left : Int} {n : Nat} (h : 0 ≤ szI left n) : (n : Int) ≤ left ∧ szI left n ≤ left := by
  unfold szI at *
  split at h <;> omega
theorem szR_le : ∀ {xss : List (List Int)} {left : Int}, 0 ≤ szR left xss → szR left xss ≤ left ∧ ∀ zs ∈ xss, (zs.length : Int) ≤ left
  | [], left, h => ⟨Int.le_refl _, fun zs hz => by simp at hz⟩
  | zs :: r, left, h => by
    unfold szR at h ⊢
    split at h
    · omega
    · rename_i h1
      rw [if_neg h1]
      have h2 := szI_le (left := left) (n := zs.length) (by omega)
      have h3 := szR_le (xss := r) h
      refine ⟨by omega, fun ys hy => ?_⟩
      rcases List.mem_cons.1 hy with rfl | hy
      · exact h2.1
      · have := h3.2 ys hy; omega
theorem szRows_short {left : Int} {xss : List (List Int)} (h : 0 ≤ szRows left xss) (h1 : left ≤ 4294967296) : Short xss ∧ szRows left xss ≤ left := by
  unfold szRows at *
  split at h
  · omega
  · rename_i h0
    have := szR_le h
    rw [if_neg h0]
    exact ⟨⟨by omega, fun zs hz => by have := this.2 zs hz; omega⟩, by omega⟩

set_option maxHeartbeats 400000 in
theorem l_szInt64S (w : World) (a : Value) (zs : List Int) (left : Int) (ha : Ints w a zs) (h0 : 0 ≤ left) (h1 : left ≤ 4294967296) :
    Calls Try.prog 30 #[a, .int .i64 left] w fun e w' => e = .returned (.int .i64 (szI left zs.length)) ∧ w = w' := by
  obtain ⟨A, c, rfl, g1, g2, g3⟩ := ha.open_
  clear ha g3
  by_cases h : left - zs.length < 0
  · have HF := Lib.hid (show szI left zs.length = -1 by simp [szI, h])
    go_enter Try.func30, Try.ntmps30
    go_wp2
    go_ret
    exact ⟨ret_int HF.out.symm, rfl⟩
  · have HF := Lib.hid (show szI left zs.length = left - zs.length by simp [szI, h])
    go_enter Try.func30, Try.ntmps30
    go_wp2
    go_ret
    exact ⟨ret_int HF.out.symm, rfl⟩

theorem szR_drop {left : Int} {xss : List (List Int)} {k : Nat} {zs : List Int} (h : xss[k]? = some zs) : szR left (xss.drop k) = if szI left zs.length < 0 then -1 else szR (szI left zs.length) (xss.drop (k + 1)) := by
  have hk := (List.getElem?_eq_some_iff.1 h)
  obtain ⟨hk1, hk2⟩ := hk
  rw [List.drop_eq_getElem_cons hk1, hk2]
  rfl

set_option maxHeartbeats 1000000 in
theorem l_szInt64SS (w : World) (a : Value) (xss : List (List Int)) (left : Int) (ha : Rows w a xss) (h0 : 0 ≤ left) (h1 : left ≤ 4294967296) :
    Calls Try.prog 7 #[a, .int .i64 left] w fun e w' => e = .returned (.int .i64 (szRows left xss)) ∧ w = w' := by
  obtain ⟨A, c, rfl, g1, g2, g3⟩ := ha.open_
  have G3 := Lib.hid g3
  clear ha g3
  by_cases h : left - xss.length < 0
  · have HF := Lib.hid (show szRows left xss = -1 by simp [szRows, h])
    go_enter Try.func7, Try.ntmps7
    go_wp2
    go_ret
    exact ⟨ret_int HF.out.symm, rfl⟩
  · have HF := Lib.hid (show szRows left xss = szR (left - xss.length) xss by simp [szRows, h])
    go_enter Try.func7, Try.ntmps7
    go_wp2
    go_loop [1, 5] (fun l i => ∃ (k : Nat) (m : Int), k ≤ xss.length ∧ i = .int .i64 k ∧ l = .int .i64 m ∧ 0 ≤ m ∧ m ≤ 4294967296 ∧ Hid (szR m (xss.drop k) = szR (left - xss.length) xss)) (fun _ i => xss.length - (intOf i).toNat)
    case atStart => exact ⟨0, _, Nat.zero_le _, rfl, rfl, by omega, by omega, rfl⟩
    case round =>
      obtain ⟨k, m, hk, rfl, rfl, hm0, hm1, hI⟩ := hrel
      clear h h0 h1
      by_cases hlt : k < xss.length
      · obtain ⟨ad, u, zs, rfl, hz, hu, hc⟩ := G3.out k hlt
        have HD := Lib.hid (szR_drop (left := m) hz)
        have HU := Lib.hid hu
        clear hz hu
        by_cases hs : szI m zs.length < 0
        · have HS := Lib.hid hs
          go_wp2_with (go_at_call 30; refine (l_szInt64S _ _ _ _ HU.out (by omega) (by omega)).mono ?_; rintro e w' ⟨rfl, rfl⟩)
          go_ret
          refine ⟨ret_int ?_, rfl⟩
          rw [HF.out, ← hI.out, HD.out, if_pos HS.out]
        · have hle := szI_le (left := m) (n := zs.length) (by omega)
          have HS := Lib.hid hs
          go_wp2_with (go_at_call 30; refine (l_szInt64S _ _ _ _ HU.out (by omega) (by omega)).mono ?_; rintro e w' ⟨rfl, rfl⟩)
          go_round
          case rel =>
            refine ⟨k + 1, _, by omega, by go_num, rfl, by omega, by omega, ?_⟩
            unfold Hid
            rw [← hI.out, HD.out, if_neg (by have := HS.out; omega)]
          case measure => simp [intOf]; omega
      · have : k = xss.length := by omega
        subst this
        go_wp2_with fail
        go_ret
        refine ⟨ret_int ?_, rfl⟩
        rw [HF.out, ← hI.out, List.drop_length]
        rfl

/-- a tableau that came in -/
def TabArg (w : World) (v : Value) (A : List (List Int)) (Bs : List Int) : Prop := ∃ va vb, v = .agg #[va, vb] ∧ Rows w va A ∧ Ints w vb Bs
/-- an owned tableau: the rows, the row of rows and the weights lie in blocks of their own -/
def OT (w : World) (B C : Nat) (v : Value) (A : List (List Int)) (Bs : List Int) : Prop :=
  ∃ va vb vs, v = .agg #[va, vb] ∧ Own w B tL va vs ∧ (∀ b, va.ownBlock = some b → b < C) ∧ RowsOwn w B C tI vs A ∧ OI w B C tI vb Bs ∧ ∀ (k : Nat) (u : Value), vs[k]? = some u → Apart u vb

section
variable {w w' : World} {B C B' C' : Nat} {v : Value} {A : List (List Int)} {Bs : List Int}
theorem TabArg.below (h : TabArg w v A Bs) (hb : Below w.heap.size w w') : TabArg w' v A Bs := by
  obtain ⟨va, vb, rfl, h1, h2⟩ := h
  exact ⟨va, vb, rfl, h1.below hb, h2.below hb⟩
theorem TabArg.drewN (h : TabArg w v A Bs) (n : Nat) : TabArg (w.drewN n) v A Bs := h
theorem OT.arg (h : OT w B C v A Bs) : TabArg w v A Bs := by
  obtain ⟨va, vb, vs, rfl, h1, h2, h3, h4, h5⟩ := h
  exact ⟨va, vb, rfl, OR.rows ⟨vs, h1, h2, h3⟩, h4.ints⟩
theorem OT.below (h : OT w B C v A Bs) (hb : Below w.heap.size w w') : OT w' B C v A Bs := by
  obtain ⟨va, vb, vs, rfl, h1, h2, h3, h4, h5⟩ := h
  exact ⟨va, vb, vs, rfl, h1.below hb, h2, h3.below hb, h4.below hb, h5⟩
theorem OT.drewN (h : OT w B C v A Bs) (n : Nat) : OT (w.drewN n) B C v A Bs := h
theorem OT.kept (h : OT w B C v A Bs) (hc : Chg B' C' w w') (hd : C ≤ B' ∨ C' ≤ B) : OT w' B C v A Bs := by
  obtain ⟨va, vb, vs, rfl, h1, h2, h3, h4, h5⟩ := h
  exact ⟨va, vb, vs, rfl, h1.of_block fun b hb => hc.block b (h1.lt b hb) (by have := h1.ge b hb; have := h2 b hb; omega), h2, h3.kept hc hd, h4.kept hc hd, h5⟩
theorem OT.mono (h : OT w B C v A Bs) (h1 : B' ≤ B) (h2 : C ≤ C') : OT w B' C' v A Bs := by
  obtain ⟨va, vb, vs, rfl, g1, g2, g3, g4, g5⟩ := h
  exact ⟨va, vb, vs, rfl, g1.mono h1, fun b hb => Nat.lt_of_lt_of_le (g2 b hb) h2, g3.mono h1 h2, g4.mono h1 h2, g5⟩
theorem RowsOwn.apart {M : Nat} {vs : List Value} {u' : Value} {e : TypeId} (h : RowsOwn w B C e vs A) (hu : ∀ b, u'.ownBlock = some b → C ≤ b ∨ b < B) : ∀ (k : Nat) (u : Value), vs[k]? = some u → Apart u u' := by
  intro k u hk
  have hx : A[k]? = some (A[k]'(by rw [← h.1]; exact (List.getElem?_eq_some_iff.1 hk).1)) := List.getElem?_eq_getElem _
  have ho := h.2.1 k u _ hk hx
  unfold Apart
  cases hb : u.ownBlock with
  | none => exact .inl rfl
  | some b =>
    refine .inr fun e => ?_
    have h1 := ho.2 b hb
    have h2 := ho.1.1.ge b hb
    have h3 := hu b e.symm
    omega
/-- the rows lie before M, the weights from M on -/
theorem OT.of_M {M : Nat} {va vb : Value} (h0 : B ≤ M) (h1 : M ≤ C) (hA : OR w B M tL tI va A) (hB : OI w M C tI vb Bs) : OT w B C (.agg #[va, vb]) A Bs := by
  obtain ⟨vs, g1, g2, g3⟩ := hA
  exact ⟨va, vb, vs, rfl, g1, fun b hb => Nat.lt_of_lt_of_le (g2 b hb) h1, g3.mono (Nat.le_refl _) h1, hB.mono h0 (Nat.le_refl _), g3.apart (M := M) fun b hb => .inl (hB.1.1.ge b hb)⟩
/-- the weights lie before M, the rows from M on -/
theorem OT.of_M' {M : Nat} {va vb : Value} (h0 : B ≤ M) (h1 : M ≤ C) (hB : OI w B M tI vb Bs) (hA : OR w M C tL tI va A) : OT w B C (.agg #[va, vb]) A Bs := by
  obtain ⟨vs, g1, g2, g3⟩ := hA
  exact ⟨va, vb, vs, rfl, g1.mono h0, g2, g3.mono h0 (Nat.le_refl _), hB.mono (Nat.le_refl _) h1, g3.apart (M := M) fun b hb => .inr (hB.2 b hb)⟩
end

def szTab (left : Int) (A : List (List Int)) (Bs : List Int) : Int := if szRows left A < 0 then -1 else szI (szRows left A) Bs.length
theorem szTab_short {left : Int} {A : List (List Int)} {Bs : List Int} (h : 0 ≤ szTab left A Bs) (h1 : left ≤ 4294967296) : Short A ∧ Bs.length ≤ 4294967296 ∧ szTab left A Bs ≤ left := by
  unfold szTab at *
  split at h
  · omega
  · rename_i h0
    rw [if_neg h0]
    have a1 := szRows_short (by omega : 0 ≤ szRows left A) h1
    have a2 := szI_le h
    exact ⟨a1.1, by omega, by omega⟩

theorem OT.open_ {w : World} {B C : Nat} {v : Value} {A : List (List Int)} {Bs : List Int} (h : OT w B C v A Bs) : ∃ Aa ca Ab cb, v = .agg #[.slice Aa A.length ca, .slice Ab Bs.length cb] := by
  obtain ⟨va, vb, rfl, h1, h2⟩ := h.arg
  obtain ⟨Aa, ca, rfl, _⟩ := h1.open_
  obtain ⟨Ab, cb, rfl, _⟩ := h2.open_
  exact ⟨_, _, _, _, rfl⟩
theorem TabArg.open_ {w : World} {v : Value} {A : List (List Int)} {Bs : List Int} (h : TabArg w v A Bs) : ∃ Aa ca Ab cb, v = .agg #[.slice Aa A.length ca, .slice Ab Bs.length cb] := by
  obtain ⟨va, vb, rfl, h1, h2⟩ := h
  obtain ⟨Aa, ca, rfl, _⟩ := h1.open_
  obtain ⟨Ab, cb, rfl, _⟩ := h2.open_
  exact ⟨_, _, _, _, rfl⟩
end Go.Proofs.Ytcfohigbpjcjaaa
/- The laws' marking and holding, at lists of lists and at tableaus. -/
set_option linter.unusedVariables false
set_option linter.unusedSimpArgs false
namespace Go.Proofs.Ytcfohigbpjcjaaa
open Go.RowKit

def tot (xss : List (List Int)) : Nat := xss.flatten.length
theorem tot_cons (zs : List Int) (r : List (List Int)) : tot (zs :: r) = zs.length + tot r := by simp [tot]
theorem tot_take_succ {xss : List (List Int)} {j : Nat} {zs : List Int} (h : xss[j]? = some zs) : tot (xss.take (j + 1)) = tot (xss.take j) + zs.length := by
  unfold tot
  rw [List.take_add_one, h]; simp
theorem tot_take_le (xss : List (List Int)) (j : Nat) : tot (xss.take j) ≤ tot xss := by
  unfold tot
  conv => rhs; rw [← List.take_append_drop j xss]
  rw [List.flatten_append, List.length_append]; omega
theorem len_le_tot {xss : List (List Int)} {j : Nat} {zs : List Int} (h : xss[j]? = some zs) : tot (xss.take j) + zs.length ≤ tot xss := by
  have := tot_take_le xss (j + 1)
  rw [tot_take_succ h] at this
  exact this

def markRows : Int → List (List Int) → List (List Int)
  | _, [] => []
  | k, zs :: r => marks k zs.length :: markRows (k + (zs.length : Int)) r
theorem markRows_len : ∀ (k : Int) (xss : List (List Int)), (markRows k xss).length = xss.length
  | _, [] => rfl
  | k, zs :: r => by simp [markRows, markRows_len _ r]
theorem markRows_get : ∀ (k : Int) (xss : List (List Int)) (j : Nat) (zs : List Int), xss[j]? = some zs → (markRows k xss)[j]? = some (marks (k + (tot (xss.take j) : Nat)) zs.length)
  | _, [], j, zs, h => by simp at h
  | k, ys :: r, 0, zs, h => by simp at h; subst h; simp [markRows, tot]
  | k, ys :: r, j + 1, zs, h => by
    simp only [List.getElem?_cons_succ] at h
    simp only [markRows, List.getElem?_cons_succ, List.take_succ_cons]
    rw [markRows_get _ r j zs h, tot_cons]
    congr 2
    push_cast
    omega
theorem szR_tot : ∀ {xss : List (List Int)} {left : Int}, 0 ≤ szR left xss → ((tot xss : Nat) : Int) + szR left xss ≤ left
  | [], left, h => by simp [tot, szR]
  | zs :: r, left, h => by
    unfold szR at h ⊢
    rw [tot_cons]
    split at h
    · omega
    · rename_i h1
      rw [if_neg h1]
      have h2 : szI left zs.length = left - zs.length := by unfold szI at h1 ⊢; split <;> simp_all
      rw [h2] at h ⊢
      have := szR_tot h
      push_cast
      omega
theorem szTab_tot {left : Int} {A : List (List Int)} {Bs : List Int} (h : 0 ≤ szTab left A Bs) (hl : left ≤ 1048576) : tot A ≤ 1073741824 ∧ Bs.length ≤ 1073741824 := by
  unfold szTab szRows at h
  by_cases h0 : left - A.length < 0
  · rw [if_pos h0, if_pos (by omega)] at h; omega
  · rw [if_neg h0] at h
    by_cases h1 : szR (left - A.length) A < 0
    · rw [if_pos h1] at h; omega
    · rw [if_neg h1] at h
      have := szR_tot (left := left - A.length) (xss := A) (by omega)
      unfold szI at h
      split at h
      · omega
      · constructor <;> omega
/-- the first j lists are marked -/
def markTo (k : Int) (xss : List (List Int)) (j : Nat) : List (List Int) := (markRows k xss).take j ++ xss.drop j
theorem markTo_zero (k : Int) (xss : List (List Int)) : markTo k xss 0 = xss := by simp [markTo]
theorem markTo_all (k : Int) (xss : List (List Int)) : markTo k xss xss.length = markRows k xss := by
  unfold markTo
  rw [List.drop_length, List.append_nil, List.take_of_length_le (by rw [markRows_len]; exact Nat.le_refl _)]
theorem markTo_get {k : Int} {xss : List (List Int)} {j : Nat} {zs : List Int} (h : xss[j]? = some zs) : (markTo k xss j)[j]? = some zs := by
  have hj := (List.getElem?_eq_some_iff.1 h).1
  unfold markTo
  rw [List.getElem?_append_right (by simp [markRows_len]; omega)]
  simp [markRows_len, Nat.min_eq_left (Nat.le_of_lt hj), h]
theorem markTo_set {k : Int} {xss : List (List Int)} {j : Nat} {zs : List Int} (h : xss[j]? = some zs) : (markTo k xss j).set j (marks (k + (tot (xss.take j) : Nat)) zs.length) = markTo k xss (j + 1) := by
  have hj := (List.getElem?_eq_some_iff.1 h).1
  have hm := markRows_get k xss j zs h
  unfold markTo
  have hl : ((markRows k xss).take j).length = j := by simp [markRows_len]; omega
  rw [List.set_append_right _ _ (by omega), hl, Nat.sub_self, List.take_add_one, hm]
  rw [List.drop_eq_getElem_cons hj]
  simp only [List.set_cons_zero, List.append_assoc, Option.toList, List.cons_append, List.nil_append]

theorem RowsOwn.set {w w' : World} {B C : Nat} {e : TypeId} {vs : List Value} {xss : List (List Int)} {j : Nat} {u : Value} {zs : List Int} (h : RowsOwn w B C e vs xss) (hu : vs[j]? = some u) (hg : w.grownBy w' u.ownBlock) (hn : OwnInts w' B e u zs) : RowsOwn w' B C e vs (xss.set j zs) := by
  obtain ⟨h1, h2, h3⟩ := h
  refine ⟨by simp [h1], fun k u' zs' hu' hz' => ?_, h3⟩
  have hj := (List.getElem?_eq_some_iff.1 hu).1
  by_cases hk : k = j
  · subst hk
    rw [hu] at hu'
    obtain rfl : u = u' := by simpa using hu'
    have hz : xss[k]? = some (xss[k]'(by omega)) := List.getElem?_eq_getElem _
    rw [List.getElem?_set_self (by omega)] at hz'
    obtain rfl : zs = zs' := by simpa using hz'
    exact ⟨hn, (h2 k u _ hu hz).2⟩
  · rw [List.getElem?_set_ne (by omega)] at hz'
    have ho := h2 k u' zs' hu' hz'
    have hap : Apart u' u := by
      by_cases hlt : k < j
      · exact h3 k j u' u hlt hu' hu
      · exact (h3 j k u u' (by omega) hu hu').symm
    exact ⟨ho.1.kept hg hap, ho.2⟩

/-- no block has turned but those of the values vs -/
def Far (vs : List Value) (w w' : World) : Prop := ∀ b, b < w.heap.size → (∀ (i : Nat) (u : Value), vs[i]? = some u → u.ownBlock ≠ some b) → w'.heap[b]? = w.heap[b]?
theorem Far.refl (vs : List Value) (w : World) : Far vs w w := fun _ _ _ => rfl
theorem Far.grown {vs : List Value} {w w1 w2 : World} {j : Nat} {u : Value} (h : Far vs w w1) (hs : w.heap.size ≤ w1.heap.size) (hu : vs[j]? = some u) (hg : w1.grownBy w2 u.ownBlock) : Far vs w w2 :=
  fun b hb hn => (hg.block b (Nat.lt_of_lt_of_le hb hs) (fun e => hn j u hu e.symm)).trans (h b hb hn)
theorem Far.kept {vs : List Value} {w w' : World} {B C : Nat} {e : TypeId} {v : Value} {zs : List Int} (h : Far vs w w') (ho : OI w B C e v zs) (ha : ∀ (i : Nat) (u : Value), vs[i]? = some u → Apart u v) : OI w' B C e v zs :=
  ⟨⟨ho.1.1.of_block fun b hb => h b (ho.1.1.lt b hb) (fun i u hu e => (ha i u hu).elim (fun h1 => by rw [h1] at e; cases e) (fun h1 => h1 (e.trans hb.symm))), ho.1.2⟩, ho.2⟩

set_option maxHeartbeats 1000000 in
theorem l_markInt64SS (w : World) (B C : Nat) (v : Value) (vs : List Value) (xss : List (List Int)) (k : Int) (ho1 : Own w B tL v vs) (ho3 : RowsOwn w B C tI vs xss) (hn : tot xss ≤ 4294967296) (h0 : 0 ≤ k) (h1 : k ≤ 4294967296) :
    Calls Try.prog 13 #[v, .int .i64 k] w fun e w' => e = .returned (.int .i64 (k + (tot xss : Nat))) ∧ Own w' B tL v vs ∧ RowsOwn w' B C tI vs (markRows k xss) ∧ Chg B C w w' ∧ Far vs w w' := by
  have hc0 := ho1.cells
  obtain ⟨A, c, rfl, l1, l2, -⟩ := hc0
  have hvl := ho3.1
  rw [hvl] at l1
  have l2' : c ≤ 9223372036854775807 := by simpa [maxLen] using l2
  have HL := Lib.hid hvl
  have HO := Lib.hid ho1
  have HR := Lib.hid ho3
  rw [hvl]
  rw [hvl] at HO
  clear ho1 ho3 hvl l2
  go_enter Try.func13, Try.ntmps13
  go_wp2_with fail
  go_loopw [1, 5] (fun x i wr => ∃ j : Nat, j ≤ xss.length ∧ i = .int .i64 j ∧ x = .int .i64 (k + (tot (xss.take j) : Nat)) ∧ Own wr B tL (.slice A xss.length c) vs ∧ RowsOwn wr B C tI vs (markTo k xss j) ∧ Chg B C w wr ∧ Far vs w wr) (fun _ i _ => xss.length - (intOf i).toNat)
  case atStart => exact ⟨0, Nat.zero_le _, rfl, by simp [tot], HO.out, by rw [markTo_zero]; exact HR.out, Chg.refl _ _ _, Far.refl _ _⟩
  case round =>
    obtain ⟨j, hj, rfl, rfl, hown, hrow, hch, hfar⟩ := hrel
    have HF := Lib.hid hfar
    clear hfar
    clear HO HR
    have HO := Lib.hid hown
    have HR := Lib.hid hrow
    have HC := Lib.hid hch
    clear hown hrow hch
    by_cases hlt : j < xss.length
    · have hu : vs[j]? = some (vs[j]'(by rw [HL.out]; exact hlt)) := List.getElem?_eq_getElem _
      have hz : xss[j]? = some (xss[j]'hlt) := List.getElem?_eq_getElem _
      generalize vs[j]'(by rw [HL.out]; exact hlt) = u at hu
      generalize xss[j]'hlt = zs at hz
      have hoi := HR.out.2.1 j u zs hu (markTo_get hz)
      obtain ⟨A', c', he, -, -, g3⟩ := HO.out.cells
      simp only [Value.slice.injEq] at he
      obtain ⟨rfl, -, rfl⟩ := he
      obtain ⟨ad, rfl, hc⟩ := g3 j u hu
      have hle := len_le_tot hz
      have HS := Lib.hid (tot_take_succ hz)
      have HSET := Lib.hid (markTo_set (k := k) hz)
      have HZ := Lib.hid hz
      have HU := Lib.hid hu
      have HOI := Lib.hid hoi
      clear hz hu hoi g3
      generalize tot (xss.take j) = m at hle HS HSET ⊢
      go_wp2_with fail
      refine (l_markInt64S _ B u zs (k + (m : Int)) HOI.out.1 (by omega) (by omega) (by omega)).mono ?_
      rintro e w1 ⟨rfl, hown1, hgr1, -⟩
      have HM := Lib.hid hown1
      have HG := Lib.hid hgr1
      clear hown1 hgr1 hc
      go_wp2_with fail
      go_roundw
      case rel =>
        have hne : (Value.slice (some ad) xss.length c).ownBlock = none ∨ (Value.slice (some ad) xss.length c).ownBlock ≠ u.ownBlock := HO.out.ne_of_type HOI.out.1.1 (by decide)
        refine ⟨j + 1, by omega, by go_num, by rw [HS.out]; push_cast; go_num, HO.out.kept HG.out hne, ?_, HC.out.trans (Chg.of_grown HG.out fun b hb => ⟨HOI.out.1.1.ge b hb, HOI.out.2 b hb⟩), HF.out.grown HC.out.size HU.out HG.out⟩
        rw [← HSET.out]
        exact HR.out.set HU.out HG.out HM.out
      case measure => simp [intOf]; omega
    · have : j = xss.length := by omega
      subst this
      go_wp2_with fail
      go_ret
      refine ⟨ret_int (by rw [List.take_length]), HO.out, ?_, HC.out, HF.out⟩
      rw [← markTo_all]
      exact HR.out

set_option maxHeartbeats 1000000 in
theorem l_heldInt64SS (w : World) (v : Value) (xss : List (List Int)) (k : Int) (ho : Rows w v (markRows k xss)) (hn : tot xss ≤ 4294967296) (h0 : 0 ≤ k) (h1 : k ≤ 4294967296) :
    Calls Try.prog 18 #[v, .int .i64 k] w fun e w' => e = .returned (.int .i64 (k + (tot xss : Nat))) ∧ w = w' := by
  obtain ⟨A, c, rfl, g1, g2, g3⟩ := ho.open_
  rw [markRows_len] at g1 g3 ⊢
  have G3 := Lib.hid g3
  clear g3 ho
  go_enter Try.func18, Try.ntmps18
  go_wp2_with fail
  go_loop [1, 5] (fun x i => ∃ j : Nat, j ≤ xss.length ∧ i = .int .i64 j ∧ x = .int .i64 (k + (tot (xss.take j) : Nat))) (fun _ i => xss.length - (intOf i).toNat)
  case atStart => exact ⟨0, Nat.zero_le _, rfl, by simp [tot]⟩
  case round =>
    obtain ⟨j, hj, rfl, rfl⟩ := hrel
    by_cases hlt : j < xss.length
    · obtain ⟨ad, u, zs', rfl, hz', hu, hc⟩ := G3.out j hlt
      have hz : xss[j]? = some (xss[j]'hlt) := List.getElem?_eq_getElem _
      generalize xss[j]'hlt = zs at hz
      rw [markRows_get k xss j zs hz] at hz'
      obtain rfl : marks (k + (tot (xss.take j) : Nat)) zs.length = zs' := by simpa using hz'
      have hle := len_le_tot hz
      have HS := Lib.hid (tot_take_succ hz)
      have HU := Lib.hid hu
      clear hz hu hz'
      generalize tot (xss.take j) = m at hle HS HU ⊢
      have hk0 : 0 ≤ k + (m : Int) + (zs.length : Int) := by omega
      go_wp2_with fail
      refine (l_heldInt64S _ u zs.length (k + (m : Int)) HU.out (by omega) (by omega) (by omega)).mono ?_
      rintro e w1 ⟨rfl, rfl⟩
      go_wp2_with fail
      go_round
      case rel => exact ⟨j + 1, by omega, by go_num, by rw [HS.out]; push_cast; go_num⟩
      case measure => simp [intOf]; omega
    · have : j = xss.length := by omega
      subst this
      go_wp2_with fail
      go_ret
      exact ⟨by first | rfl | exact ret_int (by rw [List.take_length]), rfl⟩

end Go.Proofs.Ytcfohigbpjcjaaa
set_option maxRecDepth 100000
set_option linter.unusedVariables false
set_option linter.unusedSimpArgs false
namespace Go.Proofs.Ytcfohigbpjcjaaa
open Go.RowKit

theorem n_to_ints (w : World) (v : Value) (zs : List Int) (ha : Ints w v zs) (hn : zs.length ≤ 4294967296) :
    Calls Try.prog 20 #[v] w fun e w' => ∃ u, e = .returned u ∧ OI w' w.heap.size w'.heap.size tI u zs ∧ Below w.heap.size w w' :=
  (l_toInt64S w v zs ha hn).mono (by rintro e w' ⟨u, rfl, h, hb⟩; exact ⟨u, rfl, OI.of h, hb⟩)
theorem n_to_rows (w : World) (v : Value) (xss : List (List Int)) (ha : Rows w v xss) (hn : Short xss) :
    Calls Try.prog 9 #[v] w fun e w' => ∃ u, e = .returned u ∧ OR w' w.heap.size w'.heap.size tL tI u xss ∧ Below w.heap.size w w' := l_toInt64SS w v xss ha hn
theorem n_eq_ints (w : World) (v v' : Value) (zs : List Int) (ha : Ints w v zs) (hb : Ints w v' zs) :
    Calls Try.prog 22 #[v, v'] w fun e w' => e = .returned (.bool true) ∧ Below w.heap.size w w' :=
  (l_eqInt64S w v v' zs zs ha hb).mono (by rintro e w' ⟨rfl, n, rfl⟩; exact ⟨by simp, below_drewN (Below.refl _ _) n⟩)
theorem n_eq_rows (w : World) (v v' : Value) (xss : List (List Int)) (ha : Rows w v xss) (hb : Rows w v' xss) :
    Calls Try.prog 12 #[v, v'] w fun e w' => e = .returned (.bool true) ∧ Below w.heap.size w w' :=
  (l_eqInt64SS w v v' xss xss ha hb).mono (by rintro e w' ⟨rfl, n, rfl⟩; exact ⟨by simp, below_drewN (Below.refl _ _) n⟩)
theorem n_mark_ints (w : World) (B C : Nat) (v : Value) (zs : List Int) (k : Int) (ho : OI w B C tI v zs) (hn : zs.length ≤ 1073741824) (h0 : 0 ≤ k) (h1 : k ≤ 1073741824) :
    Calls Try.prog 23 #[v, .int .i64 k] w fun e w' => e = .returned (.int .i64 (k + (zs.length : Int))) ∧ OI w' B C tI v (marks k zs.length) ∧ Chg B C w w' :=
  (l_markInt64S w B v zs k ho.1 (by omega) h0 (by omega)).mono (by rintro e w' ⟨rfl, h, hg, -⟩; exact ⟨rfl, ⟨h, ho.2⟩, Chg.of_grown hg fun b hb => ⟨ho.1.1.ge b hb, ho.2 b hb⟩⟩)
theorem n_mark_rows (w : World) (B C : Nat) (v : Value) (xss : List (List Int)) (k : Int) (ho : OR w B C tL tI v xss) (hn : tot xss ≤ 1073741824) (h0 : 0 ≤ k) (h1 : k ≤ 1073741824) :
    Calls Try.prog 13 #[v, .int .i64 k] w fun e w' => e = .returned (.int .i64 (k + (tot xss : Nat))) ∧ OR w' B C tL tI v (markRows k xss) ∧ Chg B C w w' := by
  obtain ⟨vs, h1', h2, h3⟩ := ho
  exact (l_markInt64SS w B C v vs xss k h1' h3 (by omega) h0 (by omega)).mono (by rintro e w' ⟨rfl, g1, g2, g3, -⟩; exact ⟨rfl, ⟨vs, g1, h2, g2⟩, g3⟩)
theorem n_held_ints (w : World) (v : Value) (n : Nat) (ho : Ints w v (marks 1 n)) (hn : n ≤ 1073741824) :
    Calls Try.prog 24 #[v, .int .i64 1] w fun e w' => e = .returned (.int .i64 (1 + (n : Int))) ∧ Below w.heap.size w w' :=
  (l_heldInt64S w v n 1 ho (by omega) (by omega) (by omega)).mono (by rintro e w' ⟨rfl, rfl⟩; exact ⟨rfl, Below.refl _ _⟩)
theorem n_held_rows (w : World) (v : Value) (xss : List (List Int)) (ho : Rows w v (markRows 1 xss)) (hn : tot xss ≤ 1073741824) :
    Calls Try.prog 18 #[v, .int .i64 1] w fun e w' => e = .returned (.int .i64 (1 + (tot xss : Nat))) ∧ Below w.heap.size w w' :=
  (l_heldInt64SS w v xss 1 ho (by omega) (by omega) (by omega)).mono (by rintro e w' ⟨rfl, rfl⟩; exact ⟨rfl, Below.refl _ _⟩)
theorem szRows_tot {left : Int} {xss : List (List Int)} (h : 0 ≤ szRows left xss) : ((tot xss : Nat) : Int) + szRows left xss ≤ left := by
  unfold szRows at h ⊢
  by_cases h1 : left - xss.length < 0
  · rw [if_pos h1] at h; omega
  · rw [if_neg h1] at h ⊢
    have := szR_tot h
    omega
end Go.Proofs.Ytcfohigbpjcjaaa
set_option maxRecDepth 100000
set_option linter.unusedVariables false
set_option linter.unusedSimpArgs false
namespace Go.Proofs.Ytcfohigbpjcjaaa
open Go.ChangeShapes Go.WideShapes Go.ChangeAt Go.RowKit

theorem in64_of_wf {z : Int} (h : (Lit.int .i64 z).wf = true) : In64 z := by
  simp [Lit.wf, IntKind.min, IntKind.max, IntKind.signed, IntKind.bits] at h
  unfold In64
  omega

theorem open_Ints {H : Type} {enc : TypeId × Value → H} {W : World} {base : Nat} {v : Value} {d : DataW H} {p : List MemPlace}
    (hv : Value.okWide Try.prog W .any base 37 v) (h : DataW.Trod enc Try.prog W 0 (fun _ => true) true 37 v d p) : ∃ zs, Ints W v zs := by
  obtain ⟨a, len, cap, rfl⟩ := okWide_slice Try.underlying37 hv
  obtain ⟨fuel, hf⟩ := h
  rcases open_ints Try.underlying37 Try.underlying2 (by kernel_rfl) hf with ⟨hcs, _⟩ | ⟨x, l, c, zs, hcs, _, hl, hm, hz, _, hcell, hwz⟩
  · simp [Value.cells] at hcs
    obtain ⟨rfl, rfl, rfl⟩ := hcs
    exact ⟨[], ⟨none, 0, rfl, by simp [ints], by simp [maxLen], fun k u hk => by simp [ints] at hk⟩, fun z hz => by simp at hz⟩
  · simp [Value.cells] at hcs
    obtain ⟨rfl, rfl, rfl⟩ := hcs
    have hz' : zs.length = cap := by simpa using hz
    have hlen : (ints (zs.take len)).length = len := by simp [ints]; omega
    refine ⟨zs.take len, ⟨some x, cap, by rw [hlen], by rw [hlen]; exact hl, hm, fun k u hk => ⟨x, rfl, ?_⟩⟩, fun z hz => in64_of_wf (hwz z (List.mem_of_mem_take hz))⟩
    have hk2 : k < (ints (zs.take len)).length := (List.getElem?_eq_some_iff.1 hk).1
    rw [hlen] at hk2
    rw [hcell k (by omega)]
    have e : (ints (zs.take len))[k]? = some (.int .i64 (zs.getD k 0)) := by
      simp [ints, List.getElem?_take, hk2, List.getD, show k < zs.length by omega]
    rw [e] at hk
    exact hk
end Go.Proofs.Ytcfohigbpjcjaaa
set_option linter.unusedVariables false
set_option linter.unusedSimpArgs false
namespace Go.Proofs.Ytcfohigbpjcjaaa
open Go.RowKit

set_option maxRecDepth 100000 in
set_option maxHeartbeats 8000000 in
theorem law_FnExactFreeConditions_gen (w : World) (n0 : Int) (ha0 : In64 n0) (r : List (List Int)) (c : Int) (hR : tot r ≤ 1048576)
    (hS : ∀ (W : World), Calls Try.prog 16 #[.int .i64 n0] W fun e w' => ∃ u, e = .returned (.tuple #[u, .int .i64 c]) ∧ OR w' W.heap.size w'.heap.size tL tI u r ∧ Below W.heap.size W w')
    (hI : ∀ (W : World), Calls Try.prog 17 #[.int .i64 n0] W fun e w' => ∃ u, e = .returned (.tuple #[u, .int .i64 c]) ∧ OR w' W.heap.size w'.heap.size tL tI u r ∧ Below W.heap.size W w') :
    Calls Try.prog 4 #[.int .i64 n0] w fun e w' => e = .returned (.bool true) ∧ Below w.heap.size w w' := by
  have B := Lib.hid (Below.refl w.heap.size w)
  have HS := Lib.hid hS
  have HI := Lib.hid hI
  clear hS hI
  have HR := Lib.hid hR
  clear hR
  go_enter Try.func4, Try.ntmps4
  go_wp2_with fail
  have HS := Lib.hid (HS.out)
  have HI := Lib.hid (HI.out)
  have HR := Lib.hid (HR.out)
  refine (HS.out _  ).mono ?_
  rintro e w1 ⟨xW, rfl, hW, b2⟩
  have Z3 := Lib.hid (b2.size)
  have NB := Lib.hid (B.out.trans (b2.mono B.out.size))
  clear B
  have B := NB
  clear NB
  clear b2
  have W := Lib.hid hW
  clear hW
  go_wp2_with fail
  refine (HI.out _  ).mono ?_
  rintro e w4 ⟨xG, rfl, hG, b5⟩
  have Z6 := Lib.hid (b5.size)
  have NW := Lib.hid (W.out.below b5)
  clear W
  have W := NW
  clear NW
  have NB := Lib.hid (B.out.trans (b5.mono B.out.size))
  clear B
  have B := NB
  clear NB
  clear b5
  have G := Lib.hid hG
  clear hG
  go_wp2_with fail
  refine (n_eq_rows _ _ _ r G.out.rows W.out.rows).mono ?_
  rintro e w7 ⟨rfl, b8⟩
  have Z9 := Lib.hid (b8.size)
  have NW := Lib.hid (W.out.below b8)
  clear W
  have W := NW
  clear NW
  have NG := Lib.hid (G.out.below b8)
  clear G
  have G := NG
  clear NG
  have NB := Lib.hid (B.out.trans (b8.mono B.out.size))
  clear B
  have B := NB
  clear NB
  clear b8
  go_wp2_with fail
  have hr0 : (0 : Int) ≤ 1 + ((tot r : Nat) : Int) := by omega
  refine (n_mark_rows _ _ _ _ r 1 G.out (by have y := HR.out; omega) (by omega) (by omega)).mono ?_
  rintro e w10 ⟨rfl, hw10, chw10⟩
  have Z11 := Lib.hid (chw10.size)
  have NW := Lib.hid (W.out.kept chw10 (by have y0 := Z3.out; have y1 := Z6.out; have y2 := Z9.out; have y3 := Z11.out; omega))
  clear W
  have W := NW
  clear NW
  have NG := Lib.hid (hw10)
  clear G
  have G := NG
  clear NG
  have NB := Lib.hid (chw10.below B.out (by have y0 := Z3.out; have y1 := Z6.out; have y2 := Z9.out; have y3 := Z11.out; omega) B.out.size)
  clear B
  have B := NB
  clear NB
  clear hw10 chw10
  go_wp2_with fail
  refine (n_held_rows _ _ r G.out.rows (by have y := HR.out; omega)).mono ?_
  rintro e w12 ⟨rfl, b13⟩
  have Z14 := Lib.hid (b13.size)
  have NW := Lib.hid (W.out.below b13)
  clear W
  have W := NW
  clear NW
  have NG := Lib.hid (G.out.below b13)
  clear G
  have G := NG
  clear NG
  have NB := Lib.hid (B.out.trans (b13.mono B.out.size))
  clear B
  have B := NB
  clear NB
  clear b13
  go_wp2_with fail
  refine (HI.out _  ).mono ?_
  rintro e w15 ⟨xH, rfl, hH, b16⟩
  have Z17 := Lib.hid (b16.size)
  have NW := Lib.hid (W.out.below b16)
  clear W
  have W := NW
  clear NW
  have NG := Lib.hid (G.out.below b16)
  clear G
  have G := NG
  clear NG
  have NB := Lib.hid (B.out.trans (b16.mono B.out.size))
  clear B
  have B := NB
  clear NB
  clear b16
  have H := Lib.hid hH
  clear hH
  go_wp2_with fail
  refine (n_eq_rows _ _ _ r H.out.rows W.out.rows).mono ?_
  rintro e w18 ⟨rfl, b19⟩
  have Z20 := Lib.hid (b19.size)
  have NW := Lib.hid (W.out.below b19)
  clear W
  have W := NW
  clear NW
  have NG := Lib.hid (G.out.below b19)
  clear G
  have G := NG
  clear NG
  have NH := Lib.hid (H.out.below b19)
  clear H
  have H := NH
  clear NH
  have NB := Lib.hid (B.out.trans (b19.mono B.out.size))
  clear B
  have B := NB
  clear NB
  clear b19
  go_wp2_with fail
  refine (n_held_rows _ _ r G.out.rows (by have y := HR.out; omega)).mono ?_
  rintro e w21 ⟨rfl, b22⟩
  have Z23 := Lib.hid (b22.size)
  have NW := Lib.hid (W.out.below b22)
  clear W
  have W := NW
  clear NW
  have NG := Lib.hid (G.out.below b22)
  clear G
  have G := NG
  clear NG
  have NH := Lib.hid (H.out.below b22)
  clear H
  have H := NH
  clear NH
  have NB := Lib.hid (B.out.trans (b22.mono B.out.size))
  clear B
  have B := NB
  clear NB
  clear b22
  go_wp2_with fail
  go_ret
  exact ⟨rfl, B.out⟩
end Go.Proofs.Ytcfohigbpjcjaaa
set_option linter.unusedVariables false
set_option linter.unusedSimpArgs false
namespace Go.Proofs.Ytcfohigbpjcjaaa

/-- natural numbers as integers -/
def up (t : List Nat) : List Int := t.map fun (n : Nat) => (n : Int)
theorem up_len (t : List Nat) : (up t).length = t.length := by simp [up]
theorem up_get (t : List Nat) (k : Nat) : (up t)[k]? = t[k]?.map fun (n : Nat) => (n : Int) := by simp [up]
theorem up_append (a b : List Nat) : up (a ++ b) = up a ++ up b := by simp [up]
theorem up_take (a : List Nat) (k : Nat) : (up a).take k = up (a.take k) := by simp [up, List.map_take]
theorem up_drop (a : List Nat) (k : Nat) : (up a).drop k = up (a.drop k) := by simp [up, List.map_drop]
theorem up_inj {a b : List Nat} (h : up a = up b) : a = b := by
  have e : ∀ l : List Nat, (up l).map Int.toNat = l := by
    intro l
    simp only [up, List.map_map]
    have : (Int.toNat ∘ fun n : Nat => (n : Int)) = id := by funext n; simp
    rw [this, List.map_id]
  rw [← e a, ← e b, h]

def eqN : List Nat → List Nat → Bool
  | [], [] => true
  | [], _ :: _ => false
  | _ :: _, [] => false
  | a :: ar, b :: bs => bif Nat.beq a b then eqN ar bs else false
theorem eqN_iff : ∀ {a b : List Nat}, eqN a b = true ↔ a = b
  | [], [] => by simp [eqN]
  | [], _ :: _ => by simp [eqN]
  | _ :: _, [] => by simp [eqN]
  | a :: ar, b :: bs => by
    rw [eqN]
    cases h : Nat.beq a b with
    | true => have := Nat.eq_of_beq_eq_true h; subst this; simp [eqN_iff (a := ar) (b := bs)]
    | false => have := Nat.ne_of_beq_eq_false h; simp [this]
/-- lexicographically less -/
def ltN : List Nat → List Nat → Bool
  | [], [] => false
  | [], _ :: _ => true
  | _ :: _, [] => false
  | a :: ar, b :: bs => bif Nat.beq a b then ltN ar bs else Nat.blt a b

def mapO {α β : Type} (g : α → Option β) : List α → Option (List β)
  | [] => some []
  | x :: xs => match g x with
    | none => none
    | some y => match mapO g xs with
      | none => none
      | some ys => some (y :: ys)
theorem mapO_cons {α β : Type} {g : α → Option β} {x : α} {xs : List α} {ys : List β} (h : mapO g (x :: xs) = some ys) : ∃ y ys', ys = y :: ys' ∧ g x = some y ∧ mapO g xs = some ys' := by
  rw [mapO] at h
  split at h
  · cases h
  · rename_i y hy
    split at h
    · cases h
    · rename_i ys' hys
      injection h with h
      exact ⟨y, ys', h.symm, hy, hys⟩
theorem mapO_len {α β : Type} {g : α → Option β} : ∀ {xs : List α} {ys : List β}, mapO g xs = some ys → ys.length = xs.length
  | [], ys, h => by simp [mapO] at h; subst h; rfl
  | x :: xs, ys, h => by
    obtain ⟨y, ys', rfl, _, h'⟩ := mapO_cons h
    simp [mapO_len h']
theorem mapO_get {α β : Type} {g : α → Option β} : ∀ {xs : List α} {ys : List β}, mapO g xs = some ys → ∀ (k : Nat) (x : α), xs[k]? = some x → ∃ y, ys[k]? = some y ∧ g x = some y
  | [], ys, h, k, x, hx => by simp at hx
  | z :: xs, ys, h, k, x, hx => by
    obtain ⟨y, ys', rfl, hy, h'⟩ := mapO_cons h
    cases k with
    | zero => simp at hx; subst hx; exact ⟨y, by simp, hy⟩
    | succ k => simpa using mapO_get h' k x (by simpa using hx)
theorem mapO_all {α β : Type} {g : α → Option β} {xs : List α} {ys : List β} (h : mapO g xs = some ys) : ∀ y ∈ ys, ∃ x ∈ xs, g x = some y := by
  intro y hy
  obtain ⟨k, hk, rfl⟩ := List.getElem_of_mem hy
  have hl := mapO_len h
  have hx : xs[k]? = some (xs[k]'(by omega)) := List.getElem?_eq_getElem _
  obtain ⟨y', h1, h2⟩ := mapO_get h k _ hx
  rw [List.getElem?_eq_getElem hk] at h1
  injection h1 with h1
  exact ⟨_, List.mem_of_getElem? hx, by rw [h2, ← h1]⟩

/-- the levels behind a level -/
def lvlF (p : Nat) : List Nat → Bool
  | [] => true
  | l :: ls => bif Nat.ble 1 l then (bif Nat.ble l (p + 1) then lvlF l ls else false) else false
/-- a list of levels -/
def lvl : List Nat → Bool
  | [] => false
  | a :: ar => bif Nat.beq a 0 then lvlF 0 ar else false

def addLast (x : Nat) : List (List Nat) → List (List Nat)
  | [] => []
  | [b] => [b ++ [x]]
  | b :: c :: bs => b :: addLast x (c :: bs)
/-- one level more, of the branches gathered so far -/
def brStep (out : List (List Nat)) (l : Nat) : Option (List (List Nat)) :=
  match l with
  | 0 => none
  | 1 => some (out ++ [[0]])
  | l + 2 => match out with
    | [] => none
    | b :: bs => some (addLast (l + 1) (b :: bs))
def brF (out : List (List Nat)) : List Nat → Option (List (List Nat))
  | [] => some out
  | l :: ls => match brStep out l with
    | none => none
    | some o => brF o ls
/-- the branches of a level list -/
def brO : List Nat → Option (List (List Nat))
  | [] => none
  | _ :: ts => brF [] ts

/-- a list put into lists in descending order -/
def insD (p : List Nat) : List (List Nat) → List (List Nat)
  | [] => [p]
  | q :: qs => bif ltN q p then p :: q :: qs else q :: insD p qs
def srtF (s : List (List Nat)) : List (List Nat) → List (List Nat)
  | [] => s
  | p :: ps => srtF (insD p s) ps
/-- lists in descending order -/
def srtD (ps : List (List Nat)) : List (List Nat) := srtF [] ps
def bump : List Nat → List Nat
  | [] => []
  | a :: ar => (a + 1) :: bump ar
def bumps : List (List Nat) → List Nat
  | [] => []
  | b :: bs => bump b ++ bumps bs
/-- the list of the tree with some branches -/
def rootN (bs : List (List Nat)) : List Nat := 0 :: bumps bs
/-- the canonical list -/
def canO : Nat → List Nat → Option (List Nat)
  | 0, _ => none
  | f + 1, t => match brO t with
    | none => none
    | some bs => match mapO (canO f) bs with
      | none => none
      | some cs => some (rootN (srtD cs))

/-- one more than the last place below k whose level is one less; 0 if there is none -/
def parN (t : List Nat) (lev : Nat) : Nat → Nat
  | 0 => 0
  | k + 1 => bif Nat.beq (t.getD k 0 + 1) lev then k + 1 else parN t lev k
def parF (t : List Nat) : List Nat → Nat → List Nat
  | [], _ => []
  | l :: ls, i => parN t l i :: parF t ls (i + 1)
/-- the parents of the nodes, each by one more than its place -/
def parents (t : List Nat) : List Nat := parF t t 0
/-- one more at the end of the list at a place -/
def addAt (x : Nat) : Nat → List (List Nat) → List (List Nat)
  | _, [] => []
  | 0, b :: bs => (b ++ [x]) :: bs
  | i + 1, b :: bs => b :: addAt x i bs
def nearF (near : List (List Nat)) : List Nat → Nat → List (List Nat)
  | [], _ => near
  | 0 :: ps, i => nearF near ps (i + 1)
  | (k + 1) :: ps, i => nearF (addAt i k (addAt k i near)) ps (i + 1)
/-- the neighbours of the nodes -/
def nearN (t : List Nat) : List (List Nat) := nearF (List.replicate t.length []) (parents t) 0
/-- the canonical tree with a root (fr: one more than the node from which it is come to, or 0) -/
def tfO : Nat → List (List Nat) → Nat → Nat → Option (List Nat)
  | 0, _, _, _ => none
  | f + 1, near, root, fr => match near[root]? with
    | none => none
    | some ns => match mapO (fun n => tfO f near n (root + 1)) (ns.filter fun n => !Nat.beq (n + 1) fr) with
      | none => none
      | some bs => canO 9 (rootN bs)
/-- the trees with other roots -/
def rootedO (t : List Nat) : Option (List (List Nat)) := match canO 9 t with
  | none => none
  | some c => mapO (fun n => tfO 9 (nearN c) n 0) (List.range c.length)
/-- before in the order of trees -/
def befN (s t : List Nat) : Bool := bif Nat.beq s.length t.length then ltN t s else Nat.blt s.length t.length
def minT (m : List Nat) : List (List Nat) → List Nat
  | [] => m
  | t :: ts => bif befN t m then minT t ts else minT m ts
/-- the free form -/
def freeO (t : List Nat) : Option (List Nat) := match rootedO t with
  | some (r :: rs) => some (minT r rs)
  | _ => none

/- of the reference -/
def runN (a : Nat) : List Nat → Nat
  | [] => 0
  | l :: ls => bif Nat.blt a l then runN a ls + 1 else 0
/-- the place behind the branch at a node -/
def endN (t : List Nat) (node : Nat) : Nat := node + 1 + runN (t.getD node 0) (t.drop (node + 1))
def graO (u : List Nat) (node : Nat) (v : List Nat) : Option (List Nat) := canO 9 (u.take (endN u node) ++ (v.map fun x => u.getD node 0 + 1 + x) ++ u.drop (endN u node))
def turO : Nat → List Nat → Nat → Option (List Nat)
  | 0, _, _ => none
  | f + 1, t, 0 => canO 9 t
  | f + 1, t, node + 1 => match turO f (t.take (node + 1) ++ t.drop (endN t (node + 1))) (parN t (t.getD (node + 1) 0) (node + 1) - 1) with
    | none => none
    | some r => graO ((t.drop (node + 1)).take (endN t (node + 1) - (node + 1)) |>.map fun x => x - t.getD (node + 1) 0) 0 r

/-- all lists of so many levels that begin with a list: the greater ones first -/
def grow1 (t : List Nat) (last : Nat) : Nat → List (List Nat)
  | 0 => []
  | l + 1 => (t ++ [l + 1]) :: grow1 t last l
def lastN : List Nat → Nat
  | [] => 0
  | [a] => a
  | _ :: b :: bs => lastN (b :: bs)
def levs : Nat → List (List Nat)
  | 0 => [[0]]
  | n + 1 => (levs n).flatMap fun t => grow1 t (lastN t) (lastN t + 1)
end Go.Proofs.Ytcfohigbpjcjaaa
