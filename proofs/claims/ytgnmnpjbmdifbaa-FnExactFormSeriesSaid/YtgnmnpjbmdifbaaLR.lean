/- The walks of the laws' small functions over lists of lists and tableaus. -/
import Derived.Test.YtgnmnpjbmdifbaaRows
import Derived.Test.YtgnmnpjbmdifbaaMem
import Derived.Test.YtgnmnpjbmdifbaaMem2
import Derived.Test.YtgnmnpjbmdifbaaL
import Derived.WalkLawsBesides
import Derived.Deep.QuietTactic
import Derived.BigQuiet
set_option linter.unusedVariables false
set_option linter.unusedSimpArgs false
namespace Go.Proofs.Ytgnmnpjbmdifbaa
open Go.RowKit

theorem T_row : ElemT Try.prog 22 23 (.slice none 0 0) 24 := ⟨Try.underlying22, by kernel_rfl, rfl, by omega⟩

abbrev tI : TypeId := 2
abbrev tL : TypeId := 23

/-- sizes: each list is short -/
def Short (xss : List (List Int)) : Prop := xss.length ≤ 4294967296 ∧ ∀ zs ∈ xss, zs.length ≤ 4294967296

theorem set_next {vs : List Value} {k n : Nat} {u z : Value} (hk : vs.length = k) (hn : k < n) : (vs ++ List.replicate (n - k) z).set k u = (vs ++ [u]) ++ List.replicate (n - (k + 1)) z := by
  subst hk
  rw [List.set_append_right _ _ (Nat.le_refl _), Nat.sub_self, List.append_assoc]
  congr 1
  rw [show n - vs.length = (n - (vs.length + 1)) + 1 by omega, List.replicate_succ]
  rfl

set_option maxHeartbeats 1000000 in
theorem l_toInt64SS (w : World) (a : Value) (xss : List (List Int)) (ha : Rows w a xss) (hsh : Short xss) :
    Calls Try.prog 25 #[a] w fun e w' => ∃ v, e = .returned v ∧ OR w' w.heap.size w'.heap.size tL tI v xss ∧ Below w.heap.size w w' := by
  obtain ⟨A, c, rfl, h1, h2, h3⟩ := ha.open_
  have hn := hsh.1
  have HS := Lib.hid hsh.2
  have H3 := Lib.hid h3
  clear h3 ha hsh
  go_enter Try.func25, Try.ntmps25
  go_wp2_with (at_make; refine wpList_mk rfl _ _ _ rfl _ _ _ T_row xss.length _ rfl rfl rfl (by omega) _ ?_; intro w1 hown hb hs1; have HOWN := Lib.hid hown; have HB1 := Lib.hid hb; clear hown hb)
  go_loopw [4] (fun i wr => ∃ (k : Nat) (vs : List Value), k ≤ xss.length ∧ i = .int .i64 k ∧ Own wr w.heap.size tL (.slice (some ⟨w.heap.size, 0, none⟩) xss.length xss.length) (vs ++ List.replicate (xss.length - k) (.slice none 0 0)) ∧
    RowsOwn wr w.heap.size wr.heap.size tI vs (xss.take k) ∧ Below w.heap.size w wr ∧ w.heap.size < wr.heap.size) (fun i _ => xss.length - (intOf i).toNat)
  case atStart => exact ⟨0, [], Nat.zero_le _, rfl, by simpa using HOWN.out, by simpa using RowsOwn.nil _ _ _ _, HB1.out, hs1⟩
  case round =>
    obtain ⟨k, vs, hk, rfl, hown, hrows, hb, hsz⟩ := hrel
    have hvl : vs.length = k := by rw [hrows.1]; simp; omega
    have HO := Lib.hid hown
    have HR := Lib.hid hrows
    have HB := Lib.hid hb
    have HV := Lib.hid hvl
    clear hown hrows hb hvl
    by_cases hlt : k < xss.length
    · obtain ⟨ad, u, zs, rfl, hz, hu, hc0⟩ := H3.out k hlt
      have hc : wr.cell? (ad.add k) = some u := by
        rw [HB.out.cell (by rw [block_add]; have := World.block_lt_of_cell? w _ hc0; rwa [block_add] at this)]; exact hc0
      have HU := Lib.hid (hu.below HB.out)
      have hzs := HS.out zs (List.mem_of_getElem? hz)
      have HZ := Lib.hid hz
      clear hz hu hc0
      go_wp2_with fail
      refine (l_toInt64S _ _ _ HU.out hzs).mono ?_
      rintro e w2 ⟨v2, rfl, ho2, hb2⟩
      obtain ⟨A2, c2, hv2, _, _, _⟩ := ho2.ints.open_
      subst hv2
      have HO2 := Lib.hid (HO.out.below hb2)
      obtain ⟨u0, hu0, hcg, hfg, hg2, hg1, hown', hgr⟩ := HO2.out.storeAt (k := k) (by simp [HV.out]; omega) (.slice A2 zs.length c2)
      rw [set_next HV.out hlt] at hown'
      have hsz2 : w.heap.size < w2.heap.size := Nat.lt_of_lt_of_le hsz hb2.size
      have hne : (Value.slice A2 zs.length c2).ownBlock = none ∨ (Value.slice A2 zs.length c2).ownBlock ≠ some w.heap.size := by
        rcases ho2.1.cases with ⟨e, _⟩ | ⟨g, cap, cur, e, hgge, _⟩
        · exact .inl (by rw [e]; rfl)
        · refine .inr ?_
          rw [e]
          simp only [Value.ownBlock, ne_eq, Option.some.injEq]
          omega
      have HN := Lib.hid hown'
      have hr2 := (HR.out.below hb2).mono (Nat.le_refl _) hb2.size
      have hr3 := hr2.snoc (u := .slice A2 zs.length c2) (zs := zs) ⟨ho2.mono (by omega), ho2.1.lt⟩ (fun j u' hu' => by
        have hx : (xss.take k)[j]? = some ((xss.take k)[j]'(by rw [← HR.out.1]; exact (List.getElem?_eq_some_iff.1 hu').1)) := List.getElem?_eq_getElem _
        exact apart_of_lt (HR.out.2.1 j u' _ hu' hx).1.1.lt ho2.1.ge)
      have hr4 := hr3.other hgr (fun j u' hu' => by
        by_cases hj : j < vs.length
        · rw [List.getElem?_append_left hj] at hu'
          have hx : (xss.take k)[j]? = some ((xss.take k)[j]'(by rw [← HR.out.1]; exact hj)) := List.getElem?_eq_getElem _
          exact Own.ne_of_type (HR.out.2.1 j u' _ hu' hx).1.1 HO.out (by decide)
        · have hj' := (List.getElem?_eq_some_iff.1 hu').1
          simp at hj'
          have : j = vs.length := by omega
          subst this
          rw [List.getElem?_append_right (Nat.le_refl _)] at hu'
          simp at hu'
          subst hu'
          exact hne)
      have HRN := Lib.hid hr4
      have HBN := Lib.hid ((HB.out.trans (hb2.mono (Nat.le_of_lt hsz))).setCell (p := ⟨w.heap.size, k, none⟩) (Nat.le_refl _) (.slice A2 zs.length c2))
      clear ho2 hb2 hu0 hg1 hown' hgr hne hr2 hr3 hr4
      go_wp2
      go_roundw
      case rel =>
        refine ⟨k + 1, vs ++ [.slice A2 zs.length c2], by omega, by go_num, HN.out, ?_, HBN.out, by simpa [World.setCell] using hsz2⟩
        rw [List.take_add_one, HZ.out]
        exact (HRN.out).mono (Nat.le_refl _) (by simp [World.setCell])
      case measure => simp [intOf]; omega
    · have : k = xss.length := by omega
      subst this
      go_wp2
      go_ret
      refine ⟨_, rfl, ⟨vs, by simpa using HO.out, fun b hb => by simp [Value.ownBlock] at hb; omega, by simpa using HR.out⟩, HB.out⟩
theorem rtake_succ {xs ys : List (List Int)} {k : Nat} {x y : List Int} (h : xs.take k = ys.take k) (hx : xs[k]? = some x) (hy : ys[k]? = some y) (e : x = y) : xs.take (k + 1) = ys.take (k + 1) := by
  rw [List.take_add_one, List.take_add_one, h, hx, hy, e]

set_option maxHeartbeats 1000000 in
theorem l_eqInt64SS (w : World) (a b : Value) (xs ys : List (List Int)) (ha : Rows w a xs) (hb : Rows w b ys) :
    Calls Try.prog 27 #[a, b] w fun e w' => e = .returned (.bool (decide (xs = ys))) ∧ ∃ n, w' = w.drewN n := by
  obtain ⟨A, c, rfl, h1, h2, h3⟩ := ha.open_
  obtain ⟨B, d, rfl, g1, g2, g3⟩ := hb.open_
  clear ha hb
  have H3 := Lib.hid h3
  have G3 := Lib.hid g3
  clear h3 g3
  by_cases hl : xs.length = ys.length
  · have hl' : (((xs.length : Nat) : Int) != ((ys.length : Nat) : Int)) = false := by simp [hl]
    have HL := Lib.hid hl
    clear hl
    have g4 : ys.length ≤ xs.length := by rw [HL.out]; omega
    have g5 : xs.length ≤ ys.length := by rw [HL.out]; omega
    go_enter Try.func27, Try.ntmps27
    go_wp2
    go_loopw [5] (fun i wr => ∃ k n : Nat, k ≤ xs.length ∧ i = .int .i64 k ∧ xs.take k = ys.take k ∧ wr = w.drewN n) (fun i _ => xs.length - (intOf i).toNat)
    case atStart => exact ⟨0, 0, Nat.zero_le _, rfl, rfl, rfl⟩
    case round =>
      obtain ⟨k, n, hk, rfl, ht, rfl⟩ := hrel
      have HT := Lib.hid ht
      clear ht
      by_cases hlt : k < xs.length
      · obtain ⟨ad, u, z, rfl, hz, hz2, hc⟩ := H3.out k hlt
        obtain ⟨ad', u', y, rfl, hy, hy2, hc'⟩ := G3.out k (by omega)
        have HZ := Lib.hid hz
        have HY := Lib.hid hy
        have HZ2 := Lib.hid hz2
        have HY2 := Lib.hid hy2
        clear hz hy hz2 hy2
        go_wp2_with fail
        go_quiet ((go_at_call 33; exact quiet_more (l_eqInt64S _ _ _ _ _ (HZ2.out.drewN _) (HY2.out.drewN _))))
        go_wp2_with fail
        · have hne : (!decide (z = y)) = true := by assumption
          go_ret
          refine ⟨ret_bool ?_, _, World.drewN_drewN _ _ _⟩
          symm
          simp only [decide_eq_false_iff_not]
          rintro rfl
          have := HZ.out.symm.trans HY.out
          simp at this hne
          exact hne this
        · have hne : (!decide (z = y)) = false := by assumption
          go_roundw
          case rel => exact ⟨k + 1, _, by omega, by go_num, rtake_succ HT.out HZ.out HY.out (by simpa using hne), rfl⟩
          case measure => simp [intOf]; omega
      · have : k = xs.length := by omega
        subst this
        go_wp2_with fail
        go_ret
        refine ⟨ret_bool ?_, _, rfl⟩
        have e := HT.out
        rw [List.take_length, List.take_of_length_le (by omega)] at e
        simp [e]
  · have hl' : (((xs.length : Nat) : Int) != ((ys.length : Nat) : Int)) = true := by simp; omega
    have HL := Lib.hid hl
    clear hl
    go_enter Try.func27, Try.ntmps27
    go_wp2
    go_ret
    refine ⟨ret_bool ?_, 0, rfl⟩
    have := HL.out
    symm
    simp only [decide_eq_false_iff_not]
    rintro rfl
    exact this rfl

def szI (left : Int) (n : Nat) : Int := if left - n < 0 then -1 else left - n
def szR : Int → List (List Int) → Int
  | left, [] => left
  | left, zs :: r => if szI left zs.length < 0 then -1 else szR (szI left zs.length) r
def szRows (left : Int) (xss : List (List Int)) : Int := if left - xss.length < 0 then -1 else szR (left - xss.length) xss
theorem szI_le {left : Int} {n : Nat} (h : 0 ≤ szI left n) : (n : Int) ≤ left ∧ szI left n ≤ left := by
  unfold szI at *
  split at h <;> omega
theorem szR_le : ∀ {xss : List (List Int)} {left : Int}, 0 ≤ szR left xss → szR left xss ≤ left ∧ ∀ zs ∈ xss, (zs.length : Int) ≤ left
  | [], left, h => ⟨Int.le_refl _, fun zs hz => by simp at hz⟩
  | zs :: r, left, h => by
    unfold szR at h ⊢
    split at h
    · omega
    · rename_i h1
      rw [if_neg h1]
      have h2 := szI_le (left := left) (n := zs.length) (by omega)
      have h3 := szR_le (xss := r) h
      refine ⟨by omega, fun ys hy => ?_⟩
      rcases List.mem_cons.1 hy with rfl | hy
      · exact h2.1
      · have := h3.2 ys hy; omega
theorem szRows_short {left : Int} {xss : List (List Int)} (h : 0 ≤ szRows left xss) (h1 : left ≤ 4294967296) : Short xss ∧ szRows left xss ≤ left := by
  unfold szRows at *
  split at h
  · omega
  · rename_i h0
    have := szR_le h
    rw [if_neg h0]
    exact ⟨⟨by omega, fun zs hz => by have := this.2 zs hz; omega⟩, by omega⟩

set_option maxHeartbeats 400000 in
theorem l_szInt64S (w : World) (a : Value) (zs : List Int) (left : Int) (ha : Ints w a zs) (h0 : 0 ≤ left) (h1 : left ≤ 4294967296) :
    Calls Try.prog 52 #[a, .int .i64 left] w fun e w' => e = .returned (.int .i64 (szI left zs.length)) ∧ w = w' := by
  obtain ⟨A, c, rfl, g1, g2, g3⟩ := ha.open_
  clear ha g3
  by_cases h : left - zs.length < 0
  · have HF := Lib.hid (show szI left zs.length = -1 by simp [szI, h])
    go_enter Try.func52, Try.ntmps52
    go_wp2
    go_ret
    exact ⟨ret_int HF.out.symm, rfl⟩
  · have HF := Lib.hid (show szI left zs.length = left - zs.length by simp [szI, h])
    go_enter Try.func52, Try.ntmps52
    go_wp2
    go_ret
    exact ⟨ret_int HF.out.symm, rfl⟩

theorem szR_drop {left : Int} {xss : List (List Int)} {k : Nat} {zs : List Int} (h : xss[k]? = some zs) : szR left (xss.drop k) = if szI left zs.length < 0 then -1 else szR (szI left zs.length) (xss.drop (k + 1)) := by
  have hk := (List.getElem?_eq_some_iff.1 h)
  obtain ⟨hk1, hk2⟩ := hk
  rw [List.drop_eq_getElem_cons hk1, hk2]
  rfl

set_option maxHeartbeats 1000000 in
theorem l_szInt64SS (w : World) (a : Value) (xss : List (List Int)) (left : Int) (ha : Rows w a xss) (h0 : 0 ≤ left) (h1 : left ≤ 4294967296) :
    Calls Try.prog 23 #[a, .int .i64 left] w fun e w' => e = .returned (.int .i64 (szRows left xss)) ∧ w = w' := by
  obtain ⟨A, c, rfl, g1, g2, g3⟩ := ha.open_
  have G3 := Lib.hid g3
  clear ha g3
  by_cases h : left - xss.length < 0
  · have HF := Lib.hid (show szRows left xss = -1 by simp [szRows, h])
    go_enter Try.func23, Try.ntmps23
    go_wp2
    go_ret
    exact ⟨ret_int HF.out.symm, rfl⟩
  · have HF := Lib.hid (show szRows left xss = szR (left - xss.length) xss by simp [szRows, h])
    go_enter Try.func23, Try.ntmps23
    go_wp2
    go_loop [1, 5] (fun l i => ∃ (k : Nat) (m : Int), k ≤ xss.length ∧ i = .int .i64 k ∧ l = .int .i64 m ∧ 0 ≤ m ∧ m ≤ 4294967296 ∧ Hid (szR m (xss.drop k) = szR (left - xss.length) xss)) (fun _ i => xss.length - (intOf i).toNat)
    case atStart => exact ⟨0, _, Nat.zero_le _, rfl, rfl, by omega, by omega, rfl⟩
    case round =>
      obtain ⟨k, m, hk, rfl, rfl, hm0, hm1, hI⟩ := hrel
      clear h h0 h1
      by_cases hlt : k < xss.length
      · obtain ⟨ad, u, zs, rfl, hz, hu, hc⟩ := G3.out k hlt
        have HD := Lib.hid (szR_drop (left := m) hz)
        have HU := Lib.hid hu
        clear hz hu
        by_cases hs : szI m zs.length < 0
        · have HS := Lib.hid hs
          go_wp2_with (go_at_call 52; refine (l_szInt64S _ _ _ _ HU.out (by omega) (by omega)).mono ?_; rintro e w' ⟨rfl, rfl⟩)
          go_ret
          refine ⟨ret_int ?_, rfl⟩
          rw [HF.out, ← hI.out, HD.out, if_pos HS.out]
        · have hle := szI_le (left := m) (n := zs.length) (by omega)
          have HS := Lib.hid hs
          go_wp2_with (go_at_call 52; refine (l_szInt64S _ _ _ _ HU.out (by omega) (by omega)).mono ?_; rintro e w' ⟨rfl, rfl⟩)
          go_round
          case rel =>
            refine ⟨k + 1, _, by omega, by go_num, rfl, by omega, by omega, ?_⟩
            unfold Hid
            rw [← hI.out, HD.out, if_neg (by have := HS.out; omega)]
          case measure => simp [intOf]; omega
      · have : k = xss.length := by omega
        subst this
        go_wp2_with fail
        go_ret
        refine ⟨ret_int ?_, rfl⟩
        rw [HF.out, ← hI.out, List.drop_length]
        rfl

/-- a tableau that came in -/
def TabArg (w : World) (v : Value) (A : List (List Int)) (Bs : List Int) : Prop := ∃ va vb, v = .agg #[va, vb] ∧ Rows w va A ∧ Ints w vb Bs
/-- an owned tableau: the rows, the row of rows and the weights lie in blocks of their own -/
def OT (w : World) (B C : Nat) (v : Value) (A : List (List Int)) (Bs : List Int) : Prop :=
  ∃ va vb vs, v = .agg #[va, vb] ∧ Own w B tL va vs ∧ (∀ b, va.ownBlock = some b → b < C) ∧ RowsOwn w B C tI vs A ∧ OI w B C tI vb Bs ∧ ∀ (k : Nat) (u : Value), vs[k]? = some u → Apart u vb

section
variable {w w' : World} {B C B' C' : Nat} {v : Value} {A : List (List Int)} {Bs : List Int}
theorem TabArg.below (h : TabArg w v A Bs) (hb : Below w.heap.size w w') : TabArg w' v A Bs := by
  obtain ⟨va, vb, rfl, h1, h2⟩ := h
  exact ⟨va, vb, rfl, h1.below hb, h2.below hb⟩
theorem TabArg.drewN (h : TabArg w v A Bs) (n : Nat) : TabArg (w.drewN n) v A Bs := h
theorem OT.arg (h : OT w B C v A Bs) : TabArg w v A Bs := by
  obtain ⟨va, vb, vs, rfl, h1, h2, h3, h4, h5⟩ := h
  exact ⟨va, vb, rfl, OR.rows ⟨vs, h1, h2, h3⟩, h4.ints⟩
theorem OT.below (h : OT w B C v A Bs) (hb : Below w.heap.size w w') : OT w' B C v A Bs := by
  obtain ⟨va, vb, vs, rfl, h1, h2, h3, h4, h5⟩ := h
  exact ⟨va, vb, vs, rfl, h1.below hb, h2, h3.below hb, h4.below hb, h5⟩
theorem OT.drewN (h : OT w B C v A Bs) (n : Nat) : OT (w.drewN n) B C v A Bs := h
theorem OT.kept (h : OT w B C v A Bs) (hc : Chg B' C' w w') (hd : C ≤ B' ∨ C' ≤ B) : OT w' B C v A Bs := by
  obtain ⟨va, vb, vs, rfl, h1, h2, h3, h4, h5⟩ := h
  exact ⟨va, vb, vs, rfl, h1.of_block fun b hb => hc.block b (h1.lt b hb) (by have := h1.ge b hb; have := h2 b hb; omega), h2, h3.kept hc hd, h4.kept hc hd, h5⟩
theorem OT.mono (h : OT w B C v A Bs) (h1 : B' ≤ B) (h2 : C ≤ C') : OT w B' C' v A Bs := by
  obtain ⟨va, vb, vs, rfl, g1, g2, g3, g4, g5⟩ := h
  exact ⟨va, vb, vs, rfl, g1.mono h1, fun b hb => Nat.lt_of_lt_of_le (g2 b hb) h2, g3.mono h1 h2, g4.mono h1 h2, g5⟩
theorem RowsOwn.apart {M : Nat} {vs : List Value} {u' : Value} {e : TypeId} (h : RowsOwn w B C e vs A) (hu : ∀ b, u'.ownBlock = some b → C ≤ b ∨ b < B) : ∀ (k : Nat) (u : Value), vs[k]? = some u → Apart u u' := by
  intro k u hk
  have hx : A[k]? = some (A[k]'(by rw [← h.1]; exact (List.getElem?_eq_some_iff.1 hk).1)) := List.getElem?_eq_getElem _
  have ho := h.2.1 k u _ hk hx
  unfold Apart
  cases hb : u.ownBlock with
  | none => exact .inl rfl
  | some b =>
    refine .inr fun e => ?_
    have h1 := ho.2 b hb
    have h2 := ho.1.1.ge b hb
    have h3 := hu b e.symm
    omega
/-- the rows lie before M, the weights from M on -/
theorem OT.of_M {M : Nat} {va vb : Value} (h0 : B ≤ M) (h1 : M ≤ C) (hA : OR w B M tL tI va A) (hB : OI w M C tI vb Bs) : OT w B C (.agg #[va, vb]) A Bs := by
  obtain ⟨vs, g1, g2, g3⟩ := hA
  exact ⟨va, vb, vs, rfl, g1, fun b hb => Nat.lt_of_lt_of_le (g2 b hb) h1, g3.mono (Nat.le_refl _) h1, hB.mono h0 (Nat.le_refl _), g3.apart (M := M) fun b hb => .inl (hB.1.1.ge b hb)⟩
/-- the weights lie before M, the rows from M on -/
theorem OT.of_M' {M : Nat} {va vb : Value} (h0 : B ≤ M) (h1 : M ≤ C) (hB : OI w B M tI vb Bs) (hA : OR w M C tL tI va A) : OT w B C (.agg #[va, vb]) A Bs := by
  obtain ⟨vs, g1, g2, g3⟩ := hA
  exact ⟨va, vb, vs, rfl, g1.mono h0, g2, g3.mono h0 (Nat.le_refl _), hB.mono (Nat.le_refl _) h1, g3.apart (M := M) fun b hb => .inr (hB.2 b hb)⟩
end

set_option maxHeartbeats 1000000 in
theorem l_toTableau (w : World) (v : Value) (A : List (List Int)) (Bs : List Int) (ha : TabArg w v A Bs) (hA : Short A) (hB : Bs.length ≤ 4294967296) :
    Calls Try.prog 15 #[v] w fun e w' => ∃ r, e = .returned r ∧ OT w' w.heap.size w'.heap.size r A Bs ∧ Below w.heap.size w w' := by
  obtain ⟨va, vb, rfl, ha1, ha2⟩ := ha
  have HA := Lib.hid hA
  have H1 := Lib.hid ha1
  have H2 := Lib.hid ha2
  clear ha1 ha2 hA
  go_enter Try.func15, Try.ntmps15
  go_wp2_with fail
  refine (l_toInt64SS _ _ _ (H1.out.below (below3 w _ _ _)) HA.out).mono ?_
  rintro e w1 ⟨v1, rfl, ho1, hb1⟩
  simp only [size_alloc'] at ho1 hb1
  have k0 : Blk w1 w.heap.size 25 #[va, vb] := (((Blk.new w _ _).alloc _).alloc _).below hb1 (by omega)
  have k1 : Blk w1 (w.heap.size + 1) 29 #[.slice none 0 0, .slice none 0 0] := ((Blk.new1 w _ _ _).alloc _).below hb1 (by omega)
  have k2 : Blk w1 (w.heap.size + 1 + 1) 29 #[.slice none 0 0, .slice none 0 0] := (Blk.new2 w _ _ _ _).below hb1 (by omega)
  obtain ⟨A1, c1, hv1, _, _, _⟩ := ho1.rows.open_
  subst hv1
  have hb01 := (below3 w _ _ _).trans (hb1.mono (by omega))
  have hs1 := hb1.size
  simp only [size_alloc'] at hs1
  have f1 := k2.cell 0
  have f2 := k2.frozen 0
  have f3 := k0.cell 1
  have K0 := Lib.hid (k0.far (p := ⟨w.heap.size + 1 + 1, 0, none⟩) (by simp; omega) (.slice A1 A.length c1))
  have K1 := Lib.hid (k1.far (p := ⟨w.heap.size + 1 + 1, 0, none⟩) (by simp) (.slice A1 A.length c1))
  have K2 := Lib.hid (k2.set_ 0 (.slice A1 A.length c1))
  have O1 := Lib.hid (ho1.kept ((Chg.refl (w.heap.size + 1 + 1) (w.heap.size + 1 + 1 + 1) w1).setCell (p := ⟨w.heap.size + 1 + 1, 0, none⟩) (Nat.le_refl _) (by simp) (.slice A1 A.length c1)) (.inr (Nat.le_refl _)))
  have B1 := Lib.hid (hb01.setCell (p := ⟨w.heap.size + 1 + 1, 0, none⟩) (by simp; omega) (.slice A1 A.length c1))
  clear k0 k1 k2 ho1 hb1 hb01
  go_wp2_with fail
  have hs2 : w.heap.size + 1 + 1 + 1 ≤ (w1.setCell ⟨w.heap.size + 1 + 1, 0, none⟩ (.slice A1 A.length c1)).heap.size ∧ w1.heap.size ≤ (w1.setCell ⟨w.heap.size + 1 + 1, 0, none⟩ (.slice A1 A.length c1)).heap.size := by simp [World.setCell]; omega
  generalize w1.setCell ⟨w.heap.size + 1 + 1, 0, none⟩ (.slice A1 A.length c1) = wa at K0 K1 K2 O1 B1 hs2 ⊢
  clear f1 f2 f3
  refine (l_toInt64S _ _ _ (H2.out.below B1.out) hB).mono ?_
  rintro e w2 ⟨v2, rfl, ho2, hb2⟩
  obtain ⟨A2, c2, hv2, _, _, _⟩ := ho2.ints.open_
  subst hv2
  have hs3 := hb2.size
  have k1 := K1.out.below hb2 (by omega)
  have k2 := K2.out.below hb2 (by omega)
  have f0 : w2.cell? ⟨w.heap.size + 1 + 1, 0, none⟩ = some (.slice A1 A.length c1) := k2.cell 0
  have f1 : w2.cell? ⟨w.heap.size + 1 + 1, 1, none⟩ = some (.slice none 0 0) := k2.cell 1
  have f2 := k2.frozen 1
  have f3 : w2.cell? ⟨w.heap.size + 1, 0, none⟩ = some (.slice none 0 0) := k1.cell 0
  have f4 : w2.cell? ⟨w.heap.size + 1, 1, none⟩ = some (.slice none 0 0) := k1.cell 1
  have f5 := k1.frozen 0
  have f6 := k1.frozen 1
  have O2 := Lib.hid ((O1.out.below hb2).kept ((Chg.refl (w.heap.size + 1 + 1) (w.heap.size + 1 + 1 + 1) w2).setCell (p := ⟨w.heap.size + 1 + 1, 1, none⟩) (Nat.le_refl _) (by simp) (.slice A2 Bs.length c2)) (.inr (Nat.le_refl _)))
  have I2 := Lib.hid ((OI.of ho2).kept ((Chg.refl (w.heap.size + 1 + 1) (w.heap.size + 1 + 1 + 1) w2).setCell (p := ⟨w.heap.size + 1 + 1, 1, none⟩) (Nat.le_refl _) (by simp) (.slice A2 Bs.length c2)) (.inr (by omega)))
  have B2 := Lib.hid ((B1.out.trans (hb2.mono (by omega))).setCell (p := ⟨w.heap.size + 1 + 1, 1, none⟩) (by simp; omega) (.slice A2 Bs.length c2))
  have hs4 : (w2.setCell ⟨w.heap.size + 1 + 1, 1, none⟩ (.slice A2 Bs.length c2)).heap.size = w2.heap.size := by simp [World.setCell]
  clear k1 k2 ho2 hb2 K1 K2 O1 B1 K0
  go_wp2_with fail
  have c0 := Chg.refl (w.heap.size + 1) (w.heap.size + 1 + 1) (w2.setCell ⟨w.heap.size + 1 + 1, 1, none⟩ (.slice A2 Bs.length c2))
  have c1' := c0.setCell (p := ⟨w.heap.size + 1, 0, none⟩) (Nat.le_refl _) (by simp) (.slice A1 A.length c1)
  have c2' := c1'.setCell (p := ⟨w.heap.size + 1, 1, none⟩) (Nat.le_refl _) (by simp) (.slice A2 Bs.length c2)
  refine bodyPost_ret (v := .agg #[.slice A1 A.length c1, .slice A2 Bs.length c2]) (by simp [results, Try.results15, go_sem, f3, f4]) rfl ⟨_, rfl, ?_, ?_⟩
  · refine OT.of_M (M := w1.heap.size) (B := w.heap.size) (by omega) ?_ ((O2.out.kept c2' (.inr (by omega))).mono (by omega) (Nat.le_refl _)) ((I2.out.kept c2' (.inr (by omega))).mono (by omega) ?_)
    · have := c2'.size; omega
    · have := c2'.size; omega
  · exact c2'.below B2.out (by omega) (by rw [hs4]; omega)

set_option maxHeartbeats 1000000 in
theorem l_eqTableau (w : World) (v v' : Value) (A A' : List (List Int)) (Bs Bs' : List Int) (ha : TabArg w v A Bs) (hb : TabArg w v' A' Bs') :
    Calls Try.prog 17 #[v, v'] w fun e w' => e = .returned (.bool (decide (A = A') && decide (Bs = Bs'))) ∧ Below w.heap.size w w' := by
  obtain ⟨va, vb, rfl, ha1, ha2⟩ := ha
  obtain ⟨va', vb', rfl, hb1, hb2⟩ := hb
  have H1 := Lib.hid (ha1.below (below2 w (.cells #[va, vb] 29) (.cells #[va', vb'] 29)))
  have H2 := Lib.hid (ha2.below (below2 w (.cells #[va, vb] 29) (.cells #[va', vb'] 29)))
  have G1 := Lib.hid (hb1.below (below2 w (.cells #[va, vb] 29) (.cells #[va', vb'] 29)))
  have G2 := Lib.hid (hb2.below (below2 w (.cells #[va, vb] 29) (.cells #[va', vb'] 29)))
  have BB := Lib.hid (below2 w (.cells #[va, vb] 29) (.cells #[va', vb'] 29))
  clear ha1 ha2 hb1 hb2
  by_cases hA : A = A'
  · have HF := Lib.hid (show (decide (A = A') && decide (Bs = Bs')) = decide (Bs = Bs') by simp [hA])
    have hd : decide (A = A') = true := by simp [hA]
    clear hA
    go_enter Try.func17, Try.ntmps17
    go_wp2_with fail
    refine (l_eqInt64SS _ _ _ _ _ H1.out G1.out).mono ?_
    rintro e w1 ⟨rfl, n1, rfl⟩
    go_wp2_with fail
    refine (l_eqInt64S _ _ _ _ _ (H2.out.drewN n1) (G2.out.drewN n1)).mono ?_
    rintro e w2 ⟨rfl, n2, rfl⟩
    go_wp2_with fail
    all_goals (go_ret; refine ⟨ret_bool ?_, below_drewN BB.out _⟩; rw [HF.out]; simp_all)
  · have HF := Lib.hid (show (decide (A = A') && decide (Bs = Bs')) = false by simp [hA])
    have hd : decide (A = A') = false := by simp [hA]
    clear hA
    go_enter Try.func17, Try.ntmps17
    go_wp2_with fail
    refine (l_eqInt64SS _ _ _ _ _ H1.out G1.out).mono ?_
    rintro e w1 ⟨rfl, n1, rfl⟩
    go_wp2_with fail
    go_ret
    exact ⟨ret_bool HF.out.symm, below_drewN BB.out n1⟩

def szTab (left : Int) (A : List (List Int)) (Bs : List Int) : Int := if szRows left A < 0 then -1 else szI (szRows left A) Bs.length
theorem szTab_short {left : Int} {A : List (List Int)} {Bs : List Int} (h : 0 ≤ szTab left A Bs) (h1 : left ≤ 4294967296) : Short A ∧ Bs.length ≤ 4294967296 ∧ szTab left A Bs ≤ left := by
  unfold szTab at *
  split at h
  · omega
  · rename_i h0
    rw [if_neg h0]
    have a1 := szRows_short (by omega : 0 ≤ szRows left A) h1
    have a2 := szI_le h
    exact ⟨a1.1, by omega, by omega⟩

set_option maxHeartbeats 1000000 in
theorem l_szTableau (w : World) (v : Value) (A : List (List Int)) (Bs : List Int) (left : Int) (ha : TabArg w v A Bs) (h0 : 0 ≤ left) (h1 : left ≤ 4294967296) :
    Calls Try.prog 13 #[v, .int .i64 left] w fun e w' => e = .returned (.int .i64 (szTab left A Bs)) ∧ Below w.heap.size w w' := by
  obtain ⟨va, vb, rfl, ha1, ha2⟩ := ha
  have H1 := Lib.hid (ha1.below (below1 w (.cells #[va, vb] 25)))
  have H2 := Lib.hid (ha2.below (below1 w (.cells #[va, vb] 25)))
  have BB := Lib.hid (below1 w (.cells #[va, vb] 25))
  clear ha1 ha2
  by_cases hs : szRows left A < 0
  · have HF := Lib.hid (show szTab left A Bs = -1 by simp [szTab, hs])
    go_enter Try.func13, Try.ntmps13
    go_wp2_with fail
    refine (l_szInt64SS _ _ _ _ H1.out h0 h1).mono ?_
    rintro e w1 ⟨rfl, rfl⟩
    go_wp2_with fail
    go_ret
    exact ⟨ret_int HF.out.symm, BB.out⟩
  · have hle := (szRows_short (by omega : 0 ≤ szRows left A) h1).2
    have HF := Lib.hid (show szTab left A Bs = szI (szRows left A) Bs.length by simp [szTab, hs])
    have h2 : 0 ≤ szRows left A := by omega
    clear hs
    go_enter Try.func13, Try.ntmps13
    go_wp2_with fail
    refine (l_szInt64SS _ _ _ _ H1.out h0 h1).mono ?_
    rintro e w1 ⟨rfl, rfl⟩
    go_wp2_with fail
    refine (l_szInt64S _ _ _ _ H2.out (by omega) (by omega)).mono ?_
    rintro e w1 ⟨rfl, rfl⟩
    go_wp2_with fail
    · have hs : szI (szRows left A) Bs.length < 0 := by assumption
      go_ret
      refine ⟨ret_int ?_, BB.out⟩
      rw [HF.out]
      unfold szI at hs ⊢
      split at hs <;> rename_i h3
      · rw [if_pos h3]
      · omega
    · go_ret
      exact ⟨ret_int HF.out.symm, BB.out⟩

theorem OT.open_ {w : World} {B C : Nat} {v : Value} {A : List (List Int)} {Bs : List Int} (h : OT w B C v A Bs) : ∃ Aa ca Ab cb, v = .agg #[.slice Aa A.length ca, .slice Ab Bs.length cb] := by
  obtain ⟨va, vb, rfl, h1, h2⟩ := h.arg
  obtain ⟨Aa, ca, rfl, _⟩ := h1.open_
  obtain ⟨Ab, cb, rfl, _⟩ := h2.open_
  exact ⟨_, _, _, _, rfl⟩
theorem TabArg.open_ {w : World} {v : Value} {A : List (List Int)} {Bs : List Int} (h : TabArg w v A Bs) : ∃ Aa ca Ab cb, v = .agg #[.slice Aa A.length ca, .slice Ab Bs.length cb] := by
  obtain ⟨va, vb, rfl, h1, h2⟩ := h
  obtain ⟨Aa, ca, rfl, _⟩ := h1.open_
  obtain ⟨Ab, cb, rfl, _⟩ := h2.open_
  exact ⟨_, _, _, _, rfl⟩
end Go.Proofs.Ytgnmnpjbmdifbaa
