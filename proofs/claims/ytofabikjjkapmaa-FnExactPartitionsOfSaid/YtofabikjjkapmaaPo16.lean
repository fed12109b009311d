/- A list that grows by append while older blocks, and newer ones that were laid behind its first block, are read. No walk. | Walk: l16Less of the reference. | Append of several elements of k cells; slices of lists of such elements. | Walks: l16Piece, l16Pieces of the reference. | Walk: l16Pieces of the reference. | Walk: checkCutMask of the program. -/
import Derived.Test.YtofabikjjkapmaaPo1
import Derived.Test.YtofabikjjkapmaaPo9
import Derived.Test.YtofabikjjkapmaaPo13
import Derived.BigQuiet
import Derived.Deep.QuietTactic
import Derived.Test.YtofabikjjkapmaaPo2
import Derived.Test.YtofabikjjkapmaaPo3
import Derived.Test.YtofabikjjkapmaaPo14
set_option linter.unusedVariables false
set_option linter.unusedSimpArgs false
namespace Go.Proofs.Ytofabikjjkapmaa
open Go.RowKit

theorem ret_bl {a b : Bool} (h : a = b) : Ending.returned (.bool a) = Ending.returned (.bool b) := by rw [h]
/-- wr came from w3 by appends to a list that first lay in block g -/
structure Apd (w3 wr : World) (g : Nat) (o : Value) : Prop where
  gr : w3.grownBy wr (some g)
  ob : ∀ b, o.ownBlock = some b → b = g ∨ w3.heap.size ≤ b
section
variable {w3 wr w5 w6 : World} {g : Nat} {o v1 : Value}
theorem Apd.refl (h : o.ownBlock = some g) : Apd w3 w3 g o := ⟨World.grownBy.refl _ _, fun b hb => .inl (by rw [h] at hb; injection hb with hb; exact hb.symm)⟩
theorem Apd.step (h : Apd w3 wr g o) (hb : Below wr.heap.size wr w5) : Apd w3 w5 g o :=
  ⟨⟨hb.os.trans h.gr.os, hb.tape.trans h.gr.tape, hb.output.trans h.gr.output, Nat.le_trans h.gr.size hb.size, fun k hk hne => (hb.block k (Nat.lt_of_lt_of_le hk h.gr.size)).trans (h.gr.block k hk hne)⟩, h.ob⟩
theorem Apd.app (h : Apd w3 wr g o) (hg : Grow wr w6 o v1) : Apd w3 w6 g v1 := by
  refine ⟨⟨hg.1.os.trans h.gr.os, hg.1.tape.trans h.gr.tape, hg.1.output.trans h.gr.output, Nat.le_trans h.gr.size hg.1.size, fun k hk hne => (hg.1.block k (Nat.lt_of_lt_of_le hk h.gr.size) (fun e => ?_)).trans (h.gr.block k hk hne)⟩, fun b hb => ?_⟩
  · rcases h.ob k e.symm with e2 | e2
    · exact hne (by rw [e2])
    · omega
  · rcases hg.2 with e | ⟨b', e, hle⟩
    · rw [e] at hb; exact h.ob b hb
    · rw [e] at hb
      injection hb with hb
      subst hb
      exact .inr (Nat.le_trans h.gr.size hle)
theorem Apd.cell (h : Apd w3 wr g o) {ad : Addr} {v : Value} (hc : w3.cell? ad = some v) (hne : ad.block ≠ g) : wr.cell? ad = some v := by
  exact h.gr.cell hc (fun e => hne (by injection e))
theorem Apd.ownBlk (h : Apd w3 wr g o) {B : Nat} {e : TypeId} {u : Value} {vs : List Value} (hO : Own w3 B e u vs) (hlt : g < B) : Own wr B e u vs := hO.kept h.gr (by
  cases hb : u.ownBlock with
  | none => exact .inl rfl
  | some b => exact .inr fun e => by injection e with e; have := hO.ge b hb; omega)
theorem Apd.ints (h : Apd w3 wr g o) {B : Nat} {e : TypeId} {u : Value} {zs : List Int} (hO : OwnInts w3 B e u zs) (hlt : g < B) : OwnInts wr B e u zs := ⟨h.ownBlk hO.1 hlt, hO.2⟩
end
end Go.Proofs.Ytofabikjjkapmaa

set_option maxRecDepth 100000
set_option linter.unusedVariables false
set_option linter.unusedSimpArgs false
namespace Go.Proofs.Ytofabikjjkapmaa
open Go.RowKit Go.Sort Go.Shelf

theorem ltP_same {x y : PK} (h : x.2 = y.2) : ltP x y = lexL befN x.1 y.1 := by
  obtain ⟨x1, x2⟩ := x; obtain ⟨y1, y2⟩ := y
  simp only at h
  subst h
  exact lexP_eq STO.bef _ _ _
theorem ltP_ne {x y : PK} (h : x.2 ≠ y.2) : ltP x y = befN x.2 y.2 := by
  obtain ⟨x1, x2⟩ := x; obtain ⟨y1, y2⟩ := y
  simp only at h
  unfold ltP lexP
  simp only
  cases h1 : befN x2 y2 with
  | true => rfl
  | false =>
    cases h2 : befN y2 x2 with
    | true => rfl
    | false => exact absurd (befN_tri h1 h2) h
theorem lexL_drop {a b : List (List Nat)} {k : Nat} {x y : List Nat} (hx : a[k]? = some x) (hy : b[k]? = some y) : lexL befN (a.drop k) (b.drop k) = if x = y then lexL befN (a.drop (k + 1)) (b.drop (k + 1)) else befN x y := by
  have e1 : a.drop k = x :: a.drop (k + 1) := by obtain ⟨hk, rfl⟩ := List.getElem?_eq_some_iff.1 hx; exact List.drop_eq_getElem_cons hk
  have e2 : b.drop k = y :: b.drop (k + 1) := by obtain ⟨hk, rfl⟩ := List.getElem?_eq_some_iff.1 hy; exact List.drop_eq_getElem_cons hk
  rw [e1, e2, lexL]
  by_cases h : x = y
  · subst h
    rw [if_pos rfl, befN_irrefl]; rfl
  · rw [if_neg h]
    cases h1 : befN x y with
    | true => rfl
    | false =>
      cases h2 : befN y x with
      | true => rfl
      | false => exact absurd (befN_tri h1 h2) h
theorem lexL_end {a b : List (List Nat)} {k : Nat} (hk : k ≤ a.length) (hkb : k ≤ b.length) (h : k = a.length ∨ k = b.length) : lexL befN (a.drop k) (b.drop k) = decide (a.length < b.length) := by
  by_cases hb : k < b.length
  · have ha : k = a.length := by omega
    rw [show a.drop k = [] from by rw [ha, List.drop_length]]
    cases hd : b.drop k with
    | nil => have := congrArg List.length hd; simp at this; omega
    | cons y ys => exact (decide_eq_true (by omega)).symm
  · rw [show b.drop k = [] from by rw [List.drop_eq_nil_iff]; omega]
    have hn : ¬ a.length < b.length := by omega
    rw [decide_eq_false hn]
    cases a.drop k with
    | nil => rfl
    | cons x xs => rfl
set_option maxHeartbeats 8000000 in
theorem s_l16Less (W : World) (B B' : Nat) (c c' : List Value) (x y : PK) (n m : Nat) (hx : ePc.D W B c (x, n)) (hy : ePc.D W B' c' (y, m)) :
    Calls Try.prog 54 #[.agg c.toArray, .agg c'.toArray] W fun e w' => e = .returned (.bool (ltP x y)) ∧ Below W.heap.size W w' := by
  obtain ⟨u, s, rfl, hu0, hs0⟩ := hx
  obtain ⟨u', s', rfl, hu0', hs0'⟩ := hy
  have hu := (show LA W B u (x.1.map up) from hu0).rows
  have hu' := (show LA W B' u' (y.1.map up) from hu0').rows
  have hs := (show OwnInts W B tI s (up x.2) from hs0).ints
  have hs' := (show OwnInts W B' tI s' (up y.2) from hs0').ints
  clear hu0 hu0' hs0 hs0'
  obtain ⟨A1, c1, rfl, l1, l2, -⟩ := rowsAt hu
  obtain ⟨A2, c2, rfl, -, -, -⟩ := rowsAt hu'
  obtain ⟨A3, c3, rfl, -, -, -⟩ := hs.open_
  obtain ⟨A4, c4, rfl, -, -, -⟩ := hs'.open_
  simp only [up_len] at hs hs' ⊢
  obtain ⟨W2, hW⟩ : ∃ W2, W2 = (W.alloc (.cells #[.slice A1 x.1.length c1, .slice A3 x.2.length c3, .int .i64 (n : Nat)] tPt)).alloc (.cells #[.slice A2 y.1.length c2, .slice A4 y.2.length c4, .int .i64 (m : Nat)] tPt) := ⟨_, rfl⟩
  have hbw : Below W.heap.size W W2 := by rw [hW]; exact below2 W _ _
  have HBW := Lib.hid hbw
  have hk0 : Blk W2 W.heap.size tPt #[.slice A1 x.1.length c1, .slice A3 x.2.length c3, .int .i64 (n : Nat)] := by rw [hW]; exact (Blk.new W _ _).alloc _
  have hk1 : Blk W2 (W.heap.size + 1) tPt #[.slice A2 y.1.length c2, .slice A4 y.2.length c4, .int .i64 (m : Nat)] := by rw [hW]; exact Blk.new1 W _ _ _
  have p0 : W2.cell? ⟨W.heap.size, 0, none⟩ = some (.slice A1 x.1.length c1) := hk0.cell 0
  have p1 : W2.cell? ⟨W.heap.size, 1, none⟩ = some (.slice A3 x.2.length c3) := hk0.cell 1
  have q0 : W2.cell? ⟨W.heap.size + 1, 0, none⟩ = some (.slice A2 y.1.length c2) := hk1.cell 0
  have q1 : W2.cell? ⟨W.heap.size + 1, 1, none⟩ = some (.slice A4 y.2.length c4) := hk1.cell 1
  have HU := Lib.hid (hu.below hbw)
  have HU' := Lib.hid (hu'.below hbw)
  have HS := Lib.hid (hs.below hbw)
  have HS' := Lib.hid (hs'.below hbw)
  have HSM := Lib.hid (fun q => s_l01Same (W2.drewN q) (.slice A3 x.2.length c3) (.slice A4 y.2.length c4) (up x.2) (up y.2) (HS.out.drewN q) (HS'.out.drewN q))
  have HBF := Lib.hid (fun q => s_l03Before (W2.drewN q) (.slice A3 x.2.length c3) (.slice A4 y.2.length c4) x.2 y.2 (HS.out.drewN q) (HS'.out.drewN q))
  clear hu hu' hs hs' hbw hk0 hk1
  obtain ⟨R, hR⟩ : ∃ R, R = ltP x y := ⟨_, rfl⟩
  rw [← hR]
  have HRQ := Lib.hid hR
  clear hR
  go_enter Try.func54, Try.ntmps54
  go_upto_region 1 with fail
  rw [← hW]
  clear hW
  by_cases he : x.2 = y.2
  · have HR := Lib.hid (HRQ.out.trans (ltP_same he))
    have hd : decide (up x.2 = up y.2) = true := decide_eq_true (by rw [he])
    simp only [hd] at HSM
    clear hd he HBF HRQ
    go_wp2_with (go_at_call 70; refine (HSM.out 0).mono ?_; rintro e w1 ⟨rfl, d, rfl⟩)
    go_loopw [5] (fun i wr => ∃ k q : Nat, k ≤ x.1.length ∧ k ≤ y.1.length ∧ i = .int .i64 k ∧ Hid (R = lexL befN (x.1.drop k) (y.1.drop k)) ∧ wr = W2.drewN q) (fun i _ => x.1.length - (intOf i).toNat)
    case atStart => exact ⟨0, _, Nat.zero_le _, Nat.zero_le _, rfl, HR.out, rfl⟩
    case round =>
      obtain ⟨k, q, hk, hkb, rfl, hI, rfl⟩ := hrel
      by_cases hlt : k < x.1.length
      · have hki : (k : Int) < (x.1.length : Int) := by omega
        by_cases hlb : k < y.1.length
        · have hkj : (k : Int) < (y.1.length : Int) := by omega
          obtain ⟨_, _, he1, -, -, hat1⟩ := rowsAt HU.out
          simp only [Value.slice.injEq, true_and] at he1
          obtain ⟨rfl, rfl⟩ := he1
          obtain ⟨_, _, he2, -, -, hat2⟩ := rowsAt HU'.out
          simp only [Value.slice.injEq, true_and] at he2
          obtain ⟨rfl, rfl⟩ := he2
          obtain ⟨ad, t1, A5, c5, rfl, hx1, hi1, hc1⟩ := hat1 k hlt
          obtain ⟨ad', t2, A6, c6, rfl, hy1, hi2, hc2⟩ := hat2 k hlb
          have HS1 := Lib.hid (fun q => s_l01Same (W2.drewN q) _ _ (up t1) (up t2) (hi1.drewN q) (hi2.drewN q))
          have HB1 := Lib.hid (fun q => s_l03Before (W2.drewN q) _ _ t1 t2 (hi1.drewN q) (hi2.drewN q))
          have hs := hI.out.trans (lexL_drop hx1 hy1)
          by_cases ht : t1 = t2
          · have HS := Lib.hid (show R = lexL befN (x.1.drop (k + 1)) (y.1.drop (k + 1)) from by rw [hs, if_pos ht])
            have hd : decide (up t1 = up t2) = true := decide_eq_true (by rw [ht])
            simp only [hd] at HS1
            clear hd ht hs hx1 hy1 hi1 hi2 HB1 hat1 hat2
            go_wp2_with fail
            go_quiet ((go_at_call 70; exact quiet_more (HS1.out _)))
            go_wp2_with fail
            go_roundw
            case rel => exact ⟨k + 1, _, by omega, by omega, by go_num, HS.out, rfl⟩
            case measure => simp [intOf]; omega
          · have HS := Lib.hid (show R = befN t1 t2 from by rw [hs, if_neg ht])
            have hd : decide (up t1 = up t2) = false := decide_eq_false fun e => ht (up_inj e)
            simp only [hd] at HS1
            generalize befN t1 t2 = bb at HS HB1
            clear hd ht hs hx1 hy1 hi1 hi2 hat1 hat2
            go_wp2_with fail
            go_quiet ((go_at_call 70; exact quiet_more (HS1.out _)))
            go_wp2_with fail
            go_quiet ((go_at_call 82; exact quiet_more (HB1.out _)))
            go_wp2_with fail
            go_ret
            exact ⟨ret_bl HS.out.symm, below_drewN (below_drewN (below_drewN HBW.out _) _) _⟩
        · have hkj : ¬ (k : Int) < (y.1.length : Int) := by omega
          have HS := Lib.hid (hI.out.trans (lexL_end hk hkb (.inr (by omega))))
          go_wp2_with fail
          go_ret
          refine ⟨?_, below_drewN HBW.out _⟩
          rw [HS.out]
          simp
      · have hki : ¬ (k : Int) < (x.1.length : Int) := by omega
        have HS := Lib.hid (hI.out.trans (lexL_end hk hkb (.inl (by omega))))
        go_wp2_with fail
        go_ret
        refine ⟨?_, below_drewN HBW.out _⟩
        rw [HS.out]
        simp
  · have HR := Lib.hid (HRQ.out.trans (ltP_ne he))
    have hd : decide (up x.2 = up y.2) = false := decide_eq_false fun e => he (up_inj e)
    simp only [hd] at HSM
    generalize befN x.2 y.2 = bb at HR HBF
    clear hd he HRQ
    go_wp2_with (first
      | (go_at_call 70; refine (HSM.out 0).mono ?_; rintro e w1 ⟨rfl, d, rfl⟩)
      | (go_at_call 82; refine (HBF.out _).mono ?_; rintro e w2 ⟨rfl, d2, rfl⟩))
    go_ret
    exact ⟨ret_bl HR.out.symm, below_drewN HBW.out _⟩
end Go.Proofs.Ytofabikjjkapmaa

set_option maxRecDepth 100000
set_option linter.unusedVariables false
set_option linter.unusedSimpArgs false
namespace Go.Proofs.Ytofabikjjkapmaa
open Go.RowKit

/-- n elements of k cells that can be read at an address -/
def RdK (w : World) (k : Nat) (A : Option Addr) (ds : List (List Value)) : Prop := (∀ d ∈ ds, d.length = k) ∧ ∃ ad, A = some ad ∧ ∀ j u, ds.flatten[j]? = some u → w.cell? (ad.add j) = some u
theorem RdK.below {w w' : World} {k : Nat} {A : Option Addr} {ds : List (List Value)} (h : RdK w k A ds) (hb : Below w.heap.size w w') : RdK w' k A ds := by
  obtain ⟨h1, ad, h2, h3⟩ := h
  refine ⟨h1, ad, h2, fun j u hj => ?_⟩
  have hc := h3 j u hj
  rw [hb.cell (World.block_lt_of_cell? w _ hc)]
  exact hc
theorem RdK.kept {w w' : World} {k g : Nat} {n c : Nat} {ds : List (List Value)} {row : Option Nat} (h : RdK w k (some ⟨g, n, none⟩) ds) (hg : w.grownBy w' row) (hne : row ≠ some g) : RdK w' k (some ⟨g, n, none⟩) ds := by
  obtain ⟨h1, ad, h2, h3⟩ := h
  injection h2 with h2
  subst h2
  refine ⟨h1, _, rfl, fun j u hj => hg.cell (h3 j u hj) (fun e => hne (by rw [← e, block_add]))⟩
theorem flat_drop {k : Nat} : ∀ {css : List (List Value)} (i : Nat), (∀ c ∈ css, c.length = k) → (css.drop i).flatten = css.flatten.drop (i * k)
  | css, 0, _ => by simp
  | [], i + 1, _ => by simp
  | c :: css, i + 1, h => by
    have hc := h c (by simp)
    rw [List.drop_succ_cons, flat_drop i fun d hd => h d (by simp [hd]), List.flatten_cons, Nat.add_mul, Nat.one_mul, Nat.add_comm (i * k) k, ← List.drop_drop]
    rw [show (c ++ css.flatten).drop k = css.flatten from by rw [← hc]; simp]
theorem flat_take {k : Nat} : ∀ {css : List (List Value)} (i : Nat), (∀ c ∈ css, c.length = k) → (css.take i).flatten = css.flatten.take (i * k)
  | css, 0, _ => by simp
  | [], i + 1, _ => by simp
  | c :: css, i + 1, h => by
    have hc := h c (by simp)
    rw [List.take_succ_cons, List.flatten_cons, List.flatten_cons, flat_take i fun d hd => h d (by simp [hd]), Nat.add_mul, Nat.one_mul, Nat.add_comm (i * k) k, List.take_add]
    rw [show (c ++ css.flatten).take k = c from by rw [← hc]; simp, show (c ++ css.flatten).drop k = css.flatten from by rw [← hc]; simp]
section
variable {w : World} {B g n cap k : Nat} {e : TypeId} {css : List (List Value)}
theorem OwnK.read (h : OwnK w B e k (.slice (some ⟨g, 0, none⟩) n cap) css) : n = css.length ∧ css.length ≤ cap ∧ RdK w k (some ⟨g, 0, none⟩) css := by
  have hn : n = css.length := by obtain ⟨A, c, he, h1, -⟩ := h.open_; simp only [Value.slice.injEq] at he; exact he.2.1
  have hc : css.length ≤ cap := by obtain ⟨A, c, he, h1, -⟩ := h.open_; simp only [Value.slice.injEq] at he; omega
  refine ⟨hn, hc, h.2, _, rfl, fun j u hj => ?_⟩
  rcases h.1.2 with ⟨he, _⟩ | ⟨g', cap', cur, he, h1, h2, h3, h4, h5, h6⟩
  · cases he
  simp only [Value.slice.injEq, Option.some.injEq, Addr.mk.injEq] at he
  obtain ⟨⟨rfl, -⟩, -, rfl⟩ := he
  have hl := (List.getElem?_eq_some_iff.1 hj).1
  rw [addr_add]
  simp only [World.cell?, h2]
  simp only [Option.isSome_none, Bool.false_eq_true, if_false]
  have hf := flat_len h.2
  rw [← h6, List.getElem?_take_of_lt (by rw [hf] at hl; exact hl), Array.getElem?_toList] at hj
  exact hj
/-- 's[i:]' -/
theorem OwnK.from_ (h : OwnK w B e k (.slice (some ⟨g, 0, none⟩) n cap) css) {i : Nat} (hi : i ≤ css.length) :
    ∃ o, sliced (some ⟨g, 0, none⟩) i n cap k = .slice (some ⟨g, o, none⟩) (css.drop i).length (cap - i) ∧ RdK w k (some ⟨g, o, none⟩) (css.drop i) := by
  obtain ⟨rfl, hc, h1, ad, he, h2⟩ := h.read
  injection he with he
  subst he
  unfold sliced
  by_cases hci : cap = i
  · rw [if_pos hci]
    refine ⟨0, by rw [List.length_drop], fun d hd => h1 d (List.mem_of_mem_drop hd), _, rfl, fun j u hj => ?_⟩
    rw [List.drop_eq_nil_of_le (by omega)] at hj
    simp at hj
  · rw [if_neg hci]
    refine ⟨i * k, by rw [List.length_drop, Option.map_some, addr_add], fun d hd => h1 d (List.mem_of_mem_drop hd), _, rfl, fun j u hj => ?_⟩
    rw [flat_drop i h1, List.getElem?_drop] at hj
    have := h2 _ u hj
    rw [addr_add] at this
    by_cases h0 : j = 0
    · subst h0; simpa [Addr.add] using this
    · simpa [Addr.add, h0] using this
/-- 's[:i]' -/
theorem OwnK.to_ (h : OwnK w B e k (.slice (some ⟨g, 0, none⟩) n cap) css) {i : Nat} (hi : i ≤ css.length) :
    sliced (some ⟨g, 0, none⟩) 0 i cap k = .slice (some ⟨g, 0, none⟩) (css.take i).length cap ∧ RdK w k (some ⟨g, 0, none⟩) (css.take i) := by
  obtain ⟨rfl, hc, h1, ad, he, h2⟩ := h.read
  injection he with he
  subst he
  unfold sliced
  have hl : (css.take i).length = i := by rw [List.length_take]; omega
  refine ⟨?_, fun d hd => h1 d (List.mem_of_mem_take hd), _, rfl, fun j u hj => ?_⟩
  · rw [hl, Nat.zero_mul]
    by_cases hc0 : cap = 0
    · rw [if_pos hc0]; rfl
    · rw [if_neg hc0]; simp [Addr.add]
  · rw [flat_take i h1] at hj
    have hjl := (List.getElem?_eq_some_iff.1 hj).1
    rw [List.length_take] at hjl
    rw [List.getElem?_take_of_lt (by omega)] at hj
    exact h2 _ u hj
end
/-- append of several elements of k cells that lie anywhere -/
theorem run_appNK {P : Program} {t e : TypeId} {z : Value} {k bytes B c : Nat} {v : Value} {css ds : List (List Value)} {W : World} {A : Option Addr} (ty : TypeId)
    (T : ElemK P t e z k bytes) (hown : OwnK W B e k v css) (hd : RdK W k A ds) (hlen : css.length + ds.length < 1099511627776) (hB : B ≤ W.heap.size) (hu : ∀ d ∈ ds, ∀ u ∈ d, u.oneCell' = true) :
    ∃ v' w', (Builtin.append_ #[t, t] ty #[v, .slice A ds.length c]).run P W = .ok v' w' ∧ OwnK w' B e k v' (css ++ ds) ∧ Grow W w' v v' := by
  obtain ⟨hk, ad, rfl, hcell⟩ := hd
  obtain ⟨i, hi, hz, h1, h2⟩ := info_parts T.info
  have hby := T.small
  obtain ⟨v', w', hrun, r1, r2, _, r3⟩ := run_append_own_at (P := P) W B t ty e i z k bytes T.under hi hz h1 h2 T.cells T.pos v css.length css.flatten hown.1 ad ds.length c ds.flatten (flat_len hk) hcell (fun u hu' => by obtain ⟨d, hd, hud⟩ := List.mem_flatten.1 hu'; exact hu d hd u hud) (by simp only [maxLen]; omega) (by have := Nat.mul_le_mul_left (css.length + ds.length) hby; omega) hB
  refine ⟨v', w', hrun, ⟨by simpa using r1, fun d hd => ?_⟩, r2, ?_⟩
  · rcases List.mem_append.1 hd with hd | hd
    · exact hown.2 d hd
    · exact hk d hd
  · rcases r3 with r3 | r3
    · exact .inl r3
    · exact .inr ⟨_, r3, Nat.le_refl _⟩
theorem wpList_appNK {P : Program} {ops : Array Oper} {rest : List Oper} {o : Oper} {a : Act} {Q : Exit → Act → World → Prop} {s x : Operand} {t : TypeId}
    {e : TypeId} {z : Value} {k bytes : Nat} {B c : Nat} {v : Value} {css ds : List (List Value)} {W : World} {A : Option Addr}
    (T : ElemK P t e z k bytes) (hown : OwnK W B e k v css) (hd : RdK W k A ds) (hlen : css.length + ds.length < 1099511627776) (hB : B ≤ W.heap.size) (hu : ∀ d ∈ ds, ∀ u ∈ d, u.oneCell' = true)
    (hgd : o.guard = none) (ho : o.op = .call { callee := .builtin .append, args := #[s, x], argTypes := #[t, t] }) (hs : a.eval s = v)
    (hx : a.eval x = .slice A ds.length c)
    (h : ∀ v' w', OwnK w' B e k v' (css ++ ds) → Grow W w' v v' → wpList P ops Q rest (a.put o.dst v') w') : wpList P ops Q (o :: rest) a W := by
  obtain ⟨v', w', hrun, r1, r2⟩ := run_appNK (c := c) o.type T hown hd hlen hB hu
  refine wpList_plain hgd fun K hK => ?_
  unfold Oper.wp execOp
  simp only [ho, resolve, invoke, builtin, Sem.run_bind, Sem.run_pure, Result.andThen_ok, List.map_toArray, List.map_cons, List.map_nil, hs, hx, hrun]
  exact hK _ _ (h v' w' r1 r2)
theorem step_appNK {P : Program} {ops : Array Oper} {o : Oper} {a : Act} {K : Act → World → Prop} {Q : Exit → Act → World → Prop} {E : Prop} {s x : Operand} {t : TypeId}
    {e : TypeId} {z : Value} {k bytes : Nat} {B c : Nat} {v : Value} {css ds : List (List Value)} {W : World} {A : Option Addr}
    (T : ElemK P t e z k bytes) (hown : OwnK W B e k v css) (hd : RdK W k A ds) (hlen : css.length + ds.length < 1099511627776) (hB : B ≤ W.heap.size) (hu : ∀ d ∈ ds, ∀ u ∈ d, u.oneCell' = true)
    (hgd : o.guard = none) (ho : o.op = .call { callee := .builtin .append, args := #[s, x], argTypes := #[t, t] }) (hs : a.eval s = v)
    (hx : a.eval x = .slice A ds.length c)
    (h : ∀ v' w', OwnK w' B e k v' (css ++ ds) → Grow W w' v v' → K (a.put o.dst v') w') :
    if Region.wanted o (yielded ops a.tmps) = true then Oper.wp P o a W K Q else E := by
  have hw : Region.wanted o (yielded ops a.tmps) = true := by simp [Region.wanted, hgd]
  rw [if_pos hw]
  obtain ⟨v', w', hrun, r1, r2⟩ := run_appNK (c := c) o.type T hown hd hlen hB hu
  unfold Oper.wp execOp
  simp only [ho, resolve, invoke, builtin, Sem.run_bind, Sem.run_pure, Result.andThen_ok, List.map_toArray, List.map_cons, List.map_nil, hs, hx, hrun]
  exact h v' w' r1 r2
end Go.Proofs.Ytofabikjjkapmaa

set_option maxRecDepth 100000
set_option linter.unusedVariables false
set_option linter.unusedSimpArgs false
namespace Go.Proofs.Ytofabikjjkapmaa
open Go.RowKit

abbrev tB : TypeId := 4
theorem T_bool : ElemT Try.prog 103 4 (.bool false) 1 := ⟨Try.underlying103, by kernel_rfl, rfl, by omega⟩
def bools (bs : List Bool) : List Value := bs.map Value.bool
theorem bools_len (bs : List Bool) : (bools bs).length = bs.length := by simp [bools]
theorem parN_at {t : List Nat} {l : Nat} : ∀ {k p : Nat}, parN t l k = p + 1 → t.getD p 0 + 1 = l
  | 0, p, h => by cases h
  | k + 1, p, h => by
    rw [parN] at h
    cases hb : Nat.beq (t.getD k 0 + 1) l with
    | true =>
      rw [hb] at h
      simp only [cond_true] at h
      have := Nat.eq_of_beq_eq_true hb
      have e : k = p := by omega
      subst e
      exact this
    | false => rw [hb] at h; exact parN_at h

theorem pieF_cons (t : List Nat) (m root l : Nat) (ls : List Nat) (i : Nat) (inn : List Bool) (out : List Nat) : pieF t m root (l :: ls) i inn out =
    bif Nat.blt root (parN t l i) && (inn.getD (parN t l i - 1) false && !m.testBit i) then pieF t m root ls (i + 1) (inn.set i true) (out ++ [l - t.getD root 0]) else pieF t m root ls (i + 1) inn out := rfl

set_option maxHeartbeats 4000000 in
theorem s_l16Piece (w : World) (v : Value) (t : List Nat) (m root : Nat) (r : List Nat) (ha : Ints w v (up t)) (h8 : t.length ≤ 8) (hroot : root < t.length) (hm : m < 256) (hl : ∀ l ∈ t, l ≤ 1000000) (hr : canO 9 (pieN t m root) = some r) :
    Calls Try.prog 79 #[v, .int .i64 m, .int .i64 root] w fun e w' => ∃ x, e = .returned x ∧ OwnInts w' w.heap.size tI x (up r) ∧ Below w.heap.size w w' := by
  have HA := Lib.hid ha
  have HL := Lib.hid hl
  have HR := Lib.hid hr
  have HM := Lib.hid hm
  obtain ⟨A, c, rfl, l1, l2, h3⟩ := ha.open_
  rw [up_len] at l1 HA h3 ⊢
  have H3 := Lib.hid h3
  have OL := Lib.hid (show OwnInts (w.alloc (.cells #[.int .i64 0] tI)) w.heap.size tI (.slice (some ⟨w.heap.size, 0, none⟩) 1 1) (up [0]) from ⟨own_lit w tI [.int .i64 0] (by simp [maxLen]), fun z hz => by simp [up] at hz; subst hz; unfold In64; omega⟩)
  have hri : (root : Int) < (t.length : Int) := by omega
  have hr0 : (0 : Int) ≤ (root : Int) := by omega
  have hw1 : IntKind.i64.wrap ((root : Int) + 1) = (root : Int) + 1 := IntWalk.i64_in _ (by omega)
  clear ha hl hr hm h3
  go_enter Try.func79, Try.ntmps79
  go_wp2_with (at_make; refine wpList_mk rfl _ _ _ rfl _ _ _ T_bool t.length _ (by rfl) (by rfl) (by rfl) (by omega) _ ?_; intro w1 hown hb hs1; have hb' := hb; rw [size_alloc'] at hown hb' hs1; obtain ⟨u0, -, q0, q1, -, -, hst, hgb⟩ := hown.storeAt (k := root) (by simp; exact hroot) (.bool true); have HST := Lib.hid (hst.mono (Nat.le_succ _)); have HO1 := Lib.hid ((OL.out.below hb).kept (v' := .slice (some ⟨w.heap.size + 1, 0, none⟩) t.length t.length) hgb (((OL.out.below hb).1.bt).ne hown.bt (by decide))); have HB1 := Lib.hid (((below1 w (.cells #[.int .i64 0] tI)).trans (hb'.mono (Nat.le_succ _))).setCell (p := ⟨w.heap.size + 1, root, none⟩) (Nat.le_succ _) (.bool true)); clear hown hb hb' hst hgb)
  have HIN0 := Lib.hid (show Own (w1.setCell ⟨w.heap.size + 1, root, none⟩ (.bool true)) w.heap.size tB (.slice (some ⟨w.heap.size + 1, 0, none⟩) t.length t.length) (bools ((List.replicate t.length false).set root true)) from by
    simpa [bools, List.map_set] using HST.out)
  have HG := Lib.hid (show w.heap.size ≤ w.heap.size + 1 from Nat.le_succ _)
  generalize hgg : w.heap.size + 1 = g at HIN0 HO1 HB1 HG ⊢
  generalize (w1.setCell ⟨g, root, none⟩ (.bool true)) = w5 at HIN0 HO1 HB1 ⊢
  have HLR := Lib.hid (HL.out (t[root]'hroot) (List.getElem_mem _))
  clear OL HST q0 q1 hs1 hgg
  go_loopw [7, 9] (fun o x wr => ∃ (i : Nat) (inn : List Bool) (out : List Nat), root + 1 ≤ i ∧ i ≤ t.length ∧ x = .int .i64 i ∧ Own wr w.heap.size tB (.slice (some ⟨g, 0, none⟩) t.length t.length) (bools inn) ∧ inn.length = t.length ∧
    OwnInts wr w.heap.size tI o (up out) ∧ Below w.heap.size w wr ∧ Hid (pieF t m root (t.drop i) i inn out = pieN t m root) ∧ out.length ≤ i ∧ Hid (∀ l ∈ out, l ≤ 1000000) ∧ Hid (∀ k, inn[k]? = some true → t.getD root 0 ≤ t.getD k 0)) (fun _ x _ => t.length - (intOf x).toNat)
  case atStart =>
    refine ⟨root + 1, _, [0], Nat.le_refl _, hroot, by go_num, HIN0.out, by simp, HO1.out, HB1.out, rfl, by simp, fun l hl => by simp at hl; omega, fun k hk => ?_⟩
    by_cases hkr : root = k
    · subst hkr; exact Nat.le_refl _
    · rw [List.getElem?_set_ne hkr, List.getElem?_replicate] at hk
      split at hk <;> cases hk
  case round =>
    obtain ⟨i, inn, out, hri1, hit, rfl, hin, hil, hout, hbw, HP, hol, HOL, HIL⟩ := hrel
    clear HIN0 HO1 HB1
    have HIN := Lib.hid hin
    have HIE := Lib.hid hil
    have HOU := Lib.hid hout
    have HB := Lib.hid hbw
    clear hin hil hout hbw
    by_cases hlt : i < t.length
    · obtain ⟨ad, zi, rfl, hzi, -, hci0⟩ := H3.out i hlt
      obtain ⟨ad', zr, hae, hzr, -, hcr0⟩ := H3.out root hroot
      injection hae with hae
      subst hae
      obtain ⟨L, hL, rfl⟩ := up_getD hzi
      obtain ⟨R, hR, rfl⟩ := up_getD hzr
      have hLi : t[i]'hlt = L := by rw [List.getElem?_eq_getElem hlt] at hL; injection hL
      have hgR : t.getD root 0 = R := by simp [List.getD, hR]
      have hgL : t.getD i 0 = L := by simp [List.getD, hL]
      have hci : ∀ W : World, Below w.heap.size w W → W.cell? (ad.add i) = some (.int .i64 (L : Int)) := fun W hW => by
        rw [hW.cell (by rw [block_add]; have := World.block_lt_of_cell? w _ hci0; rwa [block_add] at this)]; exact hci0
      have hcr : ∀ W : World, Below w.heap.size w W → W.cell? (ad.add root) = some (.int .i64 (R : Int)) := fun W hW => by
        rw [hW.cell (by rw [block_add]; have := World.block_lt_of_cell? w _ hcr0; rwa [block_add] at this)]; exact hcr0
      have HCI := Lib.hid hci
      have HCR := Lib.hid hcr
      have HLB := Lib.hid (HL.out L (List.mem_of_getElem? hL))
      have hpf := HP.out
      rw [List.drop_eq_getElem_cons hlt, hLi, pieF_cons, hgR] at hpf
      have hp1 := fun W (h : Ints W (.slice (some ad) t.length c) (up t)) => s_l16Parent W _ t i h hlt HL.out
      simp only [hgL] at hp1
      have hpl := parN_le t L i
      have hpa := fun p => @parN_at t L i p
      have HGR := Lib.hid hgR
      have HGL := Lib.hid hgL
      have HIL2 := Lib.hid HIL.out
      obtain ⟨hb0, -⟩ := bit64 m i HM.out
      have hii : (i : Int) < (t.length : Int) := by omega
      have hi0 : (0 : Int) ≤ (i : Int) := by omega
      have hi64 : (i : Int) ≤ 64 := by omega
      have hwu : IntKind.u64.wrap (i : Int) = (i : Int) := IntWalk.u64_in _ (by omega)
      generalize parN t L i = p at hpf hp1 hpl hpa
      have HPA := Lib.hid hpa
      clear hci0 hcr0 hzi hzr hL hR hLi hgR hgL hci hcr hpa HP
      by_cases hrp : root < p
      · obtain ⟨k, rfl⟩ : ∃ k, p = k + 1 := ⟨p - 1, by omega⟩
        have hkz : (((k + 1 : Nat) : Int) - 1) = (k : Int) := by omega
        simp only [hkz] at hp1
        have HP1 := Lib.hid hp1
        rw [(blt_iff _ _).2 hrp, Nat.add_sub_cancel, Bool.true_and] at hpf
        have hge : (root : Int) ≤ (k : Int) := by omega
        have hge2 : root ≤ k := by omega
        have hki : (k : Int) < (t.length : Int) := by omega
        have hk0 : (0 : Int) ≤ (k : Int) := by omega
        have hkt : k < inn.length := by rw [HIE.out]; omega
        have hbk : inn[k]? = some (inn[k]'hkt) := List.getElem?_eq_getElem _
        have hgb : inn.getD k false = inn[k]'hkt := by simp [List.getD, hbk]
        rw [hgb] at hpf
        have hbc : ∀ n, (wr.drewN n).cell? ⟨g, k, none⟩ = some (.bool (inn[k]'hkt)) := fun n => by
          have h := HIN.out.cells
          obtain ⟨ad2, n2, c2, he, hc⟩ := h.at_ (k := k) (u := .bool (inn[k]'hkt)) (by simp [bools, hbk])
          simp only [Value.slice.injEq, Option.some.injEq] at he
          obtain ⟨rfl, -, -⟩ := he
          rw [addr_add] at hc
          exact hc
        have HKA := Lib.hid (HPA.out k rfl)
        have HIK := Lib.hid hbk
        generalize inn[k]'hkt = b at hpf hbc HIK
        clear hbk hgb hp1 hkz hrp HPA
        cases b with
        | false =>
          rw [Bool.false_and] at hpf
          have HPF := Lib.hid hpf
          clear hpf
          go_wp2_with (go_at_call 81; refine (HP1.out _ (HA.out.below HB.out)).mono ?_; rintro e w2 ⟨rfl, n2, rfl⟩)
          go_roundw
          case rel => exact ⟨i + 1, inn, out, by omega, by omega, by go_num, HIN.out.drewN n2, HIE.out, ⟨HOU.out.1.drewN n2, HOU.out.2⟩, below_drewN HB.out n2, HPF.out, by omega, HOL, HIL⟩
          case measure => simp [intOf]; omega
        | true =>
          rw [Bool.true_and] at hpf
          cases hbt : m.testBit i with
          | true =>
            rw [hbt] at hb0 hpf
            simp only [Bool.not_true] at hb0 hpf
            have HPF := Lib.hid hpf
            clear hpf hbt
            go_wp2_with (go_at_call 81; refine (HP1.out _ (HA.out.below HB.out)).mono ?_; rintro e w2 ⟨rfl, n2, rfl⟩)
            go_roundw
            case rel => exact ⟨i + 1, inn, out, by omega, by omega, by go_num, HIN.out.drewN n2, HIE.out, ⟨HOU.out.1.drewN n2, HOU.out.2⟩, below_drewN HB.out n2, HPF.out, by omega, HOL, HIL⟩
            case measure => simp [intOf]; omega
          | false =>
            rw [hbt] at hb0 hpf
            simp only [Bool.not_false, cond_true] at hb0 hpf
            have HPF := Lib.hid hpf
            have hRL : R ≤ L := by have h1 := HIL2.out k HIK.out; have h2 := HKA.out; rw [HGR.out] at h1; omega
            have hsub : ((L : Int) - (R : Int)) = ((L - R : Nat) : Int) := by omega
            have HSUB := Lib.hid hsub
            have hl6 := HLB.out
            have hwz : IntKind.i64.wrap ((L : Int) - (R : Int)) = (L : Int) - (R : Int) := IntWalk.i64_in _ (by omega)
            have hz64 : In64 ((L : Int) - (R : Int)) := by unfold In64; omega
            clear hpf hbt hsub
            go_upto_region 9 with (go_at_call 81; refine (HP1.out _ (HA.out.below HB.out)).mono ?_; rintro e w2 ⟨rfl, n2, rfl⟩)
            obtain ⟨u0, -, q0, q1, -, -, hst, hgb⟩ := (HIN.out.drewN n2).storeAt (k := i) (by rw [bools_len, HIE.out]; exact hlt) (.bool true)
            have HST := Lib.hid (show Own ((wr.drewN n2).setCell ⟨g, i, none⟩ (.bool true)) w.heap.size tB (.slice (some ⟨g, 0, none⟩) t.length t.length) (bools (inn.set i true)) from by simpa [bools, List.map_set] using hst)
            have HO1 := Lib.hid (OwnInts.kept (w := wr.drewN n2) (v' := .slice (some ⟨g, 0, none⟩) t.length t.length) ⟨HOU.out.1.drewN n2, HOU.out.2⟩ hgb ((HOU.out.1.drewN n2).bt.ne (HIN.out.drewN n2).bt (by decide)))
            have HB1 := Lib.hid ((below_drewN HB.out n2).setCell (p := ⟨g, i, none⟩) (by have := HG.out; omega) (.bool true))
            go_upto_region 10 with fail
            generalize ((wr.drewN n2).setCell ⟨g, i, none⟩ (.bool true)) = w6 at HST HO1 HB1 ⊢
            clear hst hgb q0 q1
            have c1 := HCI.out w6 HB1.out
            have c2 := HCR.out w6 HB1.out
            have hB6 := HB1.out.size
            go_region_law (refine stp_app1 T_int (B := w.heap.size) (W := w6.drew.alloc (.cells #[.int .i64 ((L : Int) - (R : Int))] tI)) (u := .int .i64 ((L : Int) - (R : Int))) (ad := ⟨w6.heap.size, 0, none⟩) (HO1.out.1.below (((Below.refl _ _).drew).alloc (Nat.le_refl _) _)) (by rw [ints_len, up_len]; omega) (by simp; omega) (by rfl) rfl (by rfl) (by rfl) (by rfl) ((Blk.new w6.drew _ _).cell 0) ?_; intro v7 w7 hown7 hgr7)
            all_goals
              have HN7 := Lib.hid hown7
              have hbd : Below w6.heap.size w6 (w6.drew.alloc (.cells #[.int .i64 ((L : Int) - (R : Int))] tI)) := ((Below.refl _ _).drew).alloc (Nat.le_refl _) _
              have HB7 := Lib.hid (hgr7.below (HB1.out.trans (hbd.mono hB6)) (by simp; omega) HO1.out.1.ge)
              have HI7 := Lib.hid ((HST.out.below hbd).kept hgr7.1 ((HST.out.below hbd).bt.ne (HO1.out.1.below hbd).bt (by decide)))
              clear hown7 hgr7 hbd c1 c2
              go_wp2_with fail
              go_roundw
              case rel =>
                refine ⟨i + 1, inn.set i true, out ++ [L - R], by omega, by omega, by go_num, HI7.out, by rw [List.length_set]; exact HIE.out, ?_, HB7.out, HPF.out, by simp; omega, fun l hl => ?_, fun k2 hk2 => ?_⟩
                · rw [up_append]
                  have e : up [L - R] = [(L : Int) - (R : Int)] := by rw [HSUB.out]; rfl
                  rw [e]
                  exact ⟨by simpa [ints] using HN7.out, fun y hy => by rcases List.mem_append.1 hy with hy | hy; exact HOU.out.2 y hy; simp at hy; subst hy; exact hz64⟩
                · rcases List.mem_append.1 hl with hl | hl
                  · exact HOL.out l hl
                  · simp at hl; omega
                · by_cases hik : i = k2
                  · subst hik; rw [HGR.out, HGL.out]; exact hRL
                  · rw [List.getElem?_set_ne hik] at hk2; exact HIL2.out k2 hk2
              case measure => simp [intOf]; omega
      · have hkz : ∃ z : Int, z = (p : Int) - 1 := ⟨_, rfl⟩
        obtain ⟨z, hz⟩ := hkz
        simp only [← hz] at hp1
        have HP1 := Lib.hid hp1
        have hge : ¬ ((root : Int) ≤ z) := by omega
        have hge2 : decide ((root : Int) ≤ z) = false := by simp; omega
        have hbl : Nat.blt root p = false := by
          cases h : Nat.blt root p with
          | true => exact absurd ((blt_iff _ _).1 h) hrp
          | false => rfl
        rw [hbl, Bool.false_and] at hpf
        have HPF := Lib.hid hpf
        clear hpf hp1 hz hbl hrp
        go_wp2_with (go_at_call 81; refine (HP1.out _ (HA.out.below HB.out)).mono ?_; rintro e w2 ⟨rfl, n2, rfl⟩)
        go_roundw
        case rel => exact ⟨i + 1, inn, out, by omega, by omega, by go_num, HIN.out.drewN n2, HIE.out, ⟨HOU.out.1.drewN n2, HOU.out.2⟩, below_drewN HB.out n2, HPF.out, by omega, HOL, HIL⟩
        case measure => simp [intOf]; omega
    · have : i = t.length := by omega
      subst this
      have hpf := HP.out
      rw [List.drop_eq_nil_of_le (Nat.le_refl _), pieF] at hpf
      subst hpf
      obtain ⟨A5, c5, ho5, -, -, -⟩ := HOU.out.ints.open_
      rw [up_len] at ho5
      subst ho5
      have hlt' : ¬ ((t.length : Int) < (t.length : Int)) := by omega
      have HPN := Lib.hid HOL.out
      clear HP HIL HOL
      go_wp2_with (go_at_call 34; refine (s_l03Canon 9 _ _ (pieN t m root) r HOU.out.ints HR.out (by omega) HPN.out).mono ?_; rintro e w6 ⟨x6, rfl, hx6, hb6⟩; have HX6 := Lib.hid hx6; have HB6 := Lib.hid hb6; clear hx6 hb6)
      go_ret
      exact ⟨_, rfl, HX6.out.mono HB.out.size, HB.out.trans (HB6.out.mono HB.out.size)⟩

end Go.Proofs.Ytofabikjjkapmaa

set_option maxRecDepth 100000
set_option linter.unusedVariables false
set_option linter.unusedSimpArgs false
namespace Go.Proofs.Ytofabikjjkapmaa
open Go.RowKit

set_option maxHeartbeats 4000000 in
theorem s_l16Pieces (w : World) (v : Value) (t : List Nat) (m : Nat) (pcs : List (List Nat)) (ha : Ints w v (up t)) (h8 : t.length ≤ 8) (h0 : 0 < t.length) (hm : m < 256) (hl : ∀ l ∈ t, l ≤ 1000000)
    (hp : mapO (fun i => canO 9 (pieN t m i)) (0 :: cutsN m (t.length - 1) 1) = some pcs) (hpl : ∀ i < t.length, (pieN t m i).length ≤ 8) :
    Calls Try.prog 52 #[v, .int .i64 m] w fun e w' => ∃ x, e = .returned x ∧ LA w' w.heap.size x ((srtB pcs).map up) ∧ Below w.heap.size w w' := by
  have HA := Lib.hid ha
  have HL := Lib.hid hl
  have HM := Lib.hid hm
  have HP := Lib.hid hp
  have HPL := Lib.hid hpl
  obtain ⟨A, c, rfl, l1, l2, -⟩ := ha.open_
  rw [up_len] at l1 HA ⊢
  obtain ⟨p0, rest, hpe, hp0, hrest⟩ := mapO_cons hp
  have HP0 := Lib.hid (s_l16Piece w _ t m 0 p0 HA.out h8 h0 hm hl hp0)
  have HREST := Lib.hid hrest
  have HPE := Lib.hid hpe
  have h00 : (((0 : Nat) : Int)) = 0 := rfl
  have HRL := Lib.hid (mapO_len hrest)
  have HCL := Lib.hid (show ∀ n i, (cutsN m n i).length ≤ n from by
    intro n
    induction n with
    | zero => intro i; exact Nat.le_refl _
    | succ n ih => intro i; rw [cutsN]; cases m.testBit i <;> simp <;> have := ih (i + 1) <;> omega)
  rw [h00] at HP0
  clear ha hl hm hp hpl hp0 hrest hpe h00
  go_enter Try.func52, Try.ntmps52
  go_wp2_with (go_at_call 79; refine HP0.out.mono ?_; rintro e w1 ⟨x1, rfl, ho1, hb1⟩; obtain ⟨A1, c1, he1, -, -, -⟩ := ho1.ints.open_; rw [up_len] at he1; subst he1; have OL := Lib.hid (show Own (w1.alloc (.cells #[.slice A1 p0.length c1] tL)) w.heap.size tL (.slice (some ⟨w1.heap.size, 0, none⟩) 1 1) [.slice A1 p0.length c1] from (own_lit w1 tL [.slice A1 p0.length c1] (by simp [maxLen])).mono hb1.size); have OR1 := Lib.hid (show RR (w1.alloc (.cells #[.slice A1 p0.length c1] tL)) w.heap.size [.slice A1 p0.length c1] [up p0] from RR.one (ho1.below (below1 w1 _))); have HB1 := Lib.hid (hb1.trans ((below1 w1 (.cells #[.slice A1 p0.length c1] tL)).mono hb1.size)); clear ho1 hb1)
  go_loopw [5, 6] (fun o x wr => ∃ (i : Nat) (vs : List Value), i + 1 ≤ t.length ∧ x = .int .i64 ((i : Int) + 1) ∧ Own wr w.heap.size tL o vs ∧ RR wr w.heap.size vs ((p0 :: rest.take (cutsN m i 1).length).map up) ∧ Below w.heap.size w wr) (fun _ x _ => t.length - (intOf x).toNat)
  case atStart => exact ⟨0, _, by omega, rfl, OL.out, by simpa [cutsN] using OR1.out, HB1.out⟩
  case round =>
    obtain ⟨i, vs, hi, rfl, hown, hrr, hbw⟩ := hrel
    clear OL OR1 HB1
    have HO := Lib.hid hown
    have HRR := Lib.hid hrr
    have HBW := Lib.hid hbw
    by_cases hlt : i + 1 < t.length
    · have hii : (i : Int) + 1 < (t.length : Int) := by omega
      have hi0 : (0 : Int) ≤ (i : Int) + 1 := by omega
      have hi64 : (i : Int) + 1 ≤ 64 := by omega
      have hwu : IntKind.u64.wrap ((i : Int) + 1) = (i : Int) + 1 := IntWalk.u64_in _ (by omega)
      have hcs := cutsN_succ m i 1
      rw [Nat.add_comm 1 i] at hcs
      obtain ⟨-, hb1⟩ := bit64 m (i + 1) HM.out
      have htn : ((i : Int) + 1).toNat = i + 1 := by omega
      have hw1 : IntKind.i64.wrap ((i : Int) + 1 + 1) = (i : Int) + 1 + 1 := IntWalk.i64_in _ (by omega)
      cases hbt : m.testBit (i + 1) with
      | false =>
        rw [hbt] at hb1 hcs
        have HCS := Lib.hid hcs
        clear hbt hown hrr hbw hcs
        go_wp2_with fail
        go_roundw
        case rel =>
          refine ⟨i + 1, vs, by omega, by go_num, HO.out, ?_, HBW.out⟩
          rw [HCS.out]
          simpa using HRR.out
        case measure => simp [intOf]; omega
      | true =>
        rw [hbt, if_pos rfl] at hcs
        rw [hbt] at hb1
        have hall : ∀ n, cutsN m (t.length - 1) 1 = cutsN m n 1 ++ (cutsN m (t.length - 1) 1).drop (cutsN m n 1).length ∨ ¬ n ≤ t.length - 1 := by
          intro n
          by_cases hn : n ≤ t.length - 1
          · left
            have : ∀ k, cutsN m (n + k) 1 = cutsN m n 1 ++ (cutsN m (n + k) 1).drop (cutsN m n 1).length := by
              intro k
              induction k with
              | zero => simp
              | succ k ih =>
                rw [show n + (k + 1) = (n + k) + 1 from rfl, cutsN_succ, ih]
                simp [List.drop_append]
            have h := this (t.length - 1 - n)
            rwa [show n + (t.length - 1 - n) = t.length - 1 by omega] at h
          · exact .inr hn
        have hat : (cutsN m (t.length - 1) 1)[(cutsN m i 1).length]? = some (i + 1) := by
          rcases hall (i + 1) with h | h
          · rw [h, hcs, List.append_assoc, List.getElem?_append_right (Nat.le_refl _), Nat.sub_self]; rfl
          · exact absurd (show i + 1 ≤ t.length - 1 by omega) h
        obtain ⟨q, hq, hqc⟩ := mapO_get HREST.out _ _ hat
        have hpc := s_l16Piece wr _ t m (i + 1) q (HA.out.below hbw) h8 hlt HM.out HL.out hqc
        have hcast : (((i + 1 : Nat)) : Int) = (i : Int) + 1 := by omega
        rw [hcast] at hpc
        have HPC := Lib.hid hpc
        have HTK := Lib.hid (show rest.take (cutsN m (i + 1) 1).length = rest.take (cutsN m i 1).length ++ [q] by rw [hcs, List.length_append, List.length_singleton, List.take_add_one, hq]; rfl)
        have hvl : vs.length ≤ 1000 := by have h1 := hrr.1; have h2 := HCL.out i 1; simp at h1; omega
        clear hbt hown hrr hbw hcs hall hat hq hqc hpc hcast
        go_wp2_with (first
          | (go_at_call 79; refine HPC.out.mono ?_; rintro e w2 ⟨r2, rfl, ho2, hb2⟩; obtain ⟨A5, c5, he5, -, -, -⟩ := ho2.ints.open_; rw [up_len] at he5; subst he5; have HO2 := Lib.hid (ho2.mono HBW.out.size); have HBI := Lib.hid hb2; have HB2 := Lib.hid (HBW.out.trans (hb2.mono HBW.out.size)); have HOW := Lib.hid (HO.out.below hb2); clear ho2 hb2)
          | (at_builtin; refine wpList_app1 T_row HOW.out (by omega) HB2.out.size (by rfl) rfl (by rfl) (by rfl) (by rfl) ?_; intro v1 w5 hown1 hgr1; have HN1 := Lib.hid hown1; have HGR := Lib.hid hgr1.1; have HB5 := Lib.hid (hgr1.below HB2.out HB2.out.size HOW.out.ge); clear hown1 hgr1))
        go_roundw
        case rel =>
          refine ⟨i + 1, _, by omega, by go_num, HN1.out, ?_, HB5.out⟩
          rw [HTK.out, ← List.cons_append, List.map_append]
          exact LL.snoc HOW.out (HRR.out.below HBI.out) HO2.out HN1.out HGR.out
        case measure => simp [intOf]; omega
    · have hin : i = t.length - 1 := by omega
      have HE := Lib.hid (show p0 :: rest.take (cutsN m i 1).length = pcs from by rw [hin, ← HRL.out, List.take_length]; exact HPE.out.symm)
      rw [HE.out] at HRR
      have HSB := Lib.hid (show ∀ b ∈ pcs, b.length ≤ 1000 from fun b hb => by
        obtain ⟨x, hx, hxb⟩ := mapO_all HP.out b hb
        have hxt : x < t.length := by
          rcases List.mem_cons.1 hx with rfl | hx
          · omega
          · have : ∀ n i, ∀ x ∈ cutsN m n i, x < i + n := by
              intro n
              induction n with
              | zero => intro i x hx; simp [cutsN] at hx
              | succ n ih =>
                intro i x hx
                rw [cutsN] at hx
                cases hb : m.testBit i with
                | true =>
                  rw [hb] at hx
                  simp only [cond_true] at hx
                  rcases List.mem_cons.1 hx with rfl | hx
                  · omega
                  · have := ih (i + 1) x hx; omega
                | false => rw [hb] at hx; have := ih (i + 1) x hx; omega
            have := this _ _ x hx
            omega
        rw [canO_len hxb]
        have := HPL.out x hxt
        omega)
      have HPN := Lib.hid (show pcs.length ≤ 1000 from by rw [mapO_len HP.out]; have := HCL.out (t.length - 1) 1; simp; omega)
      have hlt' : ¬ ((i : Int) + 1 < (t.length : Int)) := by omega
      have HROW := Lib.hid (HRR.out.rows HO.out)
      obtain ⟨A2, c2, rfl, -, -⟩ := hown.cells.open_
      clear hown hrr hbw hin
      go_wp2_with (go_at_call 80; refine (s_l03Sort _ _ pcs HROW.out HPN.out HSB.out).mono ?_; rintro e w6 ⟨x6, rfl, hx6, hb6⟩; have HX6 := Lib.hid hx6; have HB6 := Lib.hid hb6; clear hx6 hb6)
      go_ret
      exact ⟨_, rfl, HX6.out.mono HBW.out.size, HBW.out.trans (HB6.out.mono HBW.out.size)⟩
end Go.Proofs.Ytofabikjjkapmaa

set_option maxRecDepth 100000
set_option linter.unusedVariables false
set_option linter.unusedSimpArgs false
namespace Go.Proofs.Ytofabikjjkapmaa
open Go.RowKit

end Go.Proofs.Ytofabikjjkapmaa

