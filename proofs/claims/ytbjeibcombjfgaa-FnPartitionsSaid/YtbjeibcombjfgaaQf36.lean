/- Walk: l16Less of the reference. | Append of several elements of k cells; slices of lists of such elements. -/
import Derived.Test.YtbjeibcombjfgaaQf34
import Derived.Test.YtbjeibcombjfgaaQf11
import Derived.Test.YtbjeibcombjfgaaQf13
import Derived.Test.YtbjeibcombjfgaaQf35
import Derived.BigQuiet
import Derived.Deep.QuietTactic
import Derived.Test.YtbjeibcombjfgaaQf8
import Derived.Test.YtbjeibcombjfgaaQf3
set_option maxRecDepth 100000
set_option linter.unusedVariables false
set_option linter.unusedSimpArgs false
namespace Go.Proofs.Ytbjeibcombjfgaa
open Go.RowKit Go.Sort Go.Shelf

theorem ltP_same {x y : PK} (h : x.2 = y.2) : ltP x y = lexL befN x.1 y.1 := by
  obtain ⟨x1, x2⟩ := x; obtain ⟨y1, y2⟩ := y
  simp only at h
  subst h
  exact lexP_eq STO.bef _ _ _
theorem ltP_ne {x y : PK} (h : x.2 ≠ y.2) : ltP x y = befN x.2 y.2 := by
  obtain ⟨x1, x2⟩ := x; obtain ⟨y1, y2⟩ := y
  simp only at h
  unfold ltP lexP
  simp only
  cases h1 : befN x2 y2 with
  | true => rfl
  | false =>
    cases h2 : befN y2 x2 with
    | true => rfl
    | false => exact absurd (befN_tri h1 h2) h
theorem lexL_drop {a b : List (List Nat)} {k : Nat} {x y : List Nat} (hx : a[k]? = some x) (hy : b[k]? = some y) : lexL befN (a.drop k) (b.drop k) = if x = y then lexL befN (a.drop (k + 1)) (b.drop (k + 1)) else befN x y := by
  have e1 : a.drop k = x :: a.drop (k + 1) := by obtain ⟨hk, rfl⟩ := List.getElem?_eq_some_iff.1 hx; exact List.drop_eq_getElem_cons hk
  have e2 : b.drop k = y :: b.drop (k + 1) := by obtain ⟨hk, rfl⟩ := List.getElem?_eq_some_iff.1 hy; exact List.drop_eq_getElem_cons hk
  rw [e1, e2, lexL]
  by_cases h : x = y
  · subst h
    rw [if_pos rfl, befN_irrefl]; rfl
  · rw [if_neg h]
    cases h1 : befN x y with
    | true => rfl
    | false =>
      cases h2 : befN y x with
      | true => rfl
      | false => exact absurd (befN_tri h1 h2) h
theorem lexL_end {a b : List (List Nat)} {k : Nat} (hk : k ≤ a.length) (hkb : k ≤ b.length) (h : k = a.length ∨ k = b.length) : lexL befN (a.drop k) (b.drop k) = decide (a.length < b.length) := by
  by_cases hb : k < b.length
  · have ha : k = a.length := by omega
    rw [show a.drop k = [] from by rw [ha, List.drop_length]]
    cases hd : b.drop k with
    | nil => have := congrArg List.length hd; simp at this; omega
    | cons y ys => exact (decide_eq_true (by omega)).symm
  · rw [show b.drop k = [] from by rw [List.drop_eq_nil_iff]; omega]
    have hn : ¬ a.length < b.length := by omega
    rw [decide_eq_false hn]
    cases a.drop k with
    | nil => rfl
    | cons x xs => rfl
set_option maxHeartbeats 8000000 in
theorem s_l16Less (W : World) (B B' : Nat) (c c' : List Value) (x y : PK) (n m : Nat) (hx : ePc.D W B c (x, n)) (hy : ePc.D W B' c' (y, m)) :
    Calls Try.prog 178 #[.agg c.toArray, .agg c'.toArray] W fun e w' => e = .returned (.bool (ltP x y)) ∧ Below W.heap.size W w' := by
  obtain ⟨u, s, rfl, hu0, hs0⟩ := hx
  obtain ⟨u', s', rfl, hu0', hs0'⟩ := hy
  have hu := (show LA W B u (x.1.map up) from hu0).rows
  have hu' := (show LA W B' u' (y.1.map up) from hu0').rows
  have hs := (show OwnInts W B tI s (up x.2) from hs0).ints
  have hs' := (show OwnInts W B' tI s' (up y.2) from hs0').ints
  clear hu0 hu0' hs0 hs0'
  obtain ⟨A1, c1, rfl, l1, l2, -⟩ := rowsAt hu
  obtain ⟨A2, c2, rfl, -, -, -⟩ := rowsAt hu'
  obtain ⟨A3, c3, rfl, -, -, -⟩ := hs.open_
  obtain ⟨A4, c4, rfl, -, -, -⟩ := hs'.open_
  simp only [up_len] at hs hs' ⊢
  obtain ⟨W2, hW⟩ : ∃ W2, W2 = (W.alloc (.cells #[.slice A1 x.1.length c1, .slice A3 x.2.length c3, .int .i64 (n : Nat)] tPt)).alloc (.cells #[.slice A2 y.1.length c2, .slice A4 y.2.length c4, .int .i64 (m : Nat)] tPt) := ⟨_, rfl⟩
  have hbw : Below W.heap.size W W2 := by rw [hW]; exact below2 W _ _
  have HBW := Lib.hid hbw
  have hk0 : Blk W2 W.heap.size tPt #[.slice A1 x.1.length c1, .slice A3 x.2.length c3, .int .i64 (n : Nat)] := by rw [hW]; exact (Blk.new W _ _).alloc _
  have hk1 : Blk W2 (W.heap.size + 1) tPt #[.slice A2 y.1.length c2, .slice A4 y.2.length c4, .int .i64 (m : Nat)] := by rw [hW]; exact Blk.new1 W _ _ _
  have p0 : W2.cell? ⟨W.heap.size, 0, none⟩ = some (.slice A1 x.1.length c1) := hk0.cell 0
  have p1 : W2.cell? ⟨W.heap.size, 1, none⟩ = some (.slice A3 x.2.length c3) := hk0.cell 1
  have q0 : W2.cell? ⟨W.heap.size + 1, 0, none⟩ = some (.slice A2 y.1.length c2) := hk1.cell 0
  have q1 : W2.cell? ⟨W.heap.size + 1, 1, none⟩ = some (.slice A4 y.2.length c4) := hk1.cell 1
  have HU := Lib.hid (hu.below hbw)
  have HU' := Lib.hid (hu'.below hbw)
  have HS := Lib.hid (hs.below hbw)
  have HS' := Lib.hid (hs'.below hbw)
  have HSM := Lib.hid (fun q => s_l01Same (W2.drewN q) (.slice A3 x.2.length c3) (.slice A4 y.2.length c4) (up x.2) (up y.2) (HS.out.drewN q) (HS'.out.drewN q))
  have HBF := Lib.hid (fun q => s_l03Before (W2.drewN q) (.slice A3 x.2.length c3) (.slice A4 y.2.length c4) x.2 y.2 (HS.out.drewN q) (HS'.out.drewN q))
  clear hu hu' hs hs' hbw hk0 hk1
  obtain ⟨R, hR⟩ : ∃ R, R = ltP x y := ⟨_, rfl⟩
  rw [← hR]
  have HRQ := Lib.hid hR
  clear hR
  go_enter Try.func178, Try.ntmps178
  go_upto_region 1 with fail
  rw [← hW]
  clear hW
  by_cases he : x.2 = y.2
  · have HR := Lib.hid (HRQ.out.trans (ltP_same he))
    have hd : decide (up x.2 = up y.2) = true := decide_eq_true (by rw [he])
    simp only [hd] at HSM
    clear hd he HBF HRQ
    go_wp2_with (go_at_call 86; refine (HSM.out 0).mono ?_; rintro e w1 ⟨rfl, d, rfl⟩)
    go_loopw [5] (fun i wr => ∃ k q : Nat, k ≤ x.1.length ∧ k ≤ y.1.length ∧ i = .int .i64 k ∧ Hid (R = lexL befN (x.1.drop k) (y.1.drop k)) ∧ wr = W2.drewN q) (fun i _ => x.1.length - (intOf i).toNat)
    case atStart => exact ⟨0, _, Nat.zero_le _, Nat.zero_le _, rfl, HR.out, rfl⟩
    case round =>
      obtain ⟨k, q, hk, hkb, rfl, hI, rfl⟩ := hrel
      by_cases hlt : k < x.1.length
      · have hki : (k : Int) < (x.1.length : Int) := by omega
        by_cases hlb : k < y.1.length
        · have hkj : (k : Int) < (y.1.length : Int) := by omega
          obtain ⟨_, _, he1, -, -, hat1⟩ := rowsAt HU.out
          simp only [Value.slice.injEq, true_and] at he1
          obtain ⟨rfl, rfl⟩ := he1
          obtain ⟨_, _, he2, -, -, hat2⟩ := rowsAt HU'.out
          simp only [Value.slice.injEq, true_and] at he2
          obtain ⟨rfl, rfl⟩ := he2
          obtain ⟨ad, t1, A5, c5, rfl, hx1, hi1, hc1⟩ := hat1 k hlt
          obtain ⟨ad', t2, A6, c6, rfl, hy1, hi2, hc2⟩ := hat2 k hlb
          have HS1 := Lib.hid (fun q => s_l01Same (W2.drewN q) _ _ (up t1) (up t2) (hi1.drewN q) (hi2.drewN q))
          have HB1 := Lib.hid (fun q => s_l03Before (W2.drewN q) _ _ t1 t2 (hi1.drewN q) (hi2.drewN q))
          have hs := hI.out.trans (lexL_drop hx1 hy1)
          by_cases ht : t1 = t2
          · have HS := Lib.hid (show R = lexL befN (x.1.drop (k + 1)) (y.1.drop (k + 1)) from by rw [hs, if_pos ht])
            have hd : decide (up t1 = up t2) = true := decide_eq_true (by rw [ht])
            simp only [hd] at HS1
            clear hd ht hs hx1 hy1 hi1 hi2 HB1 hat1 hat2
            go_wp2_with fail
            go_quiet ((go_at_call 86; exact quiet_more (HS1.out _)))
            go_wp2_with fail
            go_roundw
            case rel => exact ⟨k + 1, _, by omega, by omega, by go_num, HS.out, rfl⟩
            case measure => simp [intOf]; omega
          · have HS := Lib.hid (show R = befN t1 t2 from by rw [hs, if_neg ht])
            have hd : decide (up t1 = up t2) = false := decide_eq_false fun e => ht (up_inj e)
            simp only [hd] at HS1
            generalize befN t1 t2 = bb at HS HB1
            clear hd ht hs hx1 hy1 hi1 hi2 hat1 hat2
            go_wp2_with fail
            go_quiet ((go_at_call 86; exact quiet_more (HS1.out _)))
            go_wp2_with fail
            go_quiet ((go_at_call 198; exact quiet_more (HB1.out _)))
            go_wp2_with fail
            go_ret
            exact ⟨ret_bl HS.out.symm, below_drewN (below_drewN (below_drewN HBW.out _) _) _⟩
        · have hkj : ¬ (k : Int) < (y.1.length : Int) := by omega
          have HS := Lib.hid (hI.out.trans (lexL_end hk hkb (.inr (by omega))))
          go_wp2_with fail
          go_ret
          refine ⟨?_, below_drewN HBW.out _⟩
          rw [HS.out]
          simp
      · have hki : ¬ (k : Int) < (x.1.length : Int) := by omega
        have HS := Lib.hid (hI.out.trans (lexL_end hk hkb (.inl (by omega))))
        go_wp2_with fail
        go_ret
        refine ⟨?_, below_drewN HBW.out _⟩
        rw [HS.out]
        simp
  · have HR := Lib.hid (HRQ.out.trans (ltP_ne he))
    have hd : decide (up x.2 = up y.2) = false := decide_eq_false fun e => he (up_inj e)
    simp only [hd] at HSM
    generalize befN x.2 y.2 = bb at HR HBF
    clear hd he HRQ
    go_wp2_with (first
      | (go_at_call 86; refine (HSM.out 0).mono ?_; rintro e w1 ⟨rfl, d, rfl⟩)
      | (go_at_call 198; refine (HBF.out _).mono ?_; rintro e w2 ⟨rfl, d2, rfl⟩))
    go_ret
    exact ⟨ret_bl HR.out.symm, below_drewN HBW.out _⟩
end Go.Proofs.Ytbjeibcombjfgaa

set_option maxRecDepth 100000
set_option linter.unusedVariables false
set_option linter.unusedSimpArgs false
namespace Go.Proofs.Ytbjeibcombjfgaa
open Go.RowKit

/-- n elements of k cells that can be read at an address -/
def RdK (w : World) (k : Nat) (A : Option Addr) (ds : List (List Value)) : Prop := (∀ d ∈ ds, d.length = k) ∧ ∃ ad, A = some ad ∧ ∀ j u, ds.flatten[j]? = some u → w.cell? (ad.add j) = some u
theorem RdK.below {w w' : World} {k : Nat} {A : Option Addr} {ds : List (List Value)} (h : RdK w k A ds) (hb : Below w.heap.size w w') : RdK w' k A ds := by
  obtain ⟨h1, ad, h2, h3⟩ := h
  refine ⟨h1, ad, h2, fun j u hj => ?_⟩
  have hc := h3 j u hj
  rw [hb.cell (World.block_lt_of_cell? w _ hc)]
  exact hc
theorem RdK.kept {w w' : World} {k g : Nat} {n c : Nat} {ds : List (List Value)} {row : Option Nat} (h : RdK w k (some ⟨g, n, none⟩) ds) (hg : w.grownBy w' row) (hne : row ≠ some g) : RdK w' k (some ⟨g, n, none⟩) ds := by
  obtain ⟨h1, ad, h2, h3⟩ := h
  injection h2 with h2
  subst h2
  refine ⟨h1, _, rfl, fun j u hj => hg.cell (h3 j u hj) (fun e => hne (by rw [← e, block_add]))⟩
theorem flat_drop {k : Nat} : ∀ {css : List (List Value)} (i : Nat), (∀ c ∈ css, c.length = k) → (css.drop i).flatten = css.flatten.drop (i * k)
  | css, 0, _ => by simp
  | [], i + 1, _ => by simp
  | c :: css, i + 1, h => by
    have hc := h c (by simp)
    rw [List.drop_succ_cons, flat_drop i fun d hd => h d (by simp [hd]), List.flatten_cons, Nat.add_mul, Nat.one_mul, Nat.add_comm (i * k) k, ← List.drop_drop]
    rw [show (c ++ css.flatten).drop k = css.flatten from by rw [← hc]; simp]
theorem flat_takeK {k : Nat} : ∀ {css : List (List Value)} (i : Nat), (∀ c ∈ css, c.length = k) → (css.take i).flatten = css.flatten.take (i * k)
  | css, 0, _ => by simp
  | [], i + 1, _ => by simp
  | c :: css, i + 1, h => by
    have hc := h c (by simp)
    rw [List.take_succ_cons, List.flatten_cons, List.flatten_cons, flat_takeK i fun d hd => h d (by simp [hd]), Nat.add_mul, Nat.one_mul, Nat.add_comm (i * k) k, List.take_add]
    rw [show (c ++ css.flatten).take k = c from by rw [← hc]; simp, show (c ++ css.flatten).drop k = css.flatten from by rw [← hc]; simp]
section
variable {w : World} {B g n cap k : Nat} {e : TypeId} {css : List (List Value)}
theorem OwnK.read (h : OwnK w B e k (.slice (some ⟨g, 0, none⟩) n cap) css) : n = css.length ∧ css.length ≤ cap ∧ RdK w k (some ⟨g, 0, none⟩) css := by
  have hn : n = css.length := by obtain ⟨A, c, he, h1, -⟩ := h.open_; simp only [Value.slice.injEq] at he; exact he.2.1
  have hc : css.length ≤ cap := by obtain ⟨A, c, he, h1, -⟩ := h.open_; simp only [Value.slice.injEq] at he; omega
  refine ⟨hn, hc, h.2, _, rfl, fun j u hj => ?_⟩
  rcases h.1.2 with ⟨he, _⟩ | ⟨g', cap', cur, he, h1, h2, h3, h4, h5, h6⟩
  · cases he
  simp only [Value.slice.injEq, Option.some.injEq, Addr.mk.injEq] at he
  obtain ⟨⟨rfl, -⟩, -, rfl⟩ := he
  have hl := (List.getElem?_eq_some_iff.1 hj).1
  rw [addr_add]
  simp only [World.cell?, h2]
  simp only [Option.isSome_none, Bool.false_eq_true, if_false]
  have hf := flat_len h.2
  rw [← h6, List.getElem?_take_of_lt (by rw [hf] at hl; exact hl), Array.getElem?_toList] at hj
  exact hj
/-- 's[i:]' -/
theorem OwnK.from_ (h : OwnK w B e k (.slice (some ⟨g, 0, none⟩) n cap) css) {i : Nat} (hi : i ≤ css.length) :
    ∃ o, sliced (some ⟨g, 0, none⟩) i n cap k = .slice (some ⟨g, o, none⟩) (css.drop i).length (cap - i) ∧ RdK w k (some ⟨g, o, none⟩) (css.drop i) := by
  obtain ⟨rfl, hc, h1, ad, he, h2⟩ := h.read
  injection he with he
  subst he
  unfold sliced
  by_cases hci : cap = i
  · rw [if_pos hci]
    refine ⟨0, by rw [List.length_drop], fun d hd => h1 d (List.mem_of_mem_drop hd), _, rfl, fun j u hj => ?_⟩
    rw [List.drop_eq_nil_of_le (by omega)] at hj
    simp at hj
  · rw [if_neg hci]
    refine ⟨i * k, by rw [List.length_drop, Option.map_some, addr_add], fun d hd => h1 d (List.mem_of_mem_drop hd), _, rfl, fun j u hj => ?_⟩
    rw [flat_drop i h1, List.getElem?_drop] at hj
    have := h2 _ u hj
    rw [addr_add] at this
    by_cases h0 : j = 0
    · subst h0; simpa [Addr.add] using this
    · simpa [Addr.add, h0] using this
/-- 's[:i]' -/
theorem OwnK.to_ (h : OwnK w B e k (.slice (some ⟨g, 0, none⟩) n cap) css) {i : Nat} (hi : i ≤ css.length) :
    sliced (some ⟨g, 0, none⟩) 0 i cap k = .slice (some ⟨g, 0, none⟩) (css.take i).length cap ∧ RdK w k (some ⟨g, 0, none⟩) (css.take i) := by
  obtain ⟨rfl, hc, h1, ad, he, h2⟩ := h.read
  injection he with he
  subst he
  unfold sliced
  have hl : (css.take i).length = i := by rw [List.length_take]; omega
  refine ⟨?_, fun d hd => h1 d (List.mem_of_mem_take hd), _, rfl, fun j u hj => ?_⟩
  · rw [hl, Nat.zero_mul]
    by_cases hc0 : cap = 0
    · rw [if_pos hc0]; rfl
    · rw [if_neg hc0]; simp [Addr.add]
  · rw [flat_takeK i h1] at hj
    have hjl := (List.getElem?_eq_some_iff.1 hj).1
    rw [List.length_take] at hjl
    rw [List.getElem?_take_of_lt (by omega)] at hj
    exact h2 _ u hj
end
/-- append of several elements of k cells that lie anywhere -/
theorem run_appNK {P : Program} {t e : TypeId} {z : Value} {k bytes B c : Nat} {v : Value} {css ds : List (List Value)} {W : World} {A : Option Addr} (ty : TypeId)
    (T : ElemK P t e z k bytes) (hown : OwnK W B e k v css) (hd : RdK W k A ds) (hlen : css.length + ds.length < 1099511627776) (hB : B ≤ W.heap.size) (hu : ∀ d ∈ ds, ∀ u ∈ d, u.oneCell' = true) :
    ∃ v' w', (Builtin.append_ #[t, t] ty #[v, .slice A ds.length c]).run P W = .ok v' w' ∧ OwnK w' B e k v' (css ++ ds) ∧ Grow W w' v v' := by
  obtain ⟨hk, ad, rfl, hcell⟩ := hd
  obtain ⟨i, hi, hz, h1, h2⟩ := info_parts T.info
  have hby := T.small
  obtain ⟨v', w', hrun, r1, r2, _, r3⟩ := run_append_own_at (P := P) W B t ty e i z k bytes T.under hi hz h1 h2 T.cells T.pos v css.length css.flatten hown.1 ad ds.length c ds.flatten (flat_len hk) hcell (fun u hu' => by obtain ⟨d, hd, hud⟩ := List.mem_flatten.1 hu'; exact hu d hd u hud) (by simp only [maxLen]; omega) (by have := Nat.mul_le_mul_left (css.length + ds.length) hby; omega) hB
  refine ⟨v', w', hrun, ⟨by simpa using r1, fun d hd => ?_⟩, r2, ?_⟩
  · rcases List.mem_append.1 hd with hd | hd
    · exact hown.2 d hd
    · exact hk d hd
  · rcases r3 with r3 | r3
    · exact .inl r3
    · exact .inr ⟨_, r3, Nat.le_refl _⟩
theorem wpList_appNK {P : Program} {ops : Array Oper} {rest : List Oper} {o : Oper} {a : Act} {Q : Exit → Act → World → Prop} {s x : Operand} {t : TypeId}
    {e : TypeId} {z : Value} {k bytes : Nat} {B c : Nat} {v : Value} {css ds : List (List Value)} {W : World} {A : Option Addr}
    (T : ElemK P t e z k bytes) (hown : OwnK W B e k v css) (hd : RdK W k A ds) (hlen : css.length + ds.length < 1099511627776) (hB : B ≤ W.heap.size) (hu : ∀ d ∈ ds, ∀ u ∈ d, u.oneCell' = true)
    (hgd : o.guard = none) (ho : o.op = .call { callee := .builtin .append, args := #[s, x], argTypes := #[t, t] }) (hs : a.eval s = v)
    (hx : a.eval x = .slice A ds.length c)
    (h : ∀ v' w', OwnK w' B e k v' (css ++ ds) → Grow W w' v v' → wpList P ops Q rest (a.put o.dst v') w') : wpList P ops Q (o :: rest) a W := by
  obtain ⟨v', w', hrun, r1, r2⟩ := run_appNK (c := c) o.type T hown hd hlen hB hu
  refine wpList_plain hgd fun K hK => ?_
  unfold Oper.wp execOp
  simp only [ho, resolve, invoke, builtin, Sem.run_bind, Sem.run_pure, Result.andThen_ok, List.map_toArray, List.map_cons, List.map_nil, hs, hx, hrun]
  exact hK _ _ (h v' w' r1 r2)
theorem step_appNK {P : Program} {ops : Array Oper} {o : Oper} {a : Act} {K : Act → World → Prop} {Q : Exit → Act → World → Prop} {E : Prop} {s x : Operand} {t : TypeId}
    {e : TypeId} {z : Value} {k bytes : Nat} {B c : Nat} {v : Value} {css ds : List (List Value)} {W : World} {A : Option Addr}
    (T : ElemK P t e z k bytes) (hown : OwnK W B e k v css) (hd : RdK W k A ds) (hlen : css.length + ds.length < 1099511627776) (hB : B ≤ W.heap.size) (hu : ∀ d ∈ ds, ∀ u ∈ d, u.oneCell' = true)
    (hgd : o.guard = none) (ho : o.op = .call { callee := .builtin .append, args := #[s, x], argTypes := #[t, t] }) (hs : a.eval s = v)
    (hx : a.eval x = .slice A ds.length c)
    (h : ∀ v' w', OwnK w' B e k v' (css ++ ds) → Grow W w' v v' → K (a.put o.dst v') w') :
    if Region.wanted o (yielded ops a.tmps) = true then Oper.wp P o a W K Q else E := by
  have hw : Region.wanted o (yielded ops a.tmps) = true := by simp [Region.wanted, hgd]
  rw [if_pos hw]
  obtain ⟨v', w', hrun, r1, r2⟩ := run_appNK (c := c) o.type T hown hd hlen hB hu
  unfold Oper.wp execOp
  simp only [ho, resolve, invoke, builtin, Sem.run_bind, Sem.run_pure, Result.andThen_ok, List.map_toArray, List.map_cons, List.map_nil, hs, hx, hrun]
  exact h v' w' r1 r2
end Go.Proofs.Ytbjeibcombjfgaa

