/- Walk: tableaus by name (l09Named of the reference). | One round of 'z.A = append(z.A, row); z.B = append(z.B, x)', in plain words of memory. No program in sight. | Rows and numbers that grow side by side, in plain words of memory. No program in sight. | Columns that grow beside a tableau, in plain words of memory. No program in sight. | Walks: lists of numbers that are drawn: l01List of the reference, list5 of the laws. | Walks: tableaus that are drawn (l09Draw of the reference). -/
import Derived.Test.YtnlaoainhlfemaaAs15
import Derived.Test.YtnlaoainhlfemaaAs10
set_option maxRecDepth 100000
set_option linter.unusedVariables false
set_option linter.unusedSimpArgs false
namespace Go.Proofs.Ytnlaoainhlfemaa
open Go.RowKit

set_option maxHeartbeats 16000000 in
theorem s_l09NamedG (w : World) (str : ByteArray) (hg : (str.toList == [103, 97, 117, 115, 115]) = true) :
    Calls Try.prog 138 #[.string str] w fun e w' => ∃ v n, e = .returned v ∧ DT w' w.heap.size v n ∧ 1 ≤ n ∧ n ≤ 4 ∧ Below w.heap.size w w' := by
  obtain ⟨W, hW⟩ : ∃ W, W = w.alloc (.cells #[.slice none 0 0, .slice none 0 0] tTb) := ⟨_, rfl⟩
  have HSW := Lib.hid (show W.heap.size = w.heap.size + 1 from by rw [hW]; simp)
  have HK := Lib.hid (show Blk W w.heap.size tTb #[.slice none 0 0, .slice none 0 0] from by rw [hW]; exact Blk.new _ _ _)
  have HBW := Lib.hid (show Below w.heap.size w W from by rw [hW]; exact below1 w _)
  have he : (str.toList == [101, 117, 108, 101, 114]) = false := by
    rw [beq_iff_eq] at hg
    rw [hg]
    decide
  go_enter Try.func138, Try.ntmps138
  go_upto_region 1 with fail
  rw [← hW]
  clear hW
  go_upto_region 7 with (first
    | (go_at_call 184; refine (s_root32 _).mono ?_; rintro e w3 ⟨rfl, rfl⟩)
    | (go_at_call 157; (with_reducible refine (s_l01FracZ _ 1 6 (by omega) (by omega) (by omega) (by omega)).mono ?_); go_loud (rintro e w3 ⟨z, rfl, hz, rfl⟩; obtain ⟨z0, z1⟩ := hz))
    | (go_at_call 147; go_loud (refine (s_l01Mul 1477 z _ (by omega) (by omega) (by omega) (by omega)).mono ?_; rintro e w3 ⟨rfl, rfl⟩; have hm := mod_numD (1477 * z); generalize 1477 * z % 10007 = m at *))
    | (go_at_call 157; (with_reducible refine (s_l01FracZ _ 1 4 (by omega) (by omega) (by omega) (by omega)).mono ?_); go_loud (rintro e w3 ⟨q, rfl, hq, rfl⟩; obtain ⟨q0, q1⟩ := hq)))
  obtain ⟨m0, m1⟩ := hm
  have HS1 := Lib.hid (fun X => s_l01Sub q m X (by omega) (by omega) (by omega) (by omega))
  have HA1 := Lib.hid (fun X => s_l01Add q m X (by omega) (by omega) (by omega) (by omega))
  have hs1 := mod_numD (q - m)
  have ha1 := mod_numD (q + m)
  generalize (q - m) % 10007 = d at *
  generalize (q + m) % 10007 = a at *
  obtain ⟨W3, hW3⟩ : ∃ W3, W3 = ((W.alloc (.cells #[.int .i64 q, .int .i64 d] tI)).alloc (.cells #[.int .i64 a, .int .i64 q] tI)).alloc (.cells #[.slice (some ⟨W.heap.size, 0, none⟩) 2 2, .slice (some ⟨W.heap.size + 1, 0, none⟩) 2 2] tL) := ⟨_, rfl⟩
  obtain ⟨hor, hsq, hb3⟩ := two_rows W q d a q ⟨q0, q1⟩ hs1 ha1 ⟨q0, q1⟩ W3 hW3
  have HOR := Lib.hid hor
  have HSQ := Lib.hid hsq
  have HB3 := Lib.hid (HBW.out.trans (hb3.mono HBW.out.size))
  have HK3 := Lib.hid (HK.out.below hb3 HK.out.lt)
  have HW3 := Lib.hid hW3
  have HSZ3 := Lib.hid (show W.heap.size + 1 + 1 + 1 = W3.heap.size from by rw [hW3]; simp)
  clear hor hsq hb3 hW3 hs1 ha1 z0 z1 m0 m1 he hg
  go_wp2_with (first
    | (go_at_call 141; refine (HS1.out _).mono ?_; rintro e w3 ⟨rfl, rfl⟩)
    | (go_at_call 140; refine (HA1.out _).mono ?_; rintro e w3 ⟨rfl, rfl⟩)
    | (go_at_call 183; rw [← HW3.out, HSZ3.out]; go_loud (refine (s_l09RowA W3 #[.int .i64 1, .int .i64 1] 2 2 rfl rfl (by decide) (by omega) (by omega) (by omega)).mono ?_; rintro e w5 ⟨x5, rfl, us, ho5, hn5, hb5⟩; obtain ⟨A5, c5, rfl, -, -, -⟩ := ho5.ints.open_; have hb5' : Below W3.heap.size W3 w5 := (below1 W3 _).trans (hb5.mono (by omega)); have HK5 := Lib.hid (HK3.out.below hb5' HK3.out.lt); have HO5 := Lib.hid (ho5.mono (Nat.le_succ _)); have HN5 := Lib.hid hn5; have HB5 := Lib.hid (HB3.out.trans (hb5'.mono HB3.out.size)); have HOR5 := Lib.hid (HOR.out.below hb5'); have f0 : w5.cell? ⟨w.heap.size, 0, none⟩ = some (.slice none 0 0) := HK5.out.cell 0; have f1 : w5.cell? ⟨w.heap.size, 1, none⟩ = some (.slice none 0 0) := HK5.out.cell 1; have f2 := HK5.out.frozen 0; have f3 := HK5.out.frozen 1; have HSZ5 := Lib.hid hb5'.size; clear ho5 hn5 hb5 hb5')))
  refine bodyPost_ret (v := .agg #[.slice (some ⟨W.heap.size + 1 + 1, 0, none⟩) 2 2, .slice A5 us.length c5]) (by simp [results, Try.results138, go_sem, f0, f1]) rfl ?_
  obtain ⟨p1, p2⟩ := nam_end (n := 2) (g := w.heap.size) (B := W.heap.size) (M := W3.heap.size) HB5.out (Nat.le_refl _) (by have := HSW.out; omega) (by have := HSZ3.out; omega) HSZ5.out HOR5.out HO5.out HSQ.out HN5.out
  exact ⟨_, _, rfl, p1, by decide, by decide, p2⟩
set_option maxHeartbeats 16000000 in
theorem s_l09NamedN (w : World) (str : ByteArray) (he : (str.toList == [103, 97, 117, 115, 115]) = false) :
    Calls Try.prog 138 #[.string str] w fun e w' => ∃ v n, e = .returned v ∧ DT w' w.heap.size v n ∧ 1 ≤ n ∧ n ≤ 4 ∧ Below w.heap.size w w' := by
  obtain ⟨W, hW⟩ : ∃ W, W = w.alloc (.cells #[.slice none 0 0, .slice none 0 0] tTb) := ⟨_, rfl⟩
  have HSW := Lib.hid (show W.heap.size = w.heap.size + 1 from by rw [hW]; simp)
  have HK := Lib.hid (show Blk W w.heap.size tTb #[.slice none 0 0, .slice none 0 0] from by rw [hW]; exact Blk.new _ _ _)
  have HBW := Lib.hid (show Below w.heap.size w W from by rw [hW]; exact below1 w _)
  go_enter Try.func138, Try.ntmps138
  go_upto_region 1 with fail
  rw [← hW]
  clear hW
  go_wp2_with (first
    | (go_at_call 182; go_loud (refine (s_l09SquareA W _ _ _ _ (by rfl) (by rfl) (by rfl) (by decide) (by rfl) (by decide) (by decide) (by decide) (by decide)).mono ?_; rintro e w1 ⟨x1, rfl, xss, hor, hsq, hb1⟩; obtain ⟨A1, c1, rfl, -, -, -⟩ := hor.rows.open_; have HOR := Lib.hid hor; have HSQ := Lib.hid hsq; have hb1' : Below W.heap.size W w1 := (below1 W _).trans (hb1.mono (by omega)); have HB1 := Lib.hid (HBW.out.trans (hb1'.mono HBW.out.size)); have HK1 := Lib.hid (HK.out.below hb1' HK.out.lt); have hsz1 : W.heap.size + 1 ≤ w1.heap.size := (by have := hb1.size; simpa using this); clear hor hsq hb1 hb1'))
    | (go_at_call 183; go_loud (refine (s_l09RowA w1 _ _ _ (by rfl) (by rfl) (by decide) (by decide) (by decide) (by decide)).mono ?_; rintro e w5 ⟨x5, rfl, us, ho5, hn5, hb5⟩; obtain ⟨A5, c5, rfl, -, -, -⟩ := ho5.ints.open_; have hb5' : Below w1.heap.size w1 w5 := (below1 w1 _).trans (hb5.mono (by omega)); have HK5 := Lib.hid (HK1.out.below hb5' HK1.out.lt); have HO5 := Lib.hid (ho5.mono (Nat.le_succ _)); have HN5 := Lib.hid hn5; have HB5 := Lib.hid (HB1.out.trans (hb5'.mono HB1.out.size)); have HOR5 := Lib.hid (HOR.out.below hb5'); have f0 : w5.cell? ⟨w.heap.size, 0, none⟩ = some (.slice none 0 0) := HK5.out.cell 0; have f1 : w5.cell? ⟨w.heap.size, 1, none⟩ = some (.slice none 0 0) := HK5.out.cell 1; have f2 := HK5.out.frozen 0; have f3 := HK5.out.frozen 1; have hsz5 := hb5'.size; clear ho5 hn5 hb5 hb5')))
  all_goals
    refine bodyPost_ret (v := .agg #[.slice A1 xss.length c1, .slice A5 us.length c5]) (by simp [results, Try.results138, go_sem, f0, f1]) rfl ?_
    obtain ⟨p1, p2⟩ := nam_end (g := w.heap.size) (B := W.heap.size + 1) (M := w1.heap.size) HB5.out (Nat.le_refl _) (by have := HSW.out; omega) hsz1 hsz5 HOR5.out HO5.out HSQ.out HN5.out
    exact ⟨_, _, rfl, p1, by decide, by decide, p2⟩
theorem s_l09Named (w : World) (str : ByteArray) :
    Calls Try.prog 138 #[.string str] w fun e w' => ∃ v n, e = .returned v ∧ DT w' w.heap.size v n ∧ 1 ≤ n ∧ n ≤ 4 ∧ Below w.heap.size w w' := by
  cases h : (str.toList == [103, 97, 117, 115, 115]) with
  | true => exact s_l09NamedG w str h
  | false => exact s_l09NamedN w str h
end Go.Proofs.Ytnlaoainhlfemaa

set_option linter.unusedVariables false
set_option linter.unusedSimpArgs false
namespace Go.Proofs.Ytnlaoainhlfemaa
open Go.RowKit

/-- the state of a tableau that is filled, rows and weights in turn: block p holds it, all else lies behind p -/
structure Fill2 (w0 w : World) (p : Nat) (va vb : Value) (vs : List Value) (rows : List (List Int)) (Bs : List Int) : Prop where
  blk : Blk w p 27 #[va, vb]
  own : Own w (p + 1) tL va vs
  rows : RowsOwn w (p + 1) w.heap.size tI vs rows
  ws : OwnInts w (p + 1) tI vb Bs
  ap : ∀ (k : Nat) (u : Value), vs[k]? = some u → Apart u vb
  below : Below w0.heap.size w0 w

section
variable {w0 w w' w1 : World} {p : Nat} {va vb v1 r : Value} {vs : List Value} {rows : List (List Int)} {zs Bs : List Int} {z : Int}
theorem Fill2.lt (h : Fill2 w0 w p va vb vs rows Bs) : p < w.heap.size := h.blk.lt
theorem Fill2.npA (h : Fill2 w0 w p va vb vs rows Bs) : va.ownBlock ≠ some p := fun e => by have := h.own.ge p e; omega
theorem Fill2.npB (h : Fill2 w0 w p va vb vs rows Bs) : vb.ownBlock ≠ some p := fun e => by have := h.ws.1.ge p e; omega
theorem Fill2.step (h : Fill2 w0 w p va vb vs rows Bs) (hb : Below w.heap.size w w') : Fill2 w0 w' p va vb vs rows Bs :=
  ⟨h.blk.below hb h.lt, h.own.below hb, (h.rows.below hb).mono (Nat.le_refl _) hb.size, h.ws.below hb, h.ap, h.below.trans (hb.mono h.below.size)⟩
theorem Fill2.tab (h : Fill2 w0 w p va vb vs rows Bs) : OT w (p + 1) w.heap.size (.agg #[va, vb]) rows Bs :=
  ⟨va, vb, vs, rfl, h.own, h.own.lt, h.rows, ⟨h.ws, h.ws.1.lt⟩, h.ap⟩
/-- the rows grow: r was made since w0', behind the weights -/
theorem Fill2.nextA (h : Fill2 w0 w p va vb vs rows Bs) (hp : w0.heap.size ≤ p) (hr : OI w (p + 1) w.heap.size tI r zs) (hap : ∀ (k : Nat) (u : Value), vs[k]? = some u → Apart u r) (hrb : Apart r vb)
    (hown : Own w1 (p + 1) tL v1 (vs ++ [r])) (hgr : Grow w w1 va v1) :
    Fill2 w0 (w1.setCell ⟨p, 0, none⟩ v1) p v1 vb (vs ++ [r]) (rows ++ [zs]) Bs := by
  have hs := hgr.1.size
  have hlt := h.lt
  have hK := h.blk.grow hgr h.npA
  have hR := h.rows.snoc hr hap
  have hR3 := hR.other hgr.1 (fun j u hu => by
    have hj := (List.getElem?_eq_some_iff.1 hu).1
    have hx : (rows ++ [zs])[j]? = some ((rows ++ [zs])[j]'(by rw [← hR.1]; exact hj)) := List.getElem?_eq_getElem _
    exact Own.ne_of_type (hR.2.1 j u _ hu hx).1.1 h.own (by decide))
  have hw := h.ws.kept hgr.1 (Own.ne_of_type h.ws.1 h.own (by decide))
  have hc := (Chg.refl p (p + 1) w1).setCell (p := ⟨p, 0, none⟩) (Nat.le_refl _) (by simp) v1
  have hse : (w1.setCell ⟨p, 0, none⟩ v1).heap.size = w1.heap.size := by simp [World.setCell]
  refine ⟨?_, ?_, ?_, ?_, ?_, ?_⟩
  · have := hK.set_ 0 v1
    simpa using this
  · exact hown.of_block fun b hb => hc.block b (hown.lt b hb) (.inr (hown.ge b hb))
  · rw [hse]
    exact (hR3.mono (Nat.le_refl _) hs).kept hc (.inr (Nat.le_refl _))
  · exact ⟨hw.1.of_block fun b hb => hc.block b (hw.1.lt b hb) (.inr (hw.1.ge b hb)), hw.2⟩
  · intro k u hu
    by_cases hk : k < vs.length
    · rw [List.getElem?_append_left hk] at hu
      exact h.ap k u hu
    · have hj := (List.getElem?_eq_some_iff.1 hu).1
      simp at hj
      have : k = vs.length := by omega
      subst this
      simp at hu
      subst hu
      exact hrb
  · exact (hgr.below h.below h.below.size (fun b hb => by have := h.own.ge b hb; omega)).setCell (p := ⟨p, 0, none⟩) hp v1
/-- the weights grow -/
theorem Fill2.nextB (h : Fill2 w0 w p va vb vs rows Bs) (hp : w0.heap.size ≤ p) (hz : In64 z)
    (hown : Own w1 (p + 1) tI v1 (ints Bs ++ [.int .i64 z])) (hgr : Grow w w1 vb v1) :
    Fill2 w0 (w1.setCell ⟨p, 1, none⟩ v1) p va v1 vs rows (Bs ++ [z]) := by
  have hs := hgr.1.size
  have hlt := h.lt
  have hK := h.blk.grow hgr h.npB
  have hO := h.own.kept hgr.1 (Own.ne_of_type h.own h.ws.1 (by decide))
  have hR := h.rows.other hgr.1 h.ap
  have hc := (Chg.refl p (p + 1) w1).setCell (p := ⟨p, 1, none⟩) (Nat.le_refl _) (by simp) v1
  have hse : (w1.setCell ⟨p, 1, none⟩ v1).heap.size = w1.heap.size := by simp [World.setCell]
  refine ⟨?_, ?_, ?_, ?_, ?_, ?_⟩
  · have := hK.set_ 1 v1
    simpa using this
  · exact hO.of_block fun b hb => hc.block b (hO.lt b hb) (.inr (hO.ge b hb))
  · rw [hse]
    exact (hR.mono (Nat.le_refl _) hs).kept hc (.inr (Nat.le_refl _))
  · refine ⟨?_, fun y hy => ?_⟩
    · have h2 := hown.of_block (w' := w1.setCell ⟨p, 1, none⟩ v1) fun b hb => hc.block b (hown.lt b hb) (.inr (hown.ge b hb))
      simpa [ints] using h2
    · rcases List.mem_append.1 hy with hy | hy
      · exact h.ws.2 y hy
      · simp at hy; subst hy; exact hz
  · intro k u hu
    have hx : rows[k]? = some (rows[k]'(by rw [← h.rows.1]; exact (List.getElem?_eq_some_iff.1 hu).1)) := List.getElem?_eq_getElem _
    have ho := h.rows.2.1 k u _ hu hx
    rcases hgr.2 with e | ⟨g, e, hge⟩
    · have := h.ap k u hu
      unfold Apart at this ⊢
      rw [e]
      exact this
    · unfold Apart
      cases hb : u.ownBlock with
      | none => exact .inl rfl
      | some b =>
        refine .inr fun e2 => ?_
        rw [e] at e2
        have := ho.2 b hb
        simp at e2
        omega
  · exact (hgr.below h.below h.below.size (fun b hb => by have := h.ws.1.ge b hb; omega)).setCell (p := ⟨p, 1, none⟩) hp v1
end
end Go.Proofs.Ytnlaoainhlfemaa

set_option linter.unusedVariables false
set_option linter.unusedSimpArgs false
namespace Go.Proofs.Ytnlaoainhlfemaa
open Go.RowKit

/-- rows va and numbers vb of one's own, all made since N -/
structure Two (w : World) (N : Nat) (va vb : Value) (vs : List Value) (rows : List (List Int)) (Bs : List Int) : Prop where
  own : Own w N tL va vs
  rows : RowsOwn w N w.heap.size tI vs rows
  ws : OwnInts w N tI vb Bs
  ap : ∀ (k : Nat) (u : Value), vs[k]? = some u → Apart u vb

section
variable {w w' w1 : World} {N p q : Nat} {va vb v1 r : Value} {vs : List Value} {rows : List (List Int)} {zs Bs : List Int} {z : Int}
theorem Two.nil (w : World) (N : Nat) : Two w N (.slice none 0 0) (.slice none 0 0) [] [] [] :=
  ⟨Own.nil _ _ _, RowsOwn.nil _ _ _ _, OwnInts.nil _ _ _, fun k u hu => by simp at hu⟩
theorem Two.step (h : Two w N va vb vs rows Bs) (hb : Below w.heap.size w w') : Two w' N va vb vs rows Bs :=
  ⟨h.own.below hb, (h.rows.below hb).mono (Nat.le_refl _) hb.size, h.ws.below hb, h.ap⟩
theorem Two.kept (h : Two w N va vb vs rows Bs) (hc : Chg p q w w') (hq : q ≤ N) : Two w' N va vb vs rows Bs :=
  ⟨h.own.of_block fun b hb => hc.block b (h.own.lt b hb) (.inr (Nat.le_trans hq (h.own.ge b hb))), (h.rows.mono (Nat.le_refl _) hc.size).kept hc (.inr hq), ⟨h.ws.1.of_block fun b hb => hc.block b (h.ws.1.lt b hb) (.inr (Nat.le_trans hq (h.ws.1.ge b hb))), h.ws.2⟩, h.ap⟩
theorem Two.tab (h : Two w N va vb vs rows Bs) : OT w N w.heap.size (.agg #[va, vb]) rows Bs :=
  ⟨va, vb, vs, rfl, h.own, h.own.lt, h.rows, ⟨h.ws, h.ws.1.lt⟩, h.ap⟩
/-- the rows grow by a list r of one's own -/
theorem Two.addA (h : Two w N va vb vs rows Bs) (hr : OI w N w.heap.size tI r zs) (hap : ∀ (k : Nat) (u : Value), vs[k]? = some u → Apart u r) (hrb : Apart r vb)
    (hown : Own w1 N tL v1 (vs ++ [r])) (hgr : Grow w w1 va v1) : Two w1 N v1 vb (vs ++ [r]) (rows ++ [zs]) Bs := by
  have hs := hgr.1.size
  have hR := h.rows.snoc hr hap
  have hR3 := hR.other hgr.1 (fun j u hu => by
    have hj := (List.getElem?_eq_some_iff.1 hu).1
    have hx : (rows ++ [zs])[j]? = some ((rows ++ [zs])[j]'(by rw [← hR.1]; exact hj)) := List.getElem?_eq_getElem _
    exact Own.ne_of_type (hR.2.1 j u _ hu hx).1.1 h.own (by decide))
  have hw := h.ws.kept hgr.1 (Own.ne_of_type h.ws.1 h.own (by decide))
  refine ⟨hown, hR3.mono (Nat.le_refl _) hs, hw, ?_⟩
  intro k u hu
  by_cases hk : k < vs.length
  · rw [List.getElem?_append_left hk] at hu
    exact h.ap k u hu
  · have hj := (List.getElem?_eq_some_iff.1 hu).1
    simp at hj
    have : k = vs.length := by omega
    subst this
    simp at hu
    subst hu
    exact hrb
/-- the rows grow by a list that was made after all else -/
theorem Two.addA' (h : Two w N va vb vs rows Bs) (hb : Below w.heap.size w w') (hN : N ≤ w.heap.size) (ho : OwnInts w' w.heap.size tI r zs)
    (hown : Own w1 N tL v1 (vs ++ [r])) (hgr : Grow w' w1 va v1) : Two w1 N v1 vb (vs ++ [r]) (rows ++ [zs]) Bs := by
  refine (h.step hb).addA ⟨ho.mono hN, ho.1.lt⟩ (h.rows.apart (M := 0) (fun b hb => .inl (ho.1.ge b hb))) ?_ hown hgr
  unfold Apart
  cases hr : r.ownBlock with
  | none => exact .inl rfl
  | some b =>
    refine .inr fun e => ?_
    have h1 := ho.1.ge b hr
    have h2 := h.ws.1.lt b e.symm
    omega
/-- the numbers grow -/
theorem Two.addB (h : Two w N va vb vs rows Bs) (hz : In64 z) (hown : Own w1 N tI v1 (ints Bs ++ [.int .i64 z])) (hgr : Grow w w1 vb v1) : Two w1 N va v1 vs rows (Bs ++ [z]) := by
  have hs := hgr.1.size
  have hO := h.own.kept hgr.1 (Own.ne_of_type h.own h.ws.1 (by decide))
  have hR := h.rows.other hgr.1 h.ap
  refine ⟨hO, hR.mono (Nat.le_refl _) hs, ⟨by simpa [ints] using hown, fun y hy => ?_⟩, ?_⟩
  · rcases List.mem_append.1 hy with hy | hy
    · exact h.ws.2 y hy
    · simp at hy; subst hy; exact hz
  · intro k u hu
    have hx : rows[k]? = some (rows[k]'(by rw [← h.rows.1]; exact (List.getElem?_eq_some_iff.1 hu).1)) := List.getElem?_eq_getElem _
    have ho := h.rows.2.1 k u _ hu hx
    rcases hgr.2 with e | ⟨g, e, hge⟩
    · have := h.ap k u hu
      unfold Apart at this ⊢
      rw [e]
      exact this
    · unfold Apart
      cases hb : u.ownBlock with
      | none => exact .inl rfl
      | some b =>
        refine .inr fun e2 => ?_
        rw [e] at e2
        have := ho.2 b hb
        simp at e2
        omega
theorem Two.npA (h : Two w N va vb vs rows Bs) (hp : p < N) : va.ownBlock ≠ some p := fun e => by have := h.own.ge p e; omega
theorem Two.npB (h : Two w N va vb vs rows Bs) (hp : p < N) : vb.ownBlock ≠ some p := fun e => by have := h.ws.1.ge p e; omega
end
section
variable {w0 w w' w1 : World} {p : Nat} {va vb v1 r : Value} {vs : List Value} {rows : List (List Int)} {zs Bs : List Int}
/-- the rows grow by a list that was made after all else -/
theorem Fill2.nextA' (h : Fill2 w0 w p va vb vs rows Bs) (hp : w0.heap.size ≤ p) (hb : Below w.heap.size w w') (ho : OwnInts w' w.heap.size tI r zs)
    (hown : Own w1 (p + 1) tL v1 (vs ++ [r])) (hgr : Grow w' w1 va v1) :
    Fill2 w0 (w1.setCell ⟨p, 0, none⟩ v1) p v1 vb (vs ++ [r]) (rows ++ [zs]) Bs := by
  refine (h.step hb).nextA hp ⟨ho.mono h.lt, ho.1.lt⟩ (h.rows.apart (M := 0) (fun b hb => .inl (ho.1.ge b hb))) ?_ hown hgr
  unfold Apart
  cases hr : r.ownBlock with
  | none => exact .inl rfl
  | some b =>
    refine .inr fun e => ?_
    have h1 := ho.1.ge b hr
    have h2 := h.ws.1.lt b e.symm
    omega
end
section
variable {w0 w w9 : World} {p : Nat} {va vb v6 v9 : Value} {vs : List Value} {rows : List (List Int)} {Bs : List Int}
theorem Fill2.two (h : Fill2 w0 w p va vb vs rows Bs) : Two w (p + 1) va vb vs rows Bs := ⟨h.own, h.rows, h.ws, h.ap⟩
end
end Go.Proofs.Ytnlaoainhlfemaa

set_option maxRecDepth 100000
set_option linter.unusedVariables false
set_option linter.unusedSimpArgs false
namespace Go.Proofs.Ytnlaoainhlfemaa
open Go.RowKit

section
variable {w w' : World} {B N p : Nat} {e t : TypeId} {v va vb : Value} {vs : List Value} {cs : Array Value} {rows : List (List Int)} {Bs : List Int}
theorem Own.ne_blk (h : Own w B e v vs) (hk : Blk w p t cs) (hne : e ≠ t) : v.ownBlock ≠ some p := by
  intro hb
  rcases h.cases with ⟨rfl, _⟩ | ⟨g, cap, cur, rfl, _, _, hg, _⟩
  · simp [Value.ownBlock] at hb
  · simp [Value.ownBlock] at hb
    subst hb
    have h2 : w.heap[g]? = some (.cells cs t (0, 0)) := hk
    rw [hg] at h2
    simp at h2
    exact hne h2.2
theorem Two.storeAt (h : Two w N va vb vs rows Bs) (hk : Blk w p t cs) (h1 : tL ≠ t) (h2 : tI ≠ t) (i : Nat) (u : Value) : Two (w.setCell ⟨p, i, none⟩ u) N va vb vs rows Bs := by
  have hh : ∀ b, b ≠ p → (w.setCell ⟨p, i, none⟩ u).heap[b]? = w.heap[b]? := fun b hb => Below.heap_setCell w ⟨p, i, none⟩ u b hb
  have hs : (w.setCell ⟨p, i, none⟩ u).heap.size = w.heap.size := by simp [World.setCell]
  refine ⟨h.own.of_block fun b hb => hh b (fun e => h.own.ne_blk hk h1 (e ▸ hb)), ?_, ⟨h.ws.1.of_block fun b hb => hh b (fun e => h.ws.1.ne_blk hk h2 (e ▸ hb)), h.ws.2⟩, h.ap⟩
  rw [hs]
  exact ⟨h.rows.1, fun k u' zs hu hz => ⟨⟨(h.rows.2.1 k u' zs hu hz).1.1.of_block fun b hb => hh b (fun e => (h.rows.2.1 k u' zs hu hz).1.1.ne_blk hk h2 (e ▸ hb)), (h.rows.2.1 k u' zs hu hz).1.2⟩, (h.rows.2.1 k u' zs hu hz).2⟩, h.rows.2.2⟩

/-- all that Two tells stands where only block p, of another type, has turned -/
theorem Two.other (h : Two w N va vb vs rows Bs) (hk : Blk w p t cs) (h1 : tL ≠ t) (h2 : tI ≠ t) (hg : w.grownBy w' (some p)) : Two w' N va vb vs rows Bs :=
  ⟨h.own.kept hg (.inr (h.own.ne_blk hk h1)), (h.rows.other hg fun k u hu => by
    have hx : rows[k]? = some (rows[k]'(by rw [← h.rows.1]; exact (List.getElem?_eq_some_iff.1 hu).1)) := List.getElem?_eq_getElem _
    exact .inr ((h.rows.2.1 k u _ hu hx).1.1.ne_blk hk h2)).mono (Nat.le_refl _) hg.size, ⟨h.ws.1.kept hg (.inr (h.ws.1.ne_blk hk h2)), h.ws.2⟩, h.ap⟩
end

/-- the first loop: columns vc beside the tableau in block p, whose weights grow -/
structure ColS (w0 w : World) (p : Nat) (vc vb : Value) (vs : List Value) (rows : List (List Int)) (Bs : List Int) : Prop where
  two : Two w (w0.heap.size + 1) vc vb vs rows Bs
  blk : Blk w p 27 #[.slice none 0 0, vb]
  below : Below w0.heap.size w0 w
section
variable {w0 w w' w1 : World} {p : Nat} {vc vb v1 r : Value} {vs : List Value} {rows : List (List Int)} {zs Bs : List Int} {z : Int}
theorem ColS.npA (h : ColS w0 w p vc vb vs rows Bs) : vc.ownBlock ≠ some p := h.two.own.ne_blk h.blk (by decide)
theorem ColS.npB (h : ColS w0 w p vc vb vs rows Bs) : vb.ownBlock ≠ some p := h.two.ws.1.ne_blk h.blk (by decide)
theorem ColS.step (h : ColS w0 w p vc vb vs rows Bs) (hb : Below w.heap.size w w') : ColS w0 w' p vc vb vs rows Bs :=
  ⟨h.two.step hb, h.blk.below hb h.blk.lt, h.below.trans (hb.mono h.below.size)⟩
theorem ColS.addA (h : ColS w0 w p vc vb vs rows Bs) (hp : w0.heap.size < w.heap.size) (hb : Below w.heap.size w w') (ho : OwnInts w' w.heap.size tI r zs)
    (hown : Own w1 (w0.heap.size + 1) tL v1 (vs ++ [r])) (hgr : Grow w' w1 vc v1) : ColS w0 w1 p v1 vb (vs ++ [r]) (rows ++ [zs]) Bs :=
  ⟨h.two.addA' hb hp ho hown hgr, (h.step hb).blk.grow hgr h.npA, hgr.below (h.step hb).below (h.step hb).below.size (fun b hb' => by have := h.two.own.ge b hb'; omega)⟩
theorem ColS.addB (h : ColS w0 w p vc vb vs rows Bs) (hp : w0.heap.size ≤ p) (hz : In64 z) (hown : Own w1 (w0.heap.size + 1) tI v1 (ints Bs ++ [.int .i64 z])) (hgr : Grow w w1 vb v1) :
    ColS w0 (w1.setCell ⟨p, 1, none⟩ v1) p vc v1 vs rows (Bs ++ [z]) := by
  have hk := h.blk.grow hgr h.npB
  refine ⟨(h.two.addB hz hown hgr).storeAt hk (by decide) (by decide) 1 v1, ?_, (hgr.below h.below h.below.size (fun b hb' => by have := h.two.ws.1.ge b hb'; omega)).setCell (p := ⟨p, 1, none⟩) hp v1⟩
  have := hk.set_ 1 v1
  simpa using this
end

/-- the second loop: rows va grow in block p, made since w4; of what stood there, only block p has turned -/
structure ColT (w4 w : World) (p : Nat) (va vb : Value) (vs : List Value) (rows : List (List Int)) : Prop where
  g : w4.grownBy w (some p)
  blk : Blk w p 27 #[va, vb]
  own : Own w w4.heap.size tL va vs
  rows : RowsOwn w w4.heap.size w.heap.size tI vs rows
section
variable {w0 w4 w w5 w6 : World} {p : Nat} {va vb v1 r : Value} {vs : List Value} {rows : List (List Int)} {zs : List Int}
theorem ColT.npA (h : ColT w4 w p va vb vs rows) : va.ownBlock ≠ some p := h.own.ne_blk h.blk (by decide)
theorem ColT.step (h : ColT w4 w p va vb vs rows) (hb : Below w.heap.size w w5) : ColT w4 w5 p va vb vs rows :=
  ⟨⟨hb.os.trans h.g.os, hb.tape.trans h.g.tape, hb.output.trans h.g.output, Nat.le_trans h.g.size hb.size, fun k hk hne => (hb.block k (Nat.lt_of_lt_of_le hk h.g.size)).trans (h.g.block k hk hne)⟩,
    h.blk.below hb h.blk.lt, h.own.below hb, (h.rows.below hb).mono (Nat.le_refl _) hb.size⟩
theorem ColT.next (h : ColT w4 w p va vb vs rows) (hb : Below w.heap.size w w5) (ho : OwnInts w5 w.heap.size tI r zs)
    (hown : Own w6 w4.heap.size tL v1 (vs ++ [r])) (hgr : Grow w5 w6 va v1) : ColT w4 (w6.setCell ⟨p, 0, none⟩ v1) p v1 vb (vs ++ [r]) (rows ++ [zs]) := by
  have h5 := h.step hb
  have hk := h5.blk.grow hgr h5.npA
  have hR := h5.rows.snoc (u := r) (zs := zs) ⟨ho.mono h.g.size, ho.1.lt⟩ (h.rows.apart (M := 0) fun b hb' => .inl (ho.1.ge b hb'))
  have hR6 := hR.other hgr.1 (fun j u hu => by
    have hx : (rows ++ [zs])[j]? = some ((rows ++ [zs])[j]'(by rw [← hR.1]; exact (List.getElem?_eq_some_iff.1 hu).1)) := List.getElem?_eq_getElem _
    exact Own.ne_of_type (hR.2.1 j u _ hu hx).1.1 h5.own (by decide))
  have hh : ∀ b, b ≠ p → (w6.setCell ⟨p, 0, none⟩ v1).heap[b]? = w6.heap[b]? := fun b hb => Below.heap_setCell w6 ⟨p, 0, none⟩ v1 b hb
  have hs : (w6.setCell ⟨p, 0, none⟩ v1).heap.size = w6.heap.size := by simp [World.setCell]
  refine ⟨⟨hgr.1.os.trans h5.g.os, hgr.1.tape.trans h5.g.tape, hgr.1.output.trans h5.g.output, by rw [hs]; exact Nat.le_trans h5.g.size hgr.1.size, fun k hk' hne => ?_⟩, ?_, ?_, ?_⟩
  · rw [hh k (fun e => hne (by rw [e])), hgr.1.block k (Nat.lt_of_lt_of_le hk' h5.g.size) (fun e => by have := h5.own.ge k e.symm; omega)]
    exact h5.g.block k hk' hne
  · have := hk.set_ 0 v1
    simpa using this
  · exact hown.of_block fun b hb' => hh b (fun e => hown.ne_blk hk (by decide) (e ▸ hb'))
  · rw [hs]
    have hR7 := hR6.mono (Nat.le_refl _) hgr.1.size
    exact ⟨hR7.1, fun k u' zs' hu hz => ⟨⟨(hR7.2.1 k u' zs' hu hz).1.1.of_block fun b hb' => hh b (fun e => (hR7.2.1 k u' zs' hu hz).1.1.ne_blk hk (by decide) (e ▸ hb')), (hR7.2.1 k u' zs' hu hz).1.2⟩, (hR7.2.1 k u' zs' hu hz).2⟩, hR7.2.2⟩
theorem ColT.tab {vc : Value} {vs' : List Value} {rows' : List (List Int)} {Bs : List Int} (h : ColT w4 w p va vb vs rows) (hs : ColS w0 w4 p vc vb vs' rows' Bs) (hp : w0.heap.size + 1 ≤ w4.heap.size) : OT w (w0.heap.size + 1) w.heap.size (.agg #[va, vb]) rows Bs :=
  OT.of_M' (M := w4.heap.size) hp h.g.size ⟨(hs.two.other hs.blk (by decide) (by decide) h.g).ws, hs.two.ws.1.lt⟩ ⟨vs, h.own, h.own.lt, h.rows⟩
end

/-- a tableau that is filled in block p, wherever it lies among the blocks that were made since w0 -/
structure FillT (w0 w : World) (p : Nat) (va vb : Value) (vs : List Value) (rows : List (List Int)) (Bs : List Int) : Prop where
  two : Two w (w0.heap.size + 1) va vb vs rows Bs
  blk : Blk w p 27 #[va, vb]
  ge : w0.heap.size + 1 ≤ p
  below : Below w0.heap.size w0 w
section
variable {w0 w w5 w6 : World} {p : Nat} {va vb v1 r : Value} {vs : List Value} {rows : List (List Int)} {zs Bs : List Int}
theorem FillT.npA (h : FillT w0 w p va vb vs rows Bs) : va.ownBlock ≠ some p := h.two.own.ne_blk h.blk (by decide)
theorem FillT.npB (h : FillT w0 w p va vb vs rows Bs) : vb.ownBlock ≠ some p := h.two.ws.1.ne_blk h.blk (by decide)
theorem FillT.step (h : FillT w0 w p va vb vs rows Bs) (hb : Below w.heap.size w w5) : FillT w0 w5 p va vb vs rows Bs :=
  ⟨h.two.step hb, h.blk.below hb h.blk.lt, h.ge, h.below.trans (hb.mono h.below.size)⟩
theorem FillT.next (h : FillT w0 w p va vb vs rows Bs) (hb : Below w.heap.size w w5) (ho : OwnInts w5 w.heap.size tI r zs)
    (hown : Own w6 (w0.heap.size + 1) tL v1 (vs ++ [r])) (hgr : Grow w5 w6 va v1) : FillT w0 (w6.setCell ⟨p, 0, none⟩ v1) p v1 vb (vs ++ [r]) (rows ++ [zs]) Bs := by
  have h5 := h.step hb
  have hk := h5.blk.grow hgr h5.npA
  have hN : w0.heap.size + 1 ≤ w.heap.size := by have := h.ge; have := h.blk.lt; omega
  refine ⟨(h.two.addA' hb hN ho hown hgr).storeAt hk (by decide) (by decide) 0 v1, ?_, h.ge, (hgr.below h5.below h5.below.size (fun b hb' => by have := h5.two.own.ge b hb'; omega)).setCell (p := ⟨p, 0, none⟩) (by have := h.ge; show _ ≤ p; omega) v1⟩
  have := hk.set_ 0 v1
  simpa using this
theorem FillT.tab (h : FillT w0 w p va vb vs rows Bs) : OT w (w0.heap.size + 1) w.heap.size (.agg #[va, vb]) rows Bs := h.two.tab
end

theorem FillT.init {w0 w : World} {p : Nat} {vb : Value} {Bs : List Int} (h : Two w (w0.heap.size + 1) (.slice none 0 0) vb [] [] Bs) (hk : Blk w p 27 #[.slice none 0 0, .slice none 0 0]) (hb : Below w0.heap.size w0 w) (hp : w0.heap.size + 1 ≤ p) :
    FillT w0 ((w.setCell ⟨p, 0, none⟩ (.slice none 0 0)).setCell ⟨p, 1, none⟩ vb) p (.slice none 0 0) vb [] [] Bs := by
  have h0 := h.storeAt hk (by decide) (by decide) 0 (.slice none 0 0)
  have k0 := hk.set_ 0 (.slice none 0 0)
  have h1 := h0.storeAt k0 (by decide) (by decide) 1 vb
  have k1 := k0.set_ 1 vb
  exact ⟨h1, by simpa using k1, hp, (hb.setCell (p := ⟨p, 0, none⟩) (by show _ ≤ p; omega) _).setCell (p := ⟨p, 1, none⟩) (by show _ ≤ p; omega) _⟩

/-- the three blocks of a walk of two tableaus: both arguments and the result -/
structure Env (w0 w : World) (c0 c1 c2 : Array Value) : Prop where
  k0 : Blk w w0.heap.size 27 c0
  k1 : Blk w (w0.heap.size + 1) 27 c1
  k2 : Blk w (w0.heap.size + 1 + 1) 27 c2
  below : Below w0.heap.size w0 w
section
variable {w0 w w' : World} {c0 c1 c2 : Array Value} {v v' : Value} {vs : List Value} {B p : Nat} {e : TypeId}
theorem Env.step (h : Env w0 w c0 c1 c2) (hb : Below w.heap.size w w') : Env w0 w' c0 c1 c2 :=
  ⟨h.k0.below hb h.k0.lt, h.k1.below hb h.k1.lt, h.k2.below hb h.k2.lt, h.below.trans (hb.mono h.below.size)⟩
theorem Env.grow (h : Env w0 w c0 c1 c2) (ho : Own w B e v vs) (he : e ≠ 27) (hB : w0.heap.size ≤ B) (hgr : Grow w w' v v') : Env w0 w' c0 c1 c2 :=
  ⟨h.k0.grow hgr (ho.ne_blk h.k0 he), h.k1.grow hgr (ho.ne_blk h.k1 he), h.k2.grow hgr (ho.ne_blk h.k2 he), hgr.below h.below h.below.size (fun b hb => Nat.le_trans hB (ho.ge b hb))⟩
theorem Env.store (h : Env w0 w c0 c1 c2) (hp : w0.heap.size + 1 + 1 < p) (i : Nat) (u : Value) : Env w0 (w.setCell ⟨p, i, none⟩ u) c0 c1 c2 :=
  ⟨h.k0.far (p := ⟨p, i, none⟩) (by show _ ≠ p; omega) u, h.k1.far (p := ⟨p, i, none⟩) (by show _ ≠ p; omega) u, h.k2.far (p := ⟨p, i, none⟩) (by show _ ≠ p; omega) u, h.below.setCell (p := ⟨p, i, none⟩) (by show _ ≤ p; omega) u⟩
end
end Go.Proofs.Ytnlaoainhlfemaa

set_option maxRecDepth 100000
set_option linter.unusedVariables false
set_option linter.unusedSimpArgs false
namespace Go.Proofs.Ytnlaoainhlfemaa
open Go.RowKit

set_option maxHeartbeats 4000000 in
theorem s_l01List (w : World) (B p N : Nat) (h : Src w B tSc p) (hN : N ≤ 1000) :
    Calls Try.prog 139 #[at0 p, .int .i64 (N : Nat)] w fun e w' => ∃ x, e = .returned x ∧ ∃ zs, OwnInts w' w.heap.size tI x zs ∧ zs.length = N ∧ Nums zs ∧ w.grownBy w' (some p) ∧ Src w' B tSc p := by
  have HS := Lib.hid h
  have hpl := h.lt
  have OL := Lib.hid (show Own (w.alloc (.cells #[] tI)) w.heap.size tI (.slice (some ⟨w.heap.size, 0, none⟩) 0 0) (ints []) from own_lit w tI [] (by simp [maxLen]))
  have HS1 := Lib.hid (h.below (below1 w (.cells #[] tI)))
  have HG1 := Lib.hid (show w.grownBy (w.alloc (.cells #[] tI)) (some p) from gof (below1 w _))
  have HF := Lib.hid (show Nums [] from fun z hz => by simp at hz)
  clear h
  go_enter Try.func139, Try.ntmps139
  go_wp2_with fail
  go_loopw [5, 1] (fun o x wr => ∃ (zs : List Int) (m : Nat), Hid (zs.length + m = N) ∧ x = .int .i64 m ∧ m ≤ 1000 ∧ zs.length ≤ 1000 ∧ Own wr w.heap.size tI o (ints zs) ∧ Hid (Nums zs) ∧ w.grownBy wr (some p) ∧ Src wr B tSc p) (fun _ x _ => (intOf x).toNat)
  case atStart => exact ⟨[], N, by show 0 + N = N; omega, rfl, hN, by simp, OL.out, HF.out, HG1.out, HS1.out⟩
  case round =>
    obtain ⟨zs, m, HM, rfl, hm, hz2, ho, HZ, hg, hs⟩ := hrel
    rename World => wq
    clear OL HS1 HG1 HF
    have HO := Lib.hid ho
    have HG := Lib.hid hg
    have HS := Lib.hid hs
    obtain ⟨Ao, co, heo, -, -⟩ := ho.cells.open_
    rw [ints_len] at heo
    subst heo
    have hwq := hg.size
    clear ho hg hs
    by_cases hlt : 0 < m
    · have hll : (0 : Int) < (m : Int) := by omega
      have hmd : decide (0 < m) = true := decide_eq_true hlt
      go_wp2_with (first
        | (go_at_call 156; go_loud (refine (s_l01Number _ B p HS.out).mono ?_; rintro e w5 ⟨x5, rfl, hx, hg5, hs5⟩; have HO5 := Lib.hid (HO.out.src hpl hg5); have HG5 := Lib.hid (gtrans HG.out hg5); have HS5 := Lib.hid hs5; have HX5 := Lib.hid hx; clear hg5 hs5 hx))
        | (at_builtin; go_loud (refine wpList_app1 T_int HO5.out (by rw [ints_len]; omega) HG5.out.size (by rfl) rfl (by rfl) (by rfl) (by rfl) ?_; intro v7 w7 hown7 hgr7; have HN7 := Lib.hid hown7; have HR7 := Lib.hid hgr7; clear hown7 hgr7)))
      have HGA := Lib.hid (gthen HG5.out HR7.out.1 HO5.out.ge)
      have hne : (Value.slice Ao zs.length co).ownBlock ≠ some p := fun e => by have := HO5.out.ge _ e; omega
      have HSA := Lib.hid (HS5.out.kept HR7.out.1 hne (fun b hb => Nat.le_trans (Nat.le_trans HS5.out.ge (Nat.le_of_lt hpl)) (HO5.out.ge b hb)))
      clear hne
      go_roundw
      case rel =>
        have hm0 := HM.out
        refine ⟨zs ++ [x5], m - 1, by show (zs ++ [x5]).length + (m - 1) = N; rw [List.length_append, List.length_singleton]; omega, ?_, by omega, by rw [List.length_append, List.length_singleton]; omega, by simpa [ints] using HN7.out, fun z hz => ?_, HGA.out, HSA.out⟩
        · rw [show ((m - 1 : Nat) : Int) = (m : Int) - 1 by omega]
        rcases List.mem_append.1 hz with h | h
        · exact HZ.out z h
        · have := HX5.out; simp at h; omega
      case measure => simp [intOf]; omega
    · have hm0 : m = 0 := by omega
      subst hm0
      have HNL := Lib.hid (show zs.length = N from HM.out)
      go_wp2_with fail
      go_ret
      exact ⟨_, rfl, zs, ⟨HO.out, fun z hz => by have := HZ.out z hz; unfold In64; omega⟩, HNL.out, HZ.out, HG.out, HS.out⟩
/-! ### the laws' lists -/
end Go.Proofs.Ytnlaoainhlfemaa

set_option maxRecDepth 100000
set_option linter.unusedVariables false
set_option linter.unusedSimpArgs false
namespace Go.Proofs.Ytnlaoainhlfemaa
open Go.RowKit

theorem chgD {w w' : World} {g : Nat} (h : w.grownBy w' (some g)) : Chg g (g + 1) w w' := ⟨h.os, h.tape, h.output, h.size, fun k hk hd => h.block k hk (by intro e; injection e with e; omega)⟩
section
variable {w w' : World} {N p g n cap k : Nat} {va vb v1 r : Value} {vs : List Value} {rows : List (List Int)} {zs Bs : List Int} {z : Int}
theorem Two.srcD (h : Two w N va vb vs rows Bs) (hg : w.grownBy w' (some p)) (hp : p < N) : Two w' N va vb vs rows Bs := h.kept (chgD hg) hp
theorem Blk.srcD {t : TypeId} {cs : Array Value} {q : Nat} (h : Blk w q t cs) (hg : w.grownBy w' (some p)) (hne : q ≠ p) : Blk w' q t cs := (hg.block q h.lt (by intro e; injection e with e; exact hne e)).trans h
/-- a number of the weights is stored -/
theorem Two.setB (h : Two w N va (.slice (some ⟨g, 0, none⟩) n cap) vs rows Bs) (hk : k < Bs.length) (hz : In64 z) :
    (∃ u0, w.cell? ⟨g, k, none⟩ = some u0) ∧ w.frozen? ⟨g, k, none⟩ = false ∧ Two (w.setCell ⟨g, k, none⟩ (.int .i64 z)) N va (.slice (some ⟨g, 0, none⟩) n cap) vs rows (Bs.set k z) ∧ w.grownBy (w.setCell ⟨g, k, none⟩ (.int .i64 z)) (some g) := by
  obtain ⟨u0, hu0, hcg, hfg, hg2, hg1, hown', hgr⟩ := h.ws.1.storeAt (k := k) (by rw [ints_len]; exact hk) (.int .i64 z)
  have hnb := Own.ne_of_type h.own h.ws.1 (by decide)
  have hown2 : Own (w.setCell ⟨g, k, none⟩ (.int .i64 z)) N tI (.slice (some ⟨g, 0, none⟩) n cap) (ints (Bs.set k z)) := by
    rw [show ints (Bs.set k z) = (ints Bs).set k (.int .i64 z) by simp [ints, List.map_set]]; exact hown'
  refine ⟨⟨u0, hcg⟩, hfg, ⟨h.own.kept hgr hnb, (h.rows.other hgr h.ap).mono (Nat.le_refl _) hgr.size, ⟨hown2, fun y hy => ?_⟩, h.ap⟩, hgr⟩
  rcases List.mem_or_eq_of_mem_set hy with h1 | rfl
  · exact h.ws.2 y h1
  · exact hz
end
/-- a list of numbers of one's own, opened -/
theorem own_openD {w : World} {C n : Nat} {v : Value} {us : List Int} (h : OwnInts w C tI v us) (hl : Nl n us) (hn : 1 ≤ n) : ∃ g cap, v = .slice (some ⟨g, 0, none⟩) n cap := by
  rcases h.1.cases with ⟨-, he⟩ | ⟨g, cap, cur, he, -⟩
  · have h1 := congrArg List.length he; rw [ints_len, hl.1] at h1; simp at h1; omega
  · rw [ints_len, hl.1] at he; exact ⟨g, cap, he⟩
theorem nl_set {n : Nat} {us : List Int} (h : Nl n us) {z : Int} (hz : 0 ≤ z ∧ z ≤ 10006) (k : Nat) : Nl n (us.set k z) := ⟨by rw [List.length_set]; exact h.1, fun y hy => by
  rcases List.mem_or_eq_of_mem_set hy with h1 | rfl
  · exact h.2 y h1
  · exact hz⟩
/-- the state of a tableau that is drawn: the source has turned, all else is new -/
structure DrS (w0 w : World) (B p q : Nat) (va vb : Value) (vs : List Value) (m n : Nat) : Prop where
  ex : ∃ rows Bs, Two w (w0.heap.size + 1) va vb vs rows Bs ∧ Sqm m n rows ∧ Nl n Bs
  blk : Blk w q tTb #[va, vb]
  res : Blk w w0.heap.size tTb #[.slice none 0 0, .slice none 0 0]
  ge : w0.heap.size + 1 ≤ q
  gr : w0.grownBy w (some p)
  src : Src w B tSc p
section
variable {w0 w w5 w6 : World} {B p q m n : Nat} {va vb v1 r : Value} {vs : List Value} {zs : List Int}
theorem DrS.draw (h : DrS w0 w B p q va vb vs m n) (hp : p < w0.heap.size) (hg : w.grownBy w5 (some p)) (hs : Src w5 B tSc p) : DrS w0 w5 B p q va vb vs m n := by
  obtain ⟨rows, Bs, h1, h2, h3⟩ := h.ex
  exact ⟨⟨rows, Bs, h1.srcD hg (by omega), h2, h3⟩, h.blk.srcD hg (by have := h.ge; omega), h.res.srcD hg (by omega), h.ge, gtrans h.gr hg, hs⟩
theorem DrS.lenA (h : DrS w0 w B p q va vb vs m n) : vs.length = m := by
  obtain ⟨rows, Bs, h1, h2, h3⟩ := h.ex
  exact h1.rows.1.trans h2.1
theorem DrS.ownA (h : DrS w0 w B p q va vb vs m n) : Own w (w0.heap.size + 1) tL va vs := by
  obtain ⟨rows, Bs, h1, h2, h3⟩ := h.ex
  exact h1.own
/-- one row more: it was made since w -/
theorem DrS.next (h : DrS w0 w B p q va vb vs m n) (hp : p < w0.heap.size) (hg : w.grownBy w5 (some p)) (hs : Src w5 B tSc p) (ho : OwnInts w5 w.heap.size tI r zs) (hz : Nl n zs)
    (hown : Own w6 (w0.heap.size + 1) tL v1 (vs ++ [r])) (hgr : Grow w5 w6 va v1) : DrS w0 (w6.setCell ⟨q, 0, none⟩ v1) B p q v1 vb (vs ++ [r]) (m + 1) n := by
  have h5 := h.draw hp hg hs
  obtain ⟨rows, Bs, h1, h2, h3⟩ := h.ex
  have h1' := h1.srcD (p := p) hg (by omega)
  have hnp : va.ownBlock ≠ some q := h5.ownA.ne_blk h5.blk (by decide)
  have hnr : va.ownBlock ≠ some w0.heap.size := fun e => by have := h5.ownA.ge _ e; omega
  have hk := h5.blk.grow hgr hnp
  have hrs := h5.res.grow hgr hnr
  have hN : w0.heap.size + 1 ≤ w.heap.size := by have := h.ge; have := h.blk.lt; omega
  have hap := h1.rows.apart (M := 0) (u' := r) (fun b hb => .inl (ho.1.ge b hb))
  have hrb : Apart r vb := by
    unfold Apart
    cases hr : r.ownBlock with
    | none => exact .inl rfl
    | some b =>
      refine .inr fun e => ?_
      have a1 := ho.1.ge b hr
      have a2 := h1.ws.1.lt b e.symm
      omega
  have h6 := (h1'.addA ⟨ho.mono hN, ho.1.lt⟩ hap hrb hown hgr).storeAt hk (by decide) (by decide) 0 v1
  have hgo : ∀ b, va.ownBlock = some b → w0.heap.size ≤ b := fun b hb => by have := h5.ownA.ge b hb; omega
  have g6 : w0.grownBy w6 (some p) := gthen h5.gr hgr.1 hgo
  have g7 : w0.grownBy (w6.setCell ⟨q, 0, none⟩ v1) (some p) := gthen g6 (gset w6 q 0 v1) (by rintro b ⟨⟩; have := h.ge; omega)
  have s6 : Src w6 B tSc p := h5.src.kept hgr.1 (fun e => by have := h5.ownA.ge _ e; omega) (fun b hb => by have := hgo b hb; have := h5.src.ge; omega)
  have s7 := s6.kept (gset w6 q 0 v1) (by intro e; injection e with e; have := h.ge; omega) (by rintro b ⟨⟩; have := h.ge; have := h5.src.ge; omega)
  refine ⟨⟨_, _, h6, h2.snoc hz, h3⟩, ?_, hrs.far (p := ⟨q, 0, none⟩) (by have := h.ge; simp; omega) v1, h.ge, g7, s7⟩
  have := hk.set_ 0 v1
  simpa using this
/-- a weight is stored -/
theorem DrS.setB {g cap k : Nat} {z : Int} (h : DrS w0 w B p q va (.slice (some ⟨g, 0, none⟩) n cap) vs m n) (hp : p < w0.heap.size) (hk : k < n) (hz : 0 ≤ z ∧ z ≤ 10006) :
    (∃ u0, w.cell? ⟨g, k, none⟩ = some u0) ∧ w.frozen? ⟨g, k, none⟩ = false ∧ DrS w0 (w.setCell ⟨g, k, none⟩ (.int .i64 z)) B p q va (.slice (some ⟨g, 0, none⟩) n cap) vs m n := by
  obtain ⟨rows, Bs, h1, h2, h3⟩ := h.ex
  obtain ⟨a1, a2, a3, a4⟩ := h1.setB (k := k) (by rw [h3.1]; exact hk) (z := z) (by unfold In64; omega)
  have hge : w0.heap.size + 1 ≤ g := h1.ws.1.ge g rfl
  have hgq : g ≠ q := fun e => (h1.ws.1.ne_blk h.blk (by decide)) (by rw [e]; rfl)
  refine ⟨a1, a2, ⟨rows, _, a3, h2, nl_set h3 hz k⟩, h.blk.far (p := ⟨g, k, none⟩) (by simpa using fun e => hgq e.symm) _, h.res.far (p := ⟨g, k, none⟩) (by simp; omega) _, h.ge, gthen h.gr a4 (by rintro b ⟨⟩; omega), h.src.kept a4 (by intro e; injection e with e; omega) (by rintro b ⟨⟩; have := h.src.ge; omega)⟩
/-- the weights can be read -/
theorem DrS.ws (h : DrS w0 w B p q va vb vs m n) : ∃ Bs, Ints w vb Bs ∧ Nl n Bs := by
  obtain ⟨rows, Bs, h1, h2, h3⟩ := h.ex
  exact ⟨Bs, h1.ws.ints, h3⟩
/-- the end: the result is stored -/
theorem DrS.fin (h : DrS w0 w B p q va vb vs n n) (hp : p < w0.heap.size) :
    DT ((w.setCell ⟨w0.heap.size, 0, none⟩ va).setCell ⟨w0.heap.size, 1, none⟩ vb) w0.heap.size (.agg #[va, vb]) n ∧ w0.grownBy ((w.setCell ⟨w0.heap.size, 0, none⟩ va).setCell ⟨w0.heap.size, 1, none⟩ vb) (some p) ∧ Src ((w.setCell ⟨w0.heap.size, 0, none⟩ va).setCell ⟨w0.heap.size, 1, none⟩ vb) B tSc p := by
  obtain ⟨rows, Bs, h1, h2, h3⟩ := h.ex
  have h4 := h1.storeAt h.res (by decide) (by decide) 0 va
  have r4 := h.res.set_ 0 va
  have h5 := h4.storeAt r4 (by decide) (by decide) 1 vb
  have g1 := gthen h.gr (gset w w0.heap.size 0 va) (by rintro b ⟨⟩; omega)
  have g2 := gthen g1 (gset _ w0.heap.size 1 vb) (by rintro b ⟨⟩; omega)
  have s1 := h.src.kept (gset w w0.heap.size 0 va) (by intro e; injection e with e; omega) (by rintro b ⟨⟩; have := h.src.ge; omega)
  have s2 := s1.kept (gset _ w0.heap.size 1 vb) (by intro e; injection e with e; omega) (by rintro b ⟨⟩; have := h.src.ge; omega)
  exact ⟨⟨rows, Bs, h5.tab.mono (Nat.le_succ _) (Nat.le_refl _), h2, h3⟩, g2, s2⟩
end
end Go.Proofs.Ytnlaoainhlfemaa

