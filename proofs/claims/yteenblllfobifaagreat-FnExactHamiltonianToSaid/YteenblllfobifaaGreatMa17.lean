/- Plain: l04Put, l04Roots, l04Cut, l04Double of the reference, with every premise of the walks; what the kernel finds at the trees with at most 8 nodes. | Words of memory for sums of trees: lists of one's own of structs of a tree and a count. | DROP Walk: FirstError of the reference. | The law FnExactFirstError. | Arguments that came in, opened to the words of the Mem text. -/
import Derived.Test.YteenblllfobifaaGreatMa16
import Derived.Test.YteenblllfobifaaGreatMa7
import Derived.Test.YteenblllfobifaaGreatMa2
import Derived.Test.YteenblllfobifaaGreatRows
import Derived.Test.YteenblllfobifaaGreatMa1
import Derived.WalkKit
import Derived.ProofKit
import Derived.OpenShut
set_option linter.unusedVariables false
set_option linter.unusedSimpArgs false
set_option maxRecDepth 100000
namespace Go.Proofs.YteenblllfobifaaGreat

abbrev CT := List Nat × Nat
/-- the place of a tree in a sum -/
def putA (t : List Nat) : List CT → Nat
  | [] => 0
  | x :: xs => bif befN x.1 t then putA t xs + 1 else 0
/-- what the round at place i adds -/
def putS (at_ : Nat) (t : List Nat) (i : Nat) (x : CT) : List CT := (bif Nat.beq i at_ && !eqN x.1 t then [(t, 1)] else []) ++ [(x.1, bif eqN x.1 t then x.2 + 1 else x.2)]
def putF (at_ : Nat) (t : List Nat) : Nat → List CT → List CT
  | _, [] => []
  | i, x :: xs => putS at_ t i x ++ putF at_ t (i + 1) xs
def putL (xs : List CT) (t : List Nat) : List CT := putF (putA t xs) t 0 xs ++ (bif Nat.beq (putA t xs) xs.length then [(t, 1)] else [])
def okC : List CT → Bool
  | [] => true
  | x :: xs => okL x.1 && Nat.ble x.2 100 && okC xs
/-- the sum of the trees that a tree is rerooted to at the nodes before n -/
def rooV (t : List Nat) : Nat → Option (List CT)
  | 0 => some []
  | n + 1 => match rooV t n with
    | none => none
    | some xs => match turV 9 t n with
      | none => none
      | some q => bif okC xs && Nat.ble xs.length 100 && okL q then some (putL xs q) else none
/-- what is left when a tree is cut above a node -/
def trkL (t : List Nat) (node : Nat) : List Nat := t.take node ++ t.drop (endN t node)
def braM (t : List Nat) (node : Nat) : List Nat := (braL t node).map fun x => x - t.getD node 0
/-- is the edge above a node one between halves that are equal? -/
def dblA (t : List Nat) (node : Nat) : Option Bool := bif okL t && Nat.blt node t.length && allGe (t.getD node 0) (braL t node) then
    match canO 9 (trkL t node), canO 9 (braM t node), parV t (t.getD node 0) node with
    | some a, some b, some p => bif Nat.beq a.length b.length then
        match turV 9 (trkL t node) p with
        | some q => bif okL q && okL b then some (eqN q b) else none
        | none => none
      else some false
    | _, _, _ => none
  else none
/-- the answer from a node on, with so much fuel -/
def dblV (t : List Nat) : Nat → Nat → Option Bool
  | 0, _ => some false
  | f + 1, node => match dblA t node with
    | none => none
    | some true => some true
    | some false => dblV t f (node + 1)
def headC : Option (List CT) → Option (List Nat)
  | some ((t, _) :: _) => some t
  | _ => none
def eqB : Option Bool → Bool → Bool
  | some true, true => true
  | some false, false => true
  | _, _ => false
/-- the reference's sums and the program's agree at a tree -/
def okRo (t : List Nat) : Bool := eqO (headC (rooV t t.length)) (freeO t) && eqB (dblV t (t.length - 1) 1) (supB t)
theorem okRo_8 : (List.range 8).all (fun n => (treesN (n + 1)).all okRo) = true := by decide +kernel
theorem okRo_at {n : Nat} (h1 : 1 ≤ n) (h8 : n ≤ 8) {t : List Nat} (ht : t ∈ treesN n) : ∃ r k xs, rooV t t.length = some ((r, k) :: xs) ∧ freeO t = some r ∧ dblV t (t.length - 1) 1 = some (supB t) := by
  have h := okRo_8
  rw [List.all_eq_true] at h
  have h2 := h (n - 1) (List.mem_range.2 (by omega))
  rw [show n - 1 + 1 = n by omega, List.all_eq_true] at h2
  have h3 := h2 t ht
  rw [okRo, Bool.and_eq_true] at h3
  obtain ⟨h4, h5⟩ := h3
  have h6 : dblV t (t.length - 1) 1 = some (supB t) := by
    cases hd : dblV t (t.length - 1) 1 with
    | none => rw [hd] at h5; cases h5
    | some b =>
      rw [hd] at h5
      cases hs : supB t <;> rw [hs] at h5 <;> cases b <;> first | rfl | cases h5
  cases hr : rooV t t.length with
  | none => rw [hr] at h4; cases h4
  | some ys =>
    rw [hr] at h4
    cases ys with
    | nil => cases h4
    | cons y ys =>
      cases hf : freeO t with
      | none => rw [hf] at h4; cases h4
      | some q =>
        rw [hf] at h4
        have := eqN_iff.1 (show eqN y.1 q = true from h4)
        exact ⟨y.1, y.2, ys, rfl, by rw [this], h6⟩

theorem putF_snoc (at_ : Nat) (t : List Nat) : ∀ (xs : List CT) (x : CT) (i : Nat), putF at_ t i (xs ++ [x]) = putF at_ t i xs ++ putS at_ t (i + xs.length) x
  | [], x, i => by simp [putF]
  | y :: ys, x, i => by
    rw [List.cons_append, putF, putF, putF_snoc at_ t ys x (i + 1), List.append_assoc, List.length_cons, Nat.add_assoc i 1, Nat.add_comm 1]
theorem putA_le (t : List Nat) : ∀ xs : List CT, putA t xs ≤ xs.length
  | [] => Nat.le_refl _
  | x :: xs => by
    rw [putA]
    cases befN x.1 t with
    | true => simpa using putA_le t xs
    | false => simp
theorem putA_bef {t : List Nat} : ∀ {xs : List CT} {k : Nat} {x : CT}, k < putA t xs → xs[k]? = some x → befN x.1 t = true
  | [], k, x, h, hx => by simp at hx
  | y :: ys, 0, x, h, hx => by
    simp at hx; subst hx
    rw [putA] at h
    cases hb : befN y.1 t with
    | true => rfl
    | false => rw [hb] at h; simp at h
  | y :: ys, k + 1, x, h, hx => by
    rw [putA] at h
    cases hb : befN y.1 t with
    | true => rw [hb] at h; simp at h; exact putA_bef (by omega) (by simpa using hx)
    | false => rw [hb] at h; simp at h
theorem putA_at {t : List Nat} : ∀ {xs : List CT} {x : CT}, xs[putA t xs]? = some x → befN x.1 t = false
  | [], x, hx => by simp at hx
  | y :: ys, x, hx => by
    rw [putA] at hx
    cases hb : befN y.1 t with
    | true => rw [hb] at hx; exact putA_at (xs := ys) (by simpa using hx)
    | false => rw [hb] at hx; simp at hx; subst hx; exact hb
theorem putF_len (at_ : Nat) (t : List Nat) : ∀ (xs : List CT) (i : Nat), (putF at_ t i xs).length ≤ 2 * xs.length
  | [], i => by simp [putF]
  | x :: xs, i => by
    rw [putF, List.length_append, putS, List.length_append, List.length_cons]
    have := putF_len at_ t xs (i + 1)
    cases (Nat.beq i at_ && !eqN x.1 t) <;> simp <;> omega
theorem okC_of : ∀ {xs : List CT}, okC xs = true → ∀ x ∈ xs, (x.1.length ≤ 100 ∧ ∀ l ∈ x.1, l ≤ 1000) ∧ x.2 ≤ 100
  | [], _, x, hx => absurd hx (by simp)
  | y :: ys, h, x, hx => by
    rw [okC, Bool.and_eq_true, Bool.and_eq_true] at h
    rcases List.mem_cons.1 hx with rfl | hx
    · exact ⟨okL_of h.1.1, Nat.le_of_ble_eq_true h.1.2⟩
    · exact okC_of h.2 x hx
theorem rooV_succ {t : List Nat} {n : Nat} {ys : List CT} (h : rooV t (n + 1) = some ys) : ∃ xs q, rooV t n = some xs ∧ turV 9 t n = some q ∧ okC xs = true ∧ xs.length ≤ 100 ∧ okL q = true ∧ ys = putL xs q := by
  rw [rooV] at h
  cases h1 : rooV t n with
  | none => rw [h1] at h; cases h
  | some xs =>
    rw [h1] at h
    simp only at h
    cases h2 : turV 9 t n with
    | none => rw [h2] at h; cases h
    | some q =>
      rw [h2] at h
      simp only at h
      cases h3 : okC xs with
      | false => rw [h3] at h; cases h
      | true =>
        cases h4 : Nat.ble xs.length 100 with
        | false => rw [h3, h4] at h; cases h
        | true =>
          cases h5 : okL q with
          | false => rw [h3, h4, h5] at h; cases h
          | true =>
            rw [h3, h4, h5] at h
            injection h with h
            exact ⟨xs, q, rfl, rfl, h3, Nat.le_of_ble_eq_true h4, h5, h.symm⟩
theorem rooV_some {t : List Nat} : ∀ {m n : Nat} {ys : List CT}, rooV t (n + m) = some ys → ∃ xs, rooV t n = some xs
  | 0, n, ys, h => ⟨ys, h⟩
  | m + 1, n, ys, h => by
    obtain ⟨xs, q, h1, -⟩ := rooV_succ (n := n + m) h
    exact rooV_some h1
/-- what the answer of l04Double at a node rests on -/
theorem dblA_some {t : List Nat} {node : Nat} {b : Bool} (h : dblA t node = some b) : okL t = true ∧ node < t.length ∧ allGe (t.getD node 0) (braL t node) = true ∧
    ∃ u v p, canO 9 (trkL t node) = some u ∧ canO 9 (braM t node) = some v ∧ parV t (t.getD node 0) node = some p ∧
      ((u.length ≠ v.length ∧ b = false) ∨ (u.length = v.length ∧ ∃ q, turV 9 (trkL t node) p = some q ∧ okL q = true ∧ okL v = true ∧ b = eqN q v)) := by
  unfold dblA at h
  cases h1 : okL t with
  | false => rw [h1] at h; cases h
  | true =>
    cases h2 : Nat.blt node t.length with
    | false => rw [h1, h2] at h; cases h
    | true =>
      cases h3 : allGe (t.getD node 0) (braL t node) with
      | false => rw [h1, h2, h3] at h; cases h
      | true =>
        rw [h1, h2, h3] at h
        simp only [Bool.and_self, cond_true] at h
        refine ⟨rfl, (blt_iff _ _).1 h2, rfl, ?_⟩
        cases h4 : canO 9 (trkL t node) with
        | none => rw [h4] at h; cases h
        | some u =>
          rw [h4] at h
          cases h5 : canO 9 (braM t node) with
          | none => rw [h5] at h; cases h
          | some v =>
            rw [h5] at h
            cases h6 : parV t (t.getD node 0) node with
            | none => rw [h6] at h; cases h
            | some p =>
              rw [h6] at h
              simp only at h
              refine ⟨u, v, p, rfl, rfl, rfl, ?_⟩
              cases h7 : Nat.beq u.length v.length with
              | false =>
                rw [h7] at h
                injection h with h
                exact .inl ⟨Nat.ne_of_beq_eq_false h7, h.symm⟩
              | true =>
                rw [h7] at h
                simp only [cond_true] at h
                refine .inr ⟨Nat.eq_of_beq_eq_true h7, ?_⟩
                cases h8 : turV 9 (trkL t node) p with
                | none => rw [h8] at h; cases h
                | some q =>
                  rw [h8] at h
                  simp only at h
                  cases h9 : okL q with
                  | false => rw [h9] at h; cases h
                  | true =>
                    cases h10 : okL v with
                    | false => rw [h9, h10] at h; cases h
                    | true =>
                      rw [h9, h10] at h
                      injection h with h
                      exact ⟨q, rfl, h9, rfl, h.symm⟩
end Go.Proofs.YteenblllfobifaaGreat
set_option maxRecDepth 100000
set_option linter.unusedVariables false
set_option linter.unusedSimpArgs false
namespace Go.Proofs.YteenblllfobifaaGreat
open Go.RowKit

abbrev tC : TypeId := 106
theorem T_cnt : ElemK Tryz.prog 107 106 (.agg #[.slice none 0 0, .int .i64 0]) 2 32 := ⟨Tryz.underlying107, by kernel_rfl, rfl, by omega, by omega⟩

theorem keepCell {w w' : World} {ad : Addr} {v : Value} (hb : Below w.heap.size w w') (h : w.cell? ad = some v) : w'.cell? ad = some v := by rw [hb.cell (World.block_lt_of_cell? w _ h)]; exact h
/-- the cells of a sum: trees in blocks from B on, and counts -/
def CtE (w : World) (B : Nat) (css : List (List Value)) (xs : List CT) : Prop := css.length = xs.length ∧ ∀ (k : Nat) (c : List Value) (x : CT), css[k]? = some c → xs[k]? = some x → ∃ u, c = [u, .int .i64 (x.2 : Nat)] ∧ OwnInts w B tI u (up x.1)
section
variable {w w' : World} {B : Nat} {css : List (List Value)} {xs : List CT}
theorem CtE.nil (w : World) (B : Nat) : CtE w B [] [] := ⟨rfl, fun k c x h => by simp at h⟩
theorem CtE.below (h : CtE w B css xs) (hb : Below w.heap.size w w') : CtE w' B css xs := ⟨h.1, fun k c x hc hx => by obtain ⟨u, e, ho⟩ := h.2 k c x hc hx; exact ⟨u, e, ho.below hb⟩⟩
theorem CtE.mono {B' : Nat} (h : CtE w B css xs) (hB : B' ≤ B) : CtE w B' css xs := ⟨h.1, fun k c x hc hx => by obtain ⟨u, e, ho⟩ := h.2 k c x hc hx; exact ⟨u, e, ho.mono hB⟩⟩
theorem CtE.kept {v : Value} {e : TypeId} (h : CtE w B css xs) (hg : w.grownBy w' v.ownBlock) (hb : BT w e v) (hne : tI ≠ e) : CtE w' B css xs := ⟨h.1, fun k c x hc hx => by obtain ⟨u, e, ho⟩ := h.2 k c x hc hx; exact ⟨u, e, ho.kept hg (ho.1.bt.ne hb hne)⟩⟩
theorem CtE.snoc {u : Value} {t : List Nat} {n : Nat} (h : CtE w B css xs) (hu : OwnInts w B tI u (up t)) : CtE w B (css ++ [[u, .int .i64 (n : Nat)]]) (xs ++ [(t, n)]) := by
  refine ⟨by simp [h.1], fun k c x hk hx => ?_⟩
  by_cases hlt : k < css.length
  · rw [List.getElem?_append_left hlt] at hk
    rw [List.getElem?_append_left (by rw [← h.1]; exact hlt)] at hx
    exact h.2 k c x hk hx
  · have hkl := (List.getElem?_eq_some_iff.1 hk).1
    simp at hkl
    have : k = css.length := by omega
    subst this
    rw [List.getElem?_append_right (Nat.le_refl _)] at hk
    rw [List.getElem?_append_right (by rw [h.1]; exact Nat.le_refl _), h.1] at hx
    simp at hk hx
    subst hk; subst hx
    exact ⟨u, rfl, hu⟩
end
def CtR (w : World) (B : Nat) (v : Value) (xs : List CT) : Prop := ∃ css, OwnK w B tC 2 v css ∧ CtE w B css xs
section
variable {w w' : World} {B : Nat} {v : Value} {xs : List CT}
theorem CtR.below (h : CtR w B v xs) (hb : Below w.heap.size w w') : CtR w' B v xs := by obtain ⟨css, h1, h2⟩ := h; exact ⟨css, h1.below hb, h2.below hb⟩
theorem CtR.mono {B' : Nat} (h : CtR w B v xs) (hB : B' ≤ B) : CtR w B' v xs := by obtain ⟨css, h1, h2⟩ := h; exact ⟨css, h1.mono hB, h2.mono hB⟩
theorem CtR.open_ (h : CtR w B v xs) : ∃ A c, v = .slice A xs.length c ∧ xs.length ≤ c ∧ c ≤ 9223372036854775807 := by
  obtain ⟨css, h1, h2⟩ := h
  have := h1.open_
  rwa [h2.1] at this
/-- the element at a place -/
theorem CtR.at_ {k : Nat} {t : List Nat} {n : Nat} (h : CtR w B v xs) (hx : xs[k]? = some (t, n)) : ∃ g cap A c, v = .slice (some ⟨g, 0, none⟩) xs.length cap ∧ w.cell? ⟨g, k * 2, none⟩ = some (.slice A t.length c) ∧ w.cell? ⟨g, k * 2 + 1, none⟩ = some (.int .i64 (n : Nat)) ∧ OwnInts w B tI (.slice A t.length c) (up t) := by
  obtain ⟨css, h1, h2⟩ := h
  have hk : k < css.length := by rw [h2.1]; exact (List.getElem?_eq_some_iff.1 hx).1
  have hc : css[k]? = some (css[k]'hk) := List.getElem?_eq_getElem _
  obtain ⟨u, e, ho⟩ := h2.2 k _ _ hc hx
  rw [e] at hc
  obtain ⟨g, cap, hv, hc0⟩ := h1.cell (j := 0) hc rfl
  obtain ⟨A, c, hu, -, -, -⟩ := ho.ints.open_
  rw [up_len] at hu
  subst hv
  have hc1 := h1.cellAt (j := 1) hc rfl
  subst hu
  exact ⟨g, cap, A, c, by rw [h2.1], hc0, hc1, ho⟩
/-- one element more -/
theorem CtR.snoc {css : List (List Value)} {u v' : Value} {t : List Nat} {n : Nat} (h1 : OwnK w B tC 2 v css) (h2 : CtE w B css xs) (hu : OwnInts w B tI u (up t)) (ho : OwnK w' B tC 2 v' (css ++ [[u, .int .i64 (n : Nat)]])) (hg : Grow w w' v v') : CtR w' B v' (xs ++ [(t, n)]) :=
  ⟨_, ho, (h2.snoc hu).kept hg.1 h1.bt (by decide)⟩
end
end Go.Proofs.YteenblllfobifaaGreat
set_option maxRecDepth 100000
set_option linter.unusedVariables false
set_option linter.unusedSimpArgs false
namespace Go.Proofs.YteenblllfobifaaGreat
open Go.RowKit

theorem addk_get {k : Int} {a b : List Int} {j : Nat} {x y : Int} (hx : a[j]? = some x) (hy : b[j]? = some y) : (addk k a b)[j]? = some ((x + k * y) % 10007) := by
  have hj := (List.getElem?_eq_some_iff.1 hx).1
  unfold addk addTo
  rw [List.getElem?_map, List.getElem?_range hj]
  simp only [Option.map_some, List.getD_eq_getElem?_getD, hx, hy, Option.getD_some]

set_option maxHeartbeats 8000000 in
theorem s_FirstError (w : World) (v : Value) (a : List Int) (ha : Ints w v a) :
    Calls Tryz.prog 20 #[v] w fun e w' => ∃ x, e = .returned (.tuple #[x, .int .i64 (feC a)]) ∧ OwnInts w' w.heap.size tI x (feR a) ∧ Below w.heap.size w w' := by
  have HA := Lib.hid ha
  have HCH := Lib.hid (s_l07Code1 w v a ha)
  obtain ⟨A, c, rfl, -, -, -⟩ := ha.open_
  clear ha
  by_cases hc : chrC a = 0
  · rw [hc] at HCH
    obtain ⟨hm, ha0⟩ := chr_of hc
    have hmt := mapB_true hm
    have hl := hmt.1
    have HN := Lib.hid (show Nums a from hmt.2)
    have HL := Lib.hid hl
    rw [hl] at HA HCH ⊢
    have hbd := agZ_bd a EX
    have hbn := agZ_nonneg (a := a) (b := EX) (by rw [ha0]; rfl)
    have HCC := Lib.hid hc
    have HG := Lib.hid (fun W x h2 h3 => s_l07Agree W (.slice A 38 c) x a EX h2 h3 HL.out EX_len)
    clear hc hm ha0 hmt hl
    go_enter Tryz.func20, Tryz.ntmps20
    go_upto_region 6 with (first
      | (go_at_call 40; refine HCH.out.mono ?_; rintro e w0 ⟨rfl, rfl⟩)
      | (go_at_call 48; go_loud (refine (s_l03All _ 6 (by omega)).mono ?_; rintro e w1 ⟨x1, rfl, hx1, hb1⟩; rw [show allG treesN 6 = T6n from rfl] at hx1; obtain ⟨A1, c1, he1, -, -, -⟩ := hx1.rows.open_; rw [List.length_map, T6n_len] at he1; subst he1; have HX1 := Lib.hid hx1.rows; have HB1 := Lib.hid hb1; clear hx1 hb1))
      | (go_at_call 49; go_loud (refine (s_l07Exact _).mono ?_; rintro e w2 ⟨x2, rfl, ho2, hb2⟩; obtain ⟨A2, c2, he2, -, -, -⟩ := ho2.ints.open_; rw [EX_len] at he2; subst he2; have HO2 := Lib.hid ho2.ints; have HB12 := Lib.hid hb2; have HB2 := Lib.hid (HB1.out.trans (hb2.mono HB1.out.size)); clear ho2 hb2))
      | (go_at_call 50; go_loud (refine (HG.out _ _ (HA.out.below HB2.out) HO2.out).mono ?_; rintro e w3 ⟨rfl, hb3⟩; have HB3 := Lib.hid (HB2.out.trans (hb3.mono HB2.out.size)); have HB23 := Lib.hid hb3; clear hb3)))
    have HX3 := Lib.hid ((HX1.out.below HB12.out).below HB23.out)
    have HO3 := Lib.hid (HO2.out.below HB23.out)
    have HA3 := Lib.hid (HA.out.below HB3.out)
    obtain ⟨p, hp⟩ : ∃ p, p = agZ a EX := ⟨_, rfl⟩
    have HPP := Lib.hid hp
    rw [← hp] at hbd hbn ⊢
    by_cases h6 : p = 6
    · have hd : (p == 6) = true := by simp [h6]
      have HR := Lib.hid (show feR a = [] from by rw [feR, if_pos HCC.out, if_pos (by rw [← hp]; exact h6)])
      have HC := Lib.hid (show feC a = 4 from by rw [feC, if_pos HCC.out, if_pos (by rw [← hp]; exact h6)])
      clear h6 hp
      go_wp2_with fail
      go_ret2
      rw [HR.out, HC.out]
      exact ⟨_, rfl, OwnInts.nil _ _ _, HB3.out⟩
    · have hd : (p == 6) = false := by simp [h6]
      have HR := Lib.hid (show feR a = feZ a from by rw [feR, if_pos HCC.out, if_neg (by rw [← hp]; exact h6)])
      have HC := Lib.hid (show feC a = 0 from by rw [feC, if_pos HCC.out, if_neg (by rw [← hp]; exact h6)])
      have HF0 := Lib.hid (show kpT (fePr a) (addk 10006 a EX) 1 = List.replicate 38 0 from by
        rw [kpT_skip (j := 0) (by rw [szN_zero, fePr]; simp only [decide_eq_false_iff_not]; rw [← hp]; omega), kpT_zero])
      clear h6 hp
      go_wp2_with (at_make; refine wpList_mk rfl _ _ _ rfl _ _ _ T_int 38 _ rfl rfl rfl (by omega) _ ?_; intro w4 hown hb hs4; have HOWN := Lib.hid hown; have HB4 := Lib.hid hb; clear hown hb)
      have HO4 := Lib.hid (show OwnInts w4 w3.heap.size tI (.slice (some ⟨w3.heap.size, 0, none⟩) 38 38) (kpT (fePr a) (addk 10006 a EX) (0 + 1)) from by
        rw [HF0.out]
        exact ⟨by simpa [ints] using HOWN.out, fun z hz => by have := List.eq_of_mem_replicate hz; subst this; unfold In64; omega⟩)
      clear HOWN hs4
      go_loopw [9] (fun x wr => ∃ i : Nat, i ≤ 37 ∧ x = .int .i64 i ∧ OwnInts wr w3.heap.size tI (.slice (some ⟨w3.heap.size, 0, none⟩) 38 38) (kpT (fePr a) (addk 10006 a EX) (i + 1)) ∧ Below w3.heap.size w3 wr) (fun x _ => 37 - (intOf x).toNat)
      case atStart => exact ⟨0, Nat.zero_le _, rfl, HO4.out, HB4.out⟩
      case round =>
        obtain ⟨i, hi, rfl, ho, hb⟩ := hrel
        have HO := Lib.hid ho
        have HB := Lib.hid hb
        clear ho hb
        by_cases hlt : i < 37
        · obtain ⟨ad, At, ct, t, rfl, ht, hti, hcr⟩ := (HX3.out.below HB.out).tree hlt
          have hs := szN_succ ht
          have ht6 := (T6n_at (List.mem_of_getElem? ht)).2.2.1
          have hii : (i : Int) < 37 := by omega
          have hwp : wrap64 (p + 1) = p + 1 := by unfold wrap64; omega
          by_cases hn : (t.length : Int) = p + 1
          · have hne : ((t.length : Int) == p + 1) = true := by simp [hn]
            have hpr : fePr a (szN (i + 1)) = true := by rw [hs, fePr, ← HPP.out]; exact decide_eq_true hn
            obtain ⟨A', c', he, -, -, g1⟩ := (HA3.out.below HB.out).open_
            rw [HL.out] at he g1
            simp only [Value.slice.injEq, true_and] at he
            obtain ⟨rfl, rfl⟩ := he
            obtain ⟨a1, x, rfl, hx, -, hcx⟩ := g1 (i + 1) (by omega)
            obtain ⟨A', c', he, -, -, g2⟩ := (HO3.out.below HB.out).open_
            rw [EX_len] at he g2
            simp only [Value.slice.injEq, true_and] at he
            obtain ⟨rfl, rfl⟩ := he
            obtain ⟨a2, y, rfl, hy, -, hcy⟩ := g2 (i + 1) (by omega)
            have hx6 := HN.out x (List.mem_of_getElem? hx)
            have hy6 := EX_nums y (List.mem_of_getElem? hy)
            obtain ⟨z, hz⟩ : ∃ z, z = (x - y) % 10007 := ⟨_, rfl⟩
            obtain ⟨i1, hei⟩ : ∃ i1 : Nat, i1 = i + 1 := ⟨_, rfl⟩
            have HZ := Lib.hid (show (kpT (fePr a) (addk 10006 a EX) (i + 1)).set i1 z = kpT (fePr a) (addk 10006 a EX) (i + 1 + 1) from by
              rw [hei, kpT_take hpr, ints_getD (addk_get hx hy), hz]
              congr 1; omega)
            have HZ6 := Lib.hid (show In64 z from by unfold In64; omega)
            have HSU := Lib.hid (fun W => show Calls Tryz.prog 51 #[.int .i64 x, .int .i64 y] W fun e w' => e = .returned (.int .i64 z) ∧ W = w' from by rw [hz]; exact s_l01Sub x y W (by omega) (by omega) (by omega) (by omega))
            have hwi : IntKind.i64.wrap ((i : Int) + 1) = (i1 : Int) := by rw [hei]; exact IntWalk.i64_in _ (by omega)
            have hi1 : (i1 : Int) < 38 := by omega
            have hi2 : i1 < 38 := by omega
            rw [← hei] at hcx hcy
            obtain ⟨u0, -, hcg, hfg, -, hge, hst, -⟩ := HO.out.1.storeAt (k := i1) (by rw [ints_len, kpT_len]; exact hi2) (.int .i64 z)
            rw [ints_set, HZ.out] at hst
            have HST := Lib.hid hst
            have HEI := Lib.hid hei
            have hge' := hge
            clear ht hti hs g1 g2 hx hy hz hei hst hpr hn
            go_upto_region 13 with fail
            go_region_law (go_simp; go_at_call 51; refine (HSU.out _).mono ?_; rintro e w7 ⟨rfl, rfl⟩)
            all_goals
              go_wp2_with fail
              go_roundw
              case rel =>
                refine ⟨i + 1, by omega, by first | rw [← HEI.out] | go_num, ⟨HST.out, ?_⟩, (HB.out.setCell (p := ⟨w3.heap.size, i1, none⟩) hge' _).drew⟩
                intro q hq
                rw [← HZ.out] at hq
                rcases List.mem_or_eq_of_mem_set hq with hq | hq
                · exact HO.out.2 q hq
                · rw [hq]; exact HZ6.out
              case measure => have := HEI.out; simp [intOf]; omega
          · have hne : ((t.length : Int) == p + 1) = false := by simp [hn]
            have HZ := Lib.hid (show kpT (fePr a) (addk 10006 a EX) (i + 1 + 1) = kpT (fePr a) (addk 10006 a EX) (i + 1) from kpT_skip (by rw [hs, fePr, ← HPP.out]; exact decide_eq_false hn))
            clear ht hti hs hn
            go_wp2_with fail
            go_roundw
            case rel => exact ⟨i + 1, by omega, by go_num, by rw [HZ.out]; exact HO.out, HB.out⟩
            case measure => simp [intOf]; omega
        · have hil : i = 37 := by omega
          have HF := Lib.hid (show kpT (fePr a) (addk 10006 a EX) (i + 1) = feZ a from by rw [hil]; exact kpT_full _ _)
          clear hil
          go_wp2_with fail
          go_ret2
          rw [HR.out, HC.out]
          have h := HO.out
          rw [HF.out] at h
          exact ⟨_, rfl, h.mono HB3.out.size, HB3.out.trans (HB.out.mono HB3.out.size)⟩
  · have HC := Lib.hid (show feC a = chrC a from by simp [feC, hc])
    have HR := Lib.hid (show feR a = [] from by simp [feR, hc])
    rw [HR.out, HC.out]
    clear HR HC
    have hd : (chrC a != 0) = true := by simp [hc]
    generalize chrC a = cc at *
    clear hc
    go_enter Tryz.func20, Tryz.ntmps20
    go_wp2_with (go_at_call 40; refine HCH.out.mono ?_; rintro e w0 ⟨rfl, rfl⟩)
    go_ret2
    exact ⟨_, rfl, OwnInts.nil _ _ _, Below.refl _ _⟩
end Go.Proofs.YteenblllfobifaaGreat
set_option maxRecDepth 100000
set_option linter.unusedVariables false
set_option linter.unusedSimpArgs false
namespace Go.Proofs.YteenblllfobifaaGreat
open Go.RowKit

theorem feR_len (a : List Int) : (feR a).length ≤ 1048576 := by
  unfold feR feZ
  split
  · split
    · simp
    · rw [kpZ_len]; omega
  · simp
theorem law_FirstError (w : World) (v : Value) (zs : List Int) (ha : Ints w v zs) :
    Calls Tryz.prog 5 #[v] w fun e w' => e = .returned (.bool true) ∧ Below w.heap.size w w' :=
  law_FnExactFirstError_gen w v zs ha (feR zs) (feC zs) (fun _ => feR_len zs)
    (fun _ W v0 h0 => (s_FirstError W v0 zs h0).mono fun e w' h => by obtain ⟨x, he, ho, hb⟩ := h; exact ⟨x, he, OI.of ho, hb⟩)
    (fun _ W v0 h0 => (i_FirstError W v0 zs h0).mono fun e w' h => by obtain ⟨x, he, ho, hb⟩ := h; exact ⟨x, he, OI.of ho, hb⟩)
end Go.Proofs.YteenblllfobifaaGreat
set_option maxRecDepth 100000
set_option linter.unusedVariables false
set_option linter.unusedSimpArgs false
namespace Go.Proofs.YteenblllfobifaaGreat
open Go.ChangeShapes Go.WideShapes Go.ChangeAt Go.RowKit

theorem in64_of_wf {z : Int} (h : (Lit.int .i64 z).wf = true) : In64 z := by
  simp [Lit.wf, IntKind.min, IntKind.max, IntKind.signed, IntKind.bits] at h
  unfold In64
  omega

theorem open_Ints {H : Type} {enc : TypeId × Value → H} {W : World} {base : Nat} {v : Value} {d : DataW H} {p : List MemPlace}
    (hv : Value.okWide Tryz.prog W .any base 22 v) (h : DataW.Trod enc Tryz.prog W 0 (fun _ => true) true 22 v d p) : ∃ zs, Ints W v zs := by
  obtain ⟨a, len, cap, rfl⟩ := okWide_slice Tryz.underlying22 hv
  obtain ⟨fuel, hf⟩ := h
  rcases open_ints Tryz.underlying22 Tryz.underlying2 (by kernel_rfl) hf with ⟨hcs, _⟩ | ⟨x, l, c, zs, hcs, _, hl, hm, hz, _, hcell, hwz⟩
  · simp [Value.cells] at hcs
    obtain ⟨rfl, rfl, rfl⟩ := hcs
    exact ⟨[], ⟨none, 0, rfl, by simp [ints], by simp [maxLen], fun k u hk => by simp [ints] at hk⟩, fun z hz => by simp at hz⟩
  · simp [Value.cells] at hcs
    obtain ⟨rfl, rfl, rfl⟩ := hcs
    have hz' : zs.length = cap := by simpa using hz
    have hlen : (ints (zs.take len)).length = len := by simp [ints]; omega
    refine ⟨zs.take len, ⟨some x, cap, by rw [hlen], by rw [hlen]; exact hl, hm, fun k u hk => ⟨x, rfl, ?_⟩⟩, fun z hz => in64_of_wf (hwz z (List.mem_of_mem_take hz))⟩
    have hk2 : k < (ints (zs.take len)).length := (List.getElem?_eq_some_iff.1 hk).1
    rw [hlen] at hk2
    rw [hcell k (by omega)]
    have e : (ints (zs.take len))[k]? = some (.int .i64 (zs.getD k 0)) := by
      simp [ints, List.getElem?_take, hk2, List.getD, show k < zs.length by omega]
    rw [e] at hk
    exact hk
end Go.Proofs.YteenblllfobifaaGreat
