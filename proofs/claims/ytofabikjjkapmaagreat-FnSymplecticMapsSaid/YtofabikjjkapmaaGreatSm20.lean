import Derived.Test.YtofabikjjkapmaaGreatSm11
import Derived.Test.YtofabikjjkapmaaGreatSm6
import Derived.Test.YtofabikjjkapmaaGreatSm19
import Derived.Deep.CutRange
import Derived.Deep.DeepCutAuto
import Derived.Test.YtofabikjjkapmaaGreatSm13
import Derived.Test.YtofabikjjkapmaaGreatSm9
import Derived.BigQuiet
import Derived.Deep.QuietTactic
import Derived.Deep.CutBlock
import Derived.Test.YtofabikjjkapmaaGreatSm1
import Derived.Test.YtofabikjjkapmaaGreatSm18
import Derived.Test.YtofabikjjkapmaaGreatSm3
import Derived.Test.YtofabikjjkapmaaGreatRows
import Derived.Test.YtofabikjjkapmaaGreatSm2
import Derived.WalkLawsBesides
set_option maxRecDepth 100000
set_option linter.unusedVariables false
set_option linter.unusedSimpArgs false
namespace Go.Proofs.YtofabikjjkapmaaGreat
open Go.RowKit
def parV (t : List Nat) (a : Nat) : Nat -> Option Nat
 | 0 => none
 | k + 1 => bif Nat.beq (t.getD k 0 + 1) a then some k else parV t a k
def braL (t : List Nat) (node : Nat) : List Nat := (t.take (endN t node)).drop node
def allLe (b : Nat) : List Nat -> Bool
 | [] => true
 | l :: ls => bif Nat.ble l b then allLe b ls else false
def allGe (b : Nat) : List Nat -> Bool
 | [] => true
 | l :: ls => bif Nat.ble b l then allGe b ls else false
theorem allLe_of {b : Nat} : ∀ {ls : List Nat}, allLe b ls = true -> ∀ l ∈ ls, l <= b
 | [], _, _, hl => absurd hl (by simp)
 | x :: xs, h, l, hl => by
     rw [allLe] at h
     cases hx : Nat.ble x b with
     | false => rw [hx] at h; cases h
     | true =>
      rw [hx] at h
      rcases List.mem_cons.1 hl with rfl | hl
      · exact Nat.le_of_ble_eq_true hx
      · exact allLe_of h l hl
theorem allGe_of {b : Nat} : ∀ {ls : List Nat}, allGe b ls = true -> ∀ l ∈ ls, b <= l
 | [], _, _, hl => absurd hl (by simp)
 | x :: xs, h, l, hl => by
     rw [allGe] at h
     cases hx : Nat.ble b x with
     | false => rw [hx] at h; cases h
     | true =>
      rw [hx] at h
      rcases List.mem_cons.1 hl with rfl | hl
      · exact Nat.le_of_ble_eq_true hx
      · exact allGe_of h l hl
def okL (t : List Nat) : Bool := bif Nat.ble t.length 100 then allLe 1000 t else false
theorem okL_of {t : List Nat} (h : okL t = true) : t.length <= 100 /\ ∀ l ∈ t, l <= 1000 := by
 unfold okL at h
 cases hx : Nat.ble t.length 100 with
 | false => rw [hx] at h; cases h
 | true => rw [hx] at h; exact ⟨Nat.le_of_ble_eq_true hx, allLe_of h⟩
def turV : Nat -> List Nat -> Nat -> Option (List Nat)
 | 0, _, _ => none
 | f + 1, t, 0 => bif okL t then canO 9 t else none
 | f + 1, t, node + 1 => bif okL t && Nat.blt (node + 1) t.length && allGe (t.getD (node + 1) 0) (braL t (node + 1)) then
     match parV t (t.getD (node + 1) 0) (node + 1) with
     | none => none
     | some p => match turV f (t.take (node + 1) ++ t.drop (endN t (node + 1))) p with
      | none => none
      | some r => bif okL r then canO 9 (graL ((braL t (node + 1)).map fun x => x - t.getD (node + 1) 0) 0 r) else none
  else none
theorem parV_lt {t : List Nat} {a : Nat} : ∀ {k p : Nat}, parV t a k = some p -> p < k
 | 0, _, h => by cases h
 | k + 1, p, h => by
     rw [parV] at h
     cases hx : Nat.beq (t.getD k 0 + 1) a with
     | true => rw [hx] at h; cases h; omega
     | false => rw [hx] at h; have := parV_lt h; omega
theorem turV_succ {f : Nat} {t : List Nat} {node : Nat} {r : List Nat} (h : turV (f + 1) t (node + 1) = some r) :
  okL t = true /\ node + 1 < t.length /\ allGe (t.getD (node + 1) 0) (braL t (node + 1)) = true /\
  ∃ p q, parV t (t.getD (node + 1) 0) (node + 1) = some p /\ turV f (t.take (node + 1) ++ t.drop (endN t (node + 1))) p = some q /\ okL q = true /\
    canO 9 (graL ((braL t (node + 1)).map fun x => x - t.getD (node + 1) 0) 0 q) = some r := by
 rw [turV] at h
 cases h1 : okL t with
 | false => rw [h1] at h; cases h
 | true =>
  cases h2 : Nat.blt (node + 1) t.length with
  | false => rw [h1, h2] at h; cases h
  | true =>
   cases h3 : allGe (t.getD (node + 1) 0) (braL t (node + 1)) with
   | false => rw [h1, h2, h3] at h; cases h
   | true =>
    rw [h1, h2, h3] at h
    cases h4 : parV t (t.getD (node + 1) 0) (node + 1) with
    | none => rw [h4] at h; cases h
    | some p =>
     rw [h4] at h
     simp only [Bool.and_self, cond_true] at h
     cases h5 : turV f (t.take (node + 1) ++ t.drop (endN t (node + 1))) p with
     | none => rw [h5] at h; cases h
     | some q =>
      rw [h5] at h
      simp only at h
      cases h6 : okL q with
      | false => rw [h6] at h; cases h
      | true => rw [h6] at h; exact ⟨rfl, (blt_iff _ _).1 h2, rfl, p, q, rfl, h5, h6, h⟩
end Go.Proofs.YtofabikjjkapmaaGreat
namespace Go.Proofs.YtofabikjjkapmaaGreat
abbrev CT := List Nat × Nat
def putA (t : List Nat) : List CT -> Nat
 | [] => 0
 | x :: xs => bif befN x.1 t then putA t xs + 1 else 0
def putS (at_ : Nat) (t : List Nat) (i : Nat) (x : CT) : List CT := (bif Nat.beq i at_ && !eqN x.1 t then [(t, 1)] else []) ++ [(x.1, bif eqN x.1 t then x.2 + 1 else x.2)]
def putF (at_ : Nat) (t : List Nat) : Nat -> List CT -> List CT
 | _, [] => []
 | i, x :: xs => putS at_ t i x ++ putF at_ t (i + 1) xs
def putL (xs : List CT) (t : List Nat) : List CT := putF (putA t xs) t 0 xs ++ (bif Nat.beq (putA t xs) xs.length then [(t, 1)] else [])
def okC : List CT -> Bool
 | [] => true
 | x :: xs => okL x.1 && Nat.ble x.2 100 && okC xs
def rooV (t : List Nat) : Nat -> Option (List CT)
 | 0 => some []
 | n + 1 => match rooV t n with
  | none => none
  | some xs => match turV 9 t n with
   | none => none
   | some q => bif okC xs && Nat.ble xs.length 100 && okL q then some (putL xs q) else none
def trkL (t : List Nat) (node : Nat) : List Nat := t.take node ++ t.drop (endN t node)
def braM (t : List Nat) (node : Nat) : List Nat := (braL t node).map fun x => x - t.getD node 0
def dblA (t : List Nat) (node : Nat) : Option Bool := bif okL t && Nat.blt node t.length && allGe (t.getD node 0) (braL t node) then
    match canO 9 (trkL t node), canO 9 (braM t node), parV t (t.getD node 0) node with
    | some a, some b, some p => bif Nat.beq a.length b.length then
      match turV 9 (trkL t node) p with
      | some q => bif okL q && okL b then some (eqN q b) else none
      | none => none
     else some false
    | _, _, _ => none
 else none
def dblV (t : List Nat) : Nat -> Nat -> Option Bool
 | 0, _ => some false
 | f + 1, node => match dblA t node with
  | none => none
  | some true => some true
  | some false => dblV t f (node + 1)
def headC : Option (List CT) -> Option (List Nat)
 | some ((t, _) :: _) => some t
 | _ => none
def eqB : Option Bool -> Bool -> Bool
 | some true, true => true
 | some false, false => true
 | _, _ => false
def okRo (t : List Nat) : Bool := eqO (headC (rooV t t.length)) (freeO t) && eqB (dblV t (t.length - 1) 1) (supB t)
theorem okRo_8 : (List.range 8).all (fun n => (treesN (n + 1)).all okRo) = true := by decide +kernel
theorem okRo_at {n : Nat} (h1 : 1 <= n) (h8 : n <= 8) {t : List Nat} (ht : t ∈ treesN n) : ∃ r k xs, rooV t t.length = some ((r, k) :: xs) /\ freeO t = some r /\ dblV t (t.length - 1) 1 = some (supB t) := by
 have h := okRo_8
 rw [List.all_eq_true] at h
 have h2 := h (n - 1) (List.mem_range.2 (by omega))
 rw [show n - 1 + 1 = n by omega, List.all_eq_true] at h2
 have h3 := h2 t ht
 rw [okRo, Bool.and_eq_true] at h3
 obtain ⟨h4, h5⟩ := h3
 have h6 : dblV t (t.length - 1) 1 = some (supB t) := by
  cases hd : dblV t (t.length - 1) 1 with
  | none => rw [hd] at h5; cases h5
  | some b =>
   rw [hd] at h5
   cases hs : supB t <;> rw [hs] at h5 <;> cases b <;> first | rfl | cases h5
 cases hr : rooV t t.length with
 | none => rw [hr] at h4; cases h4
 | some ys =>
  rw [hr] at h4
  cases ys with
  | nil => cases h4
  | cons y ys =>
   cases hf : freeO t with
   | none => rw [hf] at h4; cases h4
   | some q =>
    rw [hf] at h4
    have := eqN_iff.1 (show eqN y.1 q = true from h4)
    exact ⟨y.1, y.2, ys, rfl, by rw [this], h6⟩
theorem putF_snoc (at_ : Nat) (t : List Nat) : ∀ (xs : List CT) (x : CT) (i : Nat), putF at_ t i (xs ++ [x]) = putF at_ t i xs ++ putS at_ t (i + xs.length) x
 | [], x, i => by simp [putF]
 | y :: ys, x, i => by
  rw [List.cons_append, putF, putF, putF_snoc at_ t ys x (i + 1), List.append_assoc, List.length_cons, Nat.add_assoc i 1, Nat.add_comm 1]
theorem putA_le (t : List Nat) : ∀ xs : List CT, putA t xs <= xs.length
 | [] => Nat.le_refl _
 | x :: xs => by
  rw [putA]
  cases befN x.1 t with
  | true => simpa using putA_le t xs
  | false => simp
theorem putA_bef {t : List Nat} : ∀ {xs : List CT} {k : Nat} {x : CT}, k < putA t xs -> xs[k]? = some x -> befN x.1 t = true
 | [], k, x, h, hx => by simp at hx
 | y :: ys, 0, x, h, hx => by
  simp at hx; subst hx
  rw [putA] at h
  cases hb : befN y.1 t with
  | true => rfl
  | false => rw [hb] at h; simp at h
 | y :: ys, k + 1, x, h, hx => by
  rw [putA] at h
  cases hb : befN y.1 t with
  | true => rw [hb] at h; simp at h; exact putA_bef (by omega) (by simpa using hx)
  | false => rw [hb] at h; simp at h
theorem putA_at {t : List Nat} : ∀ {xs : List CT} {x : CT}, xs[putA t xs]? = some x -> befN x.1 t = false
 | [], x, hx => by simp at hx
 | y :: ys, x, hx => by
  rw [putA] at hx
  cases hb : befN y.1 t with
  | true => rw [hb] at hx; exact putA_at (xs := ys) (by simpa using hx)
  | false => rw [hb] at hx; simp at hx; subst hx; exact hb
theorem putF_len (at_ : Nat) (t : List Nat) : ∀ (xs : List CT) (i : Nat), (putF at_ t i xs).length <= 2 * xs.length
 | [], i => by simp [putF]
 | x :: xs, i => by
  rw [putF, List.length_append, putS, List.length_append, List.length_cons]
  have := putF_len at_ t xs (i + 1)
  cases (Nat.beq i at_ && !eqN x.1 t) <;> simp <;> omega
theorem okC_of : ∀ {xs : List CT}, okC xs = true -> ∀ x ∈ xs, (x.1.length <= 100 /\ ∀ l ∈ x.1, l <= 1000) /\ x.2 <= 100
 | [], _, x, hx => absurd hx (by simp)
 | y :: ys, h, x, hx => by
  rw [okC, Bool.and_eq_true, Bool.and_eq_true] at h
  rcases List.mem_cons.1 hx with rfl | hx
  · exact ⟨okL_of h.1.1, Nat.le_of_ble_eq_true h.1.2⟩
  · exact okC_of h.2 x hx
theorem rooV_succ {t : List Nat} {n : Nat} {ys : List CT} (h : rooV t (n + 1) = some ys) : ∃ xs q, rooV t n = some xs /\ turV 9 t n = some q /\ okC xs = true /\ xs.length <= 100 /\ okL q = true /\ ys = putL xs q := by
 rw [rooV] at h
 cases h1 : rooV t n with
 | none => rw [h1] at h; cases h
 | some xs =>
  rw [h1] at h
  simp only at h
  cases h2 : turV 9 t n with
  | none => rw [h2] at h; cases h
  | some q =>
   rw [h2] at h
   simp only at h
   cases h3 : okC xs with
   | false => rw [h3] at h; cases h
   | true =>
    cases h4 : Nat.ble xs.length 100 with
    | false => rw [h3, h4] at h; cases h
    | true =>
     cases h5 : okL q with
     | false => rw [h3, h4, h5] at h; cases h
     | true =>
      rw [h3, h4, h5] at h
      injection h with h
      exact ⟨xs, q, rfl, rfl, h3, Nat.le_of_ble_eq_true h4, h5, h.symm⟩
theorem rooV_some {t : List Nat} : ∀ {m n : Nat} {ys : List CT}, rooV t (n + m) = some ys -> ∃ xs, rooV t n = some xs
 | 0, n, ys, h => ⟨ys, h⟩
 | m + 1, n, ys, h => by
  obtain ⟨xs, q, h1, -⟩ := rooV_succ (n := n + m) h
  exact rooV_some h1
theorem dblA_some {t : List Nat} {node : Nat} {b : Bool} (h : dblA t node = some b) : okL t = true /\ node < t.length /\ allGe (t.getD node 0) (braL t node) = true /\
  ∃ u v p, canO 9 (trkL t node) = some u /\ canO 9 (braM t node) = some v /\ parV t (t.getD node 0) node = some p /\
    ((u.length ≠ v.length /\ b = false) \/ (u.length = v.length /\ ∃ q, turV 9 (trkL t node) p = some q /\ okL q = true /\ okL v = true /\ b = eqN q v)) := by
 unfold dblA at h
 cases h1 : okL t with
 | false => rw [h1] at h; cases h
 | true =>
  cases h2 : Nat.blt node t.length with
  | false => rw [h1, h2] at h; cases h
  | true =>
   cases h3 : allGe (t.getD node 0) (braL t node) with
   | false => rw [h1, h2, h3] at h; cases h
   | true =>
    rw [h1, h2, h3] at h
    simp only [Bool.and_self, cond_true] at h
    refine ⟨rfl, (blt_iff _ _).1 h2, rfl, ?_⟩
    cases h4 : canO 9 (trkL t node) with
    | none => rw [h4] at h; cases h
    | some u =>
     rw [h4] at h
     cases h5 : canO 9 (braM t node) with
     | none => rw [h5] at h; cases h
     | some v =>
      rw [h5] at h
      cases h6 : parV t (t.getD node 0) node with
      | none => rw [h6] at h; cases h
      | some p =>
       rw [h6] at h
       simp only at h
       refine ⟨u, v, p, rfl, rfl, rfl, ?_⟩
       cases h7 : Nat.beq u.length v.length with
       | false =>
        rw [h7] at h
        injection h with h
        exact .inl ⟨Nat.ne_of_beq_eq_false h7, h.symm⟩
       | true =>
        rw [h7] at h
        simp only [cond_true] at h
        refine .inr ⟨Nat.eq_of_beq_eq_true h7, ?_⟩
        cases h8 : turV 9 (trkL t node) p with
        | none => rw [h8] at h; cases h
        | some q =>
         rw [h8] at h
         simp only at h
         cases h9 : okL q with
         | false => rw [h9] at h; cases h
         | true =>
          cases h10 : okL v with
          | false => rw [h9, h10] at h; cases h
          | true =>
           rw [h9, h10] at h
           injection h with h
           exact ⟨q, rfl, h9, rfl, h.symm⟩
end Go.Proofs.YtofabikjjkapmaaGreat
namespace Go.Proofs.YtofabikjjkapmaaGreat
open Go.RowKit
abbrev tC : TypeId := 143
theorem T_cnt : ElemK Tryz.prog 144 143 (.agg #[.slice none 0 0, .int .i64 0]) 2 32 := ⟨Tryz.underlying144, by kernel_rfl, rfl, by omega, by omega⟩
theorem keepCell {w w' : World} {ad : Addr} {v : Value} (hb : Below w.heap.size w w') (h : w.cell? ad = some v) : w'.cell? ad = some v := by rw [hb.cell (World.block_lt_of_cell? w _ h)]; exact h
def CtE (w : World) (B : Nat) (css : List (List Value)) (xs : List CT) : Prop := css.length = xs.length /\ ∀ (k : Nat) (c : List Value) (x : CT), css[k]? = some c -> xs[k]? = some x -> ∃ u, c = [u, .int .i64 (x.2 : Nat)] /\ OwnInts w B tI u (up x.1)
section
variable {w w' : World} {B : Nat} {css : List (List Value)} {xs : List CT}
theorem CtE.nil (w : World) (B : Nat) : CtE w B [] [] := ⟨rfl, fun k c x h => by simp at h⟩
theorem CtE.below (h : CtE w B css xs) (hb : Below w.heap.size w w') : CtE w' B css xs := ⟨h.1, fun k c x hc hx => by obtain ⟨u, e, ho⟩ := h.2 k c x hc hx; exact ⟨u, e, ho.below hb⟩⟩
theorem CtE.kept {v : Value} {e : TypeId} (h : CtE w B css xs) (hg : w.grownBy w' v.ownBlock) (hb : BT w e v) (hne : tI ≠ e) : CtE w' B css xs := ⟨h.1, fun k c x hc hx => by obtain ⟨u, e, ho⟩ := h.2 k c x hc hx; exact ⟨u, e, ho.kept hg (ho.1.bt.ne hb hne)⟩⟩
theorem CtE.snoc {u : Value} {t : List Nat} {n : Nat} (h : CtE w B css xs) (hu : OwnInts w B tI u (up t)) : CtE w B (css ++ [[u, .int .i64 (n : Nat)]]) (xs ++ [(t, n)]) := by
 refine ⟨by simp [h.1], fun k c x hk hx => ?_⟩
 by_cases hlt : k < css.length
 · rw [List.getElem?_append_left hlt] at hk
   rw [List.getElem?_append_left (by rw [<- h.1]; exact hlt)] at hx
   exact h.2 k c x hk hx
 · have hkl := (List.getElem?_eq_some_iff.1 hk).1
   simp at hkl
   have : k = css.length := by omega
   subst this
   rw [List.getElem?_append_right (Nat.le_refl _)] at hk
   rw [List.getElem?_append_right (by rw [h.1]; exact Nat.le_refl _), h.1] at hx
   simp at hk hx
   subst hk; subst hx
   exact ⟨u, rfl, hu⟩
end
def CtR (w : World) (B : Nat) (v : Value) (xs : List CT) : Prop := ∃ css, OwnK w B tC 2 v css /\ CtE w B css xs
section
variable {w w' : World} {B : Nat} {v : Value} {xs : List CT}
theorem CtR.below (h : CtR w B v xs) (hb : Below w.heap.size w w') : CtR w' B v xs := by obtain ⟨css, h1, h2⟩ := h; exact ⟨css, h1.below hb, h2.below hb⟩
theorem CtR.open_ (h : CtR w B v xs) : ∃ A c, v = .slice A xs.length c /\ xs.length <= c /\ c <= 9223372036854775807 := by
 obtain ⟨css, h1, h2⟩ := h
 have := h1.open_
 rwa [h2.1] at this
theorem CtR.at_ {k : Nat} {t : List Nat} {n : Nat} (h : CtR w B v xs) (hx : xs[k]? = some (t, n)) : ∃ g cap A c, v = .slice (some ⟨g, 0, none⟩) xs.length cap /\ w.cell? ⟨g, k * 2, none⟩ = some (.slice A t.length c) /\ w.cell? ⟨g, k * 2 + 1, none⟩ = some (.int .i64 (n : Nat)) /\ OwnInts w B tI (.slice A t.length c) (up t) := by
 obtain ⟨css, h1, h2⟩ := h
 have hk : k < css.length := by rw [h2.1]; exact (List.getElem?_eq_some_iff.1 hx).1
 have hc : css[k]? = some (css[k]'hk) := List.getElem?_eq_getElem _
 obtain ⟨u, e, ho⟩ := h2.2 k _ _ hc hx
 rw [e] at hc
 obtain ⟨g, cap, hv, hc0⟩ := h1.cell (j := 0) hc rfl
 obtain ⟨A, c, hu, -, -, -⟩ := ho.ints.open_
 rw [up_len] at hu
 subst hv
 have hc1 := h1.cellAt (j := 1) hc rfl
 subst hu
 exact ⟨g, cap, A, c, by rw [h2.1], hc0, hc1, ho⟩
end
def prtN (t : List Nat) (m : Nat) : PK := (srtB ((mapO (fun i => canO 9 (pieN t m i)) (0 :: cutsN m (t.length - 1) 1)).getD []), (canO 9 (sklN t m)).getD [])
def okPl (x : List Nat) : Bool := Nat.beq (fndN T6n x) (idxN T6n x) && Nat.ble (idxN T6n x) 37 && Nat.ble 1 (idxN T6n x) && Nat.ble x.length 6
def gz (a : List Int) (k : Nat) : Int := a.getD k 0
def tcI (a b : List Int) (x : MC) : Int := (x.2 : Int) * (valZ a x.1.1 * b.getD x.1.2 0 % 10007) % 10007
theorem tcI_bd (a b : List Int) (x : MC) : 0 <= tcI a b x /\ tcI a b x <= 10006 := by unfold tcI; omega
theorem tcI_is (a b : List Int) (x : MC) : tcI a b x = cvT (gz a) (gz b) x % 10007 := by
 unfold tcI cvT valZ
 rw [mul_modR]
 show (x.2 : Int) * (prodZ (gat a x.1.1) % 10007 * b.getD x.1.2 0) % 10007 = (x.2 : Int) * (prodZ (gat a x.1.1) * b.getD x.1.2 0) % 10007
 rw [<- mul_modR (x.2 : Int) (prodZ (gat a x.1.1) % 10007 * b.getD x.1.2 0), mul_modL, mul_modR]
def cvZ (a b : List Int) : List Int := b.getD 0 0 :: (List.range 37).map fun n => sumF (tcI a b) (CTab.getD n []) % 10007
theorem cvZ_len (a b : List Int) : (cvZ a b).length = 38 := by simp [cvZ]
theorem cvZ_nums {a b : List Int} (h : Nums b) : Nums (cvZ a b) := by
 intro z hz
 rcases List.mem_cons.1 hz with rfl | hz
 · have hg : ∀ k, 0 <= b.getD k 0 /\ b.getD k 0 <= 10006 := fun k => by
    rw [List.getD_eq_getElem?_getD]
    cases hk : b[k]? with
    | none => simp
    | some z => exact h z (List.mem_of_getElem? hk)
   exact hg 0
 · obtain ⟨n, -, rfl⟩ := List.mem_map.1 hz
   omega
theorem cvZ_get (a b : List Int) {i : Nat} (h : i < 37) : (cvZ a b)[i + 1]? = some (sumF (tcI a b) (CTab.getD i []) % 10007) := by
 unfold cvZ
 simp [h]
theorem CTab_at {i : Nat} (h : i < 37) {x : MC} (hx : x ∈ CTab.getD i []) : (∀ p ∈ x.1.1, p < 38) /\ x.1.2 < 38 /\ x.2 <= 100 := by
 obtain ⟨l, -, -, -, hc⟩ := cut_at h
 obtain ⟨h1, h2, -, h4⟩ := hc x hx
 exact ⟨fun p hp => by have := (h1 p hp).2; omega, by omega, h4⟩
theorem CTab_ln {i : Nat} (h : i < 37) : (CTab.getD i []).length <= 100 := by
 have h1 : (List.range 37).all (fun i => Nat.ble (CTab.getD i []).length 100) = true := by decide +kernel
 rw [List.all_eq_true] at h1
 exact Nat.le_of_ble_eq_true (h1 i (by simpa using h))
def FrC (w : World) (B : Nat) (v : Value) : Prop := ∃ us, Own w B tMl v us /\ Mls w B us (T6n.map (cutsI T6n))
theorem FrC.below {w w' : World} {B : Nat} {v : Value} (h : FrC w B v) (hb : Below w.heap.size w w') : FrC w' B v := by
 obtain ⟨us, h1, h2⟩ := h
 exact ⟨us, h1.below hb, h2.below hb⟩
theorem FrC.at_ {w : World} {B : Nat} {v : Value} (h : FrC w B v) : ∃ A c, v = .slice A 37 c /\ ∀ i, i < 37 -> ∃ ad css A2 c2, A = some ad /\ OwnK w B tMc 3 (.slice A2 css.length c2) css /\ Mcs w B css (CTab.getD i []) /\ w.cell? (ad.add i) = some (.slice A2 css.length c2) := by
 obtain ⟨us, h1, h2⟩ := h
 have hl := h2.1
 rw [List.length_map, T6n_len] at hl
 obtain ⟨A, c, rfl, -, -⟩ := h1.cells.open_
 rw [hl]
 refine ⟨A, c, rfl, fun i hi => ?_⟩
 obtain ⟨u, hu⟩ : ∃ u, us[i]? = some u := ⟨_, List.getElem?_eq_getElem (by rw [hl]; exact hi)⟩
 obtain ⟨l, -, hci, -, -⟩ := cut_at hi
 have hci : cutsI T6n (tr i) = CTab.getD i [] := hci
 obtain ⟨css, h3, h4⟩ := h2.2 i u (CTab.getD i []) hu (by rw [List.getElem?_map, tr_get hi, <- hci]; rfl)
 obtain ⟨A2, c2, rfl, -, -⟩ := h3.open_
 obtain ⟨ad, n', c', he, hc⟩ := h1.cells.at_ hu
 simp only [Value.slice.injEq] at he
 exact ⟨ad, css, A2, c2, he.1, h3, h4, hc⟩
theorem Frm.openC {w : World} {B : Nat} {v : Value} (h : Frm w B v) : ∃ A c Ay cy, v = .agg #[.slice A 37 c, .slice Ay 37 cy] /\ Rows w (.slice A 37 c) (T6n.map up) /\ FrC w B (.slice Ay 37 cy) := by
 obtain ⟨x, y, us, rfl, h1, h2, h3⟩ := h
 obtain ⟨A, c, he, -, -, -⟩ := h1.rows.open_
 rw [List.length_map, T6n_len] at he
 subst he
 have hf : FrC w B y := ⟨us, h2, h3⟩
 obtain ⟨Ay, cy, rfl, -⟩ := hf.at_
 exact ⟨A, c, Ay, cy, rfl, h1.rows, hf⟩
section
variable {w w' : World} {B : Nat} {us : List Value} {xss : List (List MC)}
end
structure PrA (t : List Nat) (i : Nat) (sk : List Nat) (pcs : List (List Nat)) : Prop where
 hsk : canO 9 (sklN t (2 * i)) = some sk
 hpc : mapO (fun j => canO 9 (pieN t (2 * i) j)) (0 :: cutsN (2 * i) (t.length - 1) 1) = some pcs
 prt : prtN t (2 * i) = (srtB pcs, sk)
 osk : okPl sk = true
 opc : ∀ q ∈ srtB pcs, okPl q = true
 pl : (srtB pcs).length <= 8
 pie : ∀ j, j < t.length -> (pieN t (2 * i) j).length <= 8
 full : i + 1 = 2 ^ (t.length - 1) ↔ idxN T6n sk = idxN T6n t
 one : i = 0 ↔ idxN T6n sk = 1
theorem sz_tr {n : Nat} (h : n < 37) : szN (n + 1) = (tr n).length := szN_succ (tr_get h)
theorem getD_nums {a : List Int} (h : Nums a) (k : Nat) : 0 <= a.getD k 0 /\ a.getD k 0 <= 10006 := by
 rw [List.getD_eq_getElem?_getD]
 cases hk : a[k]? with
 | none => simp
 | some z => exact h z (List.mem_of_getElem? hk)
def mapB (zs : List Int) : Bool := decide (zs.length = 38) && nums zs
def chrC (zs : List Int) : Int := if mapB zs then (if zs.getD 0 0 = 1 then 0 else 5) else 1
def infC (zs : List Int) : Int := if mapB zs then (if zs.getD 0 0 = 0 then 0 else 5) else 1
theorem mapB_true {zs : List Int} (h : mapB zs = true) : zs.length = 38 /\ ∀ z ∈ zs, 0 <= z /\ z <= 10006 := by
 unfold mapB at h
 rw [Bool.and_eq_true, nums_iff] at h
 exact ⟨by simpa using h.1, h.2⟩
set_option maxHeartbeats 400000 in
theorem i_IsMap (w : World) (v : Value) (zs : List Int) (ha : Ints w v zs) : Calls Tryz.prog 95 #[v] w fun e w' => e = .returned (.bool (mapB zs)) /\ w = w' := by
 have HA := Lib.hid ha
 obtain ⟨A, c, rfl, -, -, -⟩ := ha.open_
 clear ha
 by_cases h : zs.length = 38
 · have HF := Lib.hid (show mapB zs = nums zs by simp [mapB, h])
   have hd : ((zs.length : Int) == 38) = true := by simp [h]
   clear h
   go_enter Tryz.func95, Tryz.ntmps95
   go_wp2_with (go_at_call 90; refine (i_areNumbers _ _ _ HA.out).mono ?_; rintro e w' ⟨rfl, rfl⟩)
   go_ret
   exact ⟨ret_bool HF.out.symm, rfl⟩
 · have HF := Lib.hid (show mapB zs = false by simp [mapB, h])
   have hd : ((zs.length : Int) == 38) = false := by simp; omega
   clear h
   go_enter Tryz.func95, Tryz.ntmps95
   go_wp2_with (go_at_call 90; refine (i_areNumbers _ _ _ HA.out).mono ?_; rintro e w' ⟨rfl, rfl⟩)
   go_ret
   exact ⟨ret_bool HF.out.symm, rfl⟩
set_option maxHeartbeats 400000 in
theorem s_l07Is (w : World) (v : Value) (zs : List Int) (ha : Ints w v zs) : Calls Tryz.prog 117 #[v] w fun e w' => e = .returned (.bool (mapB zs)) /\ w = w' := by
 have HA := Lib.hid ha
 obtain ⟨A, c, rfl, -, -, -⟩ := ha.open_
 clear ha
 by_cases h : zs.length = 38
 · have HF := Lib.hid (show mapB zs = nums zs by simp [mapB, h])
   have hd : ((zs.length : Int) == 38) = true := by simp [h]
   clear h
   go_enter Tryz.func117, Tryz.ntmps117
   go_wp2_with (go_at_call 133; refine (s_l01Numbers _ _ _ HA.out).mono ?_; rintro e w' ⟨rfl, rfl⟩)
   go_ret
   exact ⟨ret_bool HF.out.symm, rfl⟩
 · have HF := Lib.hid (show mapB zs = false by simp [mapB, h])
   have hd : ((zs.length : Int) == 38) = false := by simp; omega
   clear h
   go_enter Tryz.func117, Tryz.ntmps117
   go_wp2_with (go_at_call 133; refine (s_l01Numbers _ _ _ HA.out).mono ?_; rintro e w' ⟨rfl, rfl⟩)
   go_ret
   exact ⟨ret_bool HF.out.symm, rfl⟩
theorem map_head {w : World} {A : Option Addr} {c : Nat} {zs : List Int} (h : Ints w (.slice A zs.length c) zs) (hm : mapB zs = true) : ∃ ad, A = some ad /\ w.cell? ad = some (.int .i64 (zs.getD 0 0)) := by
 obtain ⟨A', c', he, -, -, h3⟩ := h.open_
 injection he with h1 h2 h4
 subst h1
 obtain ⟨ad, z, rfl, hz, -, hc⟩ := h3 0 (by have := (mapB_true hm).1; omega)
 refine ⟨ad, rfl, ?_⟩
 rw [List.getD_eq_getElem?_getD, hz]
 simpa [Addr.add] using hc
set_option maxHeartbeats 800000 in
theorem i_checkCharacter (w : World) (v : Value) (zs : List Int) (ha : Ints w v zs) : Calls Tryz.prog 48 #[v] w fun e w' => e = .returned (.int .i64 (chrC zs)) /\ w = w' := by
 have HM := Lib.hid (i_IsMap w v zs ha)
 obtain ⟨A, c, rfl, -, -, -⟩ := ha.open_
 cases hm : mapB zs with
 | false =>
  rw [hm] at HM
  rw [show chrC zs = 1 by simp [chrC, hm]]
  clear hm ha
  go_enter Tryz.func48, Tryz.ntmps48
  go_wp2_with (go_at_call 95; refine HM.out.mono ?_; rintro e w' ⟨rfl, rfl⟩)
  go_ret
  exact ⟨rfl, rfl⟩
 | true =>
  obtain ⟨ad, rfl, hc⟩ := map_head ha hm
  have hl := (mapB_true hm).1
  rw [hm] at HM
  have hpos : 0 < zs.length := by omega
  have hpi : (0 : Int) < (zs.length : Int) := by omega
  have HC := Lib.hid (show chrC zs = if zs.getD 0 0 = 1 then 0 else 5 by simp [chrC, hm])
  rw [HC.out]
  clear hm ha hl
  generalize zs.getD 0 0 = z at *
  by_cases hz : z = 1
  · have hd : (z != 1) = false := by simp [hz]
    rw [if_pos hz]
    clear hz HC
    go_enter Tryz.func48, Tryz.ntmps48
    go_wp2_with (go_at_call 95; refine HM.out.mono ?_; rintro e w' ⟨rfl, rfl⟩)
    go_ret
    exact ⟨rfl, rfl⟩
  · have hd : (z != 1) = true := by simp [hz]
    rw [if_neg hz]
    clear hz HC
    go_enter Tryz.func48, Tryz.ntmps48
    go_wp2_with (go_at_call 95; refine HM.out.mono ?_; rintro e w' ⟨rfl, rfl⟩)
    go_ret
    exact ⟨rfl, rfl⟩
set_option maxHeartbeats 800000 in
theorem s_l07Code1 (w : World) (v : Value) (zs : List Int) (ha : Ints w v zs) : Calls Tryz.prog 60 #[v, v] w fun e w' => e = .returned (.int .i64 (chrC zs)) /\ w = w' := by
 have HM := Lib.hid (s_l07Is w v zs ha)
 obtain ⟨A, c, rfl, -, -, -⟩ := ha.open_
 cases hm : mapB zs with
 | false =>
  rw [hm] at HM
  rw [show chrC zs = 1 by simp [chrC, hm]]
  clear hm ha
  go_enter Tryz.func60, Tryz.ntmps60
  go_wp2_with (go_at_call 117; refine HM.out.mono ?_; rintro e w' ⟨rfl, rfl⟩)
  go_ret
  exact ⟨rfl, rfl⟩
 | true =>
  obtain ⟨ad, rfl, hc⟩ := map_head ha hm
  have hl := (mapB_true hm).1
  rw [hm] at HM
  have hpos : 0 < zs.length := by omega
  have hpi : (0 : Int) < (zs.length : Int) := by omega
  have HC := Lib.hid (show chrC zs = if zs.getD 0 0 = 1 then 0 else 5 by simp [chrC, hm])
  rw [HC.out]
  clear hm ha hl
  generalize zs.getD 0 0 = z at *
  by_cases hz : z = 1
  · have hd : (z != 1) = false := by simp [hz]
    rw [if_pos hz]
    clear hz HC
    go_enter Tryz.func60, Tryz.ntmps60
    go_wp2_with (go_at_call 117; refine HM.out.mono ?_; rintro e w' ⟨rfl, rfl⟩)
    go_ret
    exact ⟨rfl, rfl⟩
  · have hd : (z != 1) = true := by simp [hz]
    rw [if_neg hz]
    clear hz HC
    go_enter Tryz.func60, Tryz.ntmps60
    go_wp2_with (go_at_call 117; refine HM.out.mono ?_; rintro e w' ⟨rfl, rfl⟩)
    go_ret
    exact ⟨rfl, rfl⟩
def infA (b : List Int) (oss : List (List Int)) : Int := if (oss ++ [b]).all mapB then (if b.getD 0 0 = 0 then 0 else 5) else 1
theorem infA_nil (b : List Int) : infA b [] = infC b := by simp [infA, infC]
theorem infA_one (b a : List Int) : infA b [a] = if mapB b && mapB a then (if b.getD 0 0 = 0 then 0 else 5) else 1 := by simp [infA, Bool.and_comm]
set_option maxHeartbeats 2000000 in
theorem i_checkInfinitesimal (w : World) (vb vo : Value) (Bo : Nat) (us : List Value) (b : List Int) (oss : List (List Int)) (ho : Own w Bo tL vo us) (hl : us.length = oss.length) (hn : us.length <= 10) (hBo : Bo <= w.heap.size)
  (hb : ∀ W, w.grownBy W vo.ownBlock -> Ints W vb b) (hr : ∀ (k : Nat) (u : Value) (zs : List Int) (W : World), us[k]? = some u -> oss[k]? = some zs -> w.grownBy W vo.ownBlock -> Ints W u zs) :
  Calls Tryz.prog 44 #[vb, vo] w fun e w' => e = .returned (.int .i64 (infA b oss)) /\ w.grownBy w' vo.ownBlock := by
 have HB := Lib.hid hb
 have HO := Lib.hid ho
 have hb0 := hb w (World.grownBy.refl _ _)
 obtain ⟨A, c, rfl, -, -, -⟩ := hb0.open_
 obtain ⟨Ao, co, rfl, -, -⟩ := ho.cells.open_
 have HL := Lib.hid (show us.length + 1 = (oss ++ [b]).length from by rw [List.length_append, hl]; rfl)
 have HR := Lib.hid (show ∀ (k : Nat) (u : Value) (zs : List Int) (W : World), (us ++ [.slice A b.length c])[k]? = some u -> (oss ++ [b])[k]? = some zs -> w.grownBy W (Value.slice Ao us.length co).ownBlock -> Ints W u zs from fun k u zs W hu hz hg => by
  by_cases hlt : k < us.length
  · rw [List.getElem?_append_left hlt] at hu
    rw [List.getElem?_append_left (by rw [<- hl]; exact hlt)] at hz
    exact hr k u zs W hu hz hg
  · have hkl := (List.getElem?_eq_some_iff.1 hu).1
    simp at hkl
    have hk : k = us.length := by omega
    rw [hk] at hu
    rw [hk, hl] at hz
    simp at hu hz
    subst hu hz
    exact hb W hg)
 clear ho hl hb hr hb0
 go_enter Tryz.func44, Tryz.ntmps44
 go_wp2_with (at_builtin; go_loud (refine wpList_app1 T_row HO.out (by omega) hBo (by cases A <;> rfl) rfl (by rfl) (by rfl) (by rfl) ?_; intro v1 w1 hown1 hgr1; obtain ⟨A1, c1, hv1, -, -⟩ := hown1.cells.open_; rw [List.length_append, List.length_singleton] at hv1; subst hv1; have HN := Lib.hid hown1; have HG := Lib.hid hgr1.1; clear hown1 hgr1))
 go_loopw [12] (fun x wr => ∃ k : Nat, k <= us.length + 1 /\ x = .int .i64 k /\ Hid (∀ (i : Nat) (y : List Int), i < k -> (oss ++ [b])[i]? = some y -> mapB y = true) /\ wr = w1) (fun x _ => us.length + 1 - (intOf x).toNat)
 case atStart => exact ⟨0, Nat.zero_le _, rfl, fun i y hi => by omega, rfl⟩
 case round =>
  obtain ⟨k, hk, rfl, hI, rfl⟩ := hrel
  by_cases hlt : k < us.length + 1
  · obtain ⟨u, hu⟩ : ∃ u, (us ++ [Value.slice A b.length c])[k]? = some u := ⟨_, List.getElem?_eq_getElem (by rw [List.length_append]; exact hlt)⟩
    obtain ⟨zs, hz⟩ : ∃ zs, (oss ++ [b])[k]? = some zs := ⟨_, List.getElem?_eq_getElem (by rw [<- HL.out]; exact hlt)⟩
    obtain ⟨ad, n', c', he, hcell⟩ := HN.out.cells.at_ hu
    simp only [Value.slice.injEq] at he
    obtain ⟨rfl, -, -⟩ := he
    have HM := Lib.hid (i_IsMap wr u zs (HR.out k u zs wr hu hz HG.out))
    have hkk : (k : Int) < (us.length : Int) + 1 := by omega
    cases hm : mapB zs with
    | true =>
     rw [hm] at HM
     have HI2 := Lib.hid (show ∀ (i : Nat) (y : List Int), i < k + 1 -> (oss ++ [b])[i]? = some y -> mapB y = true from fun i y hi hy => by
      by_cases e : i = k
      · subst e; rw [hz] at hy; injection hy with hy; subst hy; exact hm
      · exact hI i y (by omega) hy)
     clear hI hu hz hm
     go_wp2_with (go_at_call 95; refine HM.out.mono ?_; rintro e w2 ⟨rfl, rfl⟩)
     go_roundw
     case rel => exact ⟨k + 1, by omega, by go_num, HI2.out, by first | rfl | trivial⟩
     case measure => simp [intOf]; omega
    | false =>
     rw [hm] at HM
     have HI := Lib.hid (show infA b oss = 1 from by
      unfold infA
      rw [if_neg]
      intro h
      rw [List.all_eq_true] at h
      have := h zs (List.mem_of_getElem? hz)
      rw [hm] at this; cases this)
     clear hI hu hz hm
     go_wp2_with (go_at_call 95; refine HM.out.mono ?_; rintro e w2 ⟨rfl, rfl⟩)
     go_ret
     exact ⟨ret_i64 HI.out.symm, HG.out⟩
  · have hall : (oss ++ [b]).all mapB = true := by
     rw [List.all_eq_true]
     intro y hy
     obtain ⟨i, hi, rfl⟩ := List.getElem_of_mem hy
     exact hI i _ (by have := HL.out; omega) (List.getElem?_eq_getElem hi)
    have hmb : mapB b = true := by
     rw [List.all_eq_true] at hall
     exact hall b (by simp)
    have hbl := (mapB_true hmb).1
    obtain ⟨ad, rfl, hc⟩ := map_head (HB.out wr HG.out) hmb
    have hpos : 0 < b.length := by omega
    have hpi : (0 : Int) < (b.length : Int) := by omega
    have HI := Lib.hid (show infA b oss = if b.getD 0 0 = 0 then 0 else 5 from by unfold infA; rw [if_pos hall])
    clear hI hall hmb hbl
    generalize b.getD 0 0 = z at *
    by_cases hz : z = 0
    · have hd : (z != 0) = false := by simp [hz]
      have HZ := Lib.hid (show infA b oss = 0 from by rw [HI.out, if_pos hz])
      clear hz HI
      go_wp2_with fail
      go_ret
      exact ⟨ret_i64 HZ.out.symm, HG.out⟩
    · have hd : (z != 0) = true := by simp [hz]
      have HZ := Lib.hid (show infA b oss = 5 from by rw [HI.out, if_neg hz])
      clear hz HI
      go_wp2_with fail
      go_ret
      exact ⟨ret_i64 HZ.out.symm, HG.out⟩
theorem i_checkInf1 (w : World) (v : Value) (zs : List Int) (ha : Ints w v zs) : Calls Tryz.prog 44 #[v, .slice none 0 0] w fun e w' => e = .returned (.int .i64 (infC zs)) /\ Below w.heap.size w w' := by
 have h := i_checkInfinitesimal w v (.slice none 0 0) w.heap.size [] zs [] (Own.nil _ _ _) rfl (by simp) (Nat.le_refl _) (fun W hg => ha.of_old fun k hk _ => hg.block k hk (by simp [Value.ownBlock])) (fun k u zs W hu => by simp at hu)
 rw [infA_nil] at h
 exact h.mono fun e w' ⟨he, hg⟩ => ⟨he, ⟨hg.os, hg.tape, hg.output, hg.size, fun k hk => hg.block k hk (by simp [Value.ownBlock])⟩⟩
end Go.Proofs.YtofabikjjkapmaaGreat
