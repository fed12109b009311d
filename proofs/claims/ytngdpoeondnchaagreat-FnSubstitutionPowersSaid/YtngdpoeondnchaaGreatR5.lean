/- Plain: substitution by a table of places is associative, has a unit on either side, and goes into convolutions; kernel checks. No walk. | Words of memory for level lists and lists of them: slices of slices, rows that can be read, branches that grow. | Slices of slices, at lists of numbers and at lists of lists. -/
import Derived.Test.YtngdpoeondnchaaGreatR4
import Derived.Test.YtngdpoeondnchaaGreatR2
import Derived.Test.YtngdpoeondnchaaGreatR3
set_option maxRecDepth 100000
set_option linter.unusedVariables false
set_option linter.unusedSimpArgs false
namespace Go.Proofs.YtngdpoeondnchaaGreat

def SPt (p : Nat) : List MCt := match p with
  | 0 => [(([], 0), 1)]
  | n + 1 => STab.getD n []
/-- substitution over integers: of b into a -/
def sv (b a : Nat → Int) (p : Nat) : Int := gv SPt b a p
theorem sa3 : (List.range 38).all (fun p => eqTs (nrm0 (lhsG SPt SPt p)) (nrm0 (rhsG SPt SPt p))) = true := by decide +kernel
theorem sv_assoc (e b a : Nat → Int) {p : Nat} (hp : p < 38) : sv (sv e b) a p = sv e (sv b a) p := by
  have h1 := sa3
  rw [List.all_eq_true] at h1
  have h2 := h1 p (by simpa using hp)
  show gv SPt (gv SPt e b) a p = gv SPt e (gv SPt b a) p
  rw [lhsG_is, rhsG_is]
  exact nrm0_eq h2
theorem sp3 : (List.range 38).all (fun p => eqTs (nrm0 (rhsG SPt CP p)) (nrm0 (prdG CP SPt p))) = true := by decide +kernel
theorem sv_cv (b a c : Nat → Int) {p : Nat} (hp : p < 38) : sv b (cv a c) p = cv (sv b a) (sv b c) p := by
  have h1 := sp3
  rw [List.all_eq_true] at h1
  have h2 := h1 p (by simpa using hp)
  show gv SPt b (gv CP a c) p = gv CP (gv SPt b a) (gv SPt b c) p
  rw [rhsG_is, prdG_is]
  exact nrm0_eq h2
/-- the places in the partitions of a tree -/
def okSp (p : Nat) (x : MCt) : Bool := x.1.1.all (fun k => Nat.ble k p && Nat.ble 1 k) && (Nat.ble x.1.2 p && (Nat.ble 1 x.1.2 || Nat.beq p 0))
theorem so3 : (List.range 38).all (fun p => (SPt p).all (okSp p)) = true := by decide +kernel
theorem sp_at {p : Nat} (hp : p < 38) {x : MCt} (hx : x ∈ SPt p) : (∀ k ∈ x.1.1, k ≤ p ∧ 1 ≤ k) ∧ x.1.2 ≤ p ∧ (1 ≤ x.1.2 ∨ p = 0) := by
  have h1 := so3
  rw [List.all_eq_true] at h1
  have h2 := h1 p (by simpa using hp)
  rw [List.all_eq_true] at h2
  have h3 := h2 x hx
  unfold okSp at h3
  simp only [Bool.and_eq_true, List.all_eq_true, Bool.or_eq_true] at h3
  exact ⟨fun k hk => ⟨Nat.le_of_ble_eq_true (h3.1 k hk).1, Nat.le_of_ble_eq_true (h3.1 k hk).2⟩, Nat.le_of_ble_eq_true h3.2.1, h3.2.2.imp Nat.le_of_ble_eq_true Nat.eq_of_beq_eq_true⟩
theorem sv_mod {b b' a a' : Nat → Int} {p : Nat} (hp : p < 38) (h : ∀ k, k ≤ p → b k % 10007 = b' k % 10007) (h' : ∀ k, k ≤ p → a k % 10007 = a' k % 10007) : sv b a p % 10007 = sv b' a' p % 10007 :=
  gv_mod fun x hx => ⟨fun k hk => h k ((sp_at hp hx).1 k hk).1, h' _ (sp_at hp hx).2.1⟩
/-! ### the unit -/
def su (p : Nat) : Int := if p = 1 then 1 else 0
/-- all pieces single nodes only once, the whole tree as one piece only once -/
def all1 (l : List Nat) : Bool := l.all (fun k => Nat.beq k 1)
def okU1 (p : Nat) (x : MCt) : Bool := bif all1 x.1.1 then Nat.beq x.1.2 p && Nat.beq x.2 1 else true
def okU2 (p : Nat) (x : MCt) : Bool := bif Nat.beq x.1.2 1 then (match x.1.1 with | [k] => Nat.beq k p && Nat.beq x.2 1 | _ => false) else true
def cntU (f : MCt → Bool) : List MCt → Nat
  | [] => 0
  | x :: xs => (bif f x then 1 else 0) + cntU f xs
theorem su3 : (List.range 38).all (fun p => (SPt p).all (okU1 p) && (Nat.beq (cntU (fun x => all1 x.1.1) (SPt p)) 1 && (Nat.beq p 0 || ((SPt p).all (okU2 p) && Nat.beq (cntU (fun x => Nat.beq x.1.2 1) (SPt p)) 1)))) = true := by decide +kernel
theorem pz_all1 : ∀ {l : List Nat}, all1 l = true → pz su l = 1
  | [], _ => rfl
  | k :: l, h => by
    unfold all1 at h
    rw [List.all_cons, Bool.and_eq_true] at h
    rw [pz_cons, Nat.eq_of_beq_eq_true h.1, pz_all1 h.2]; rfl
theorem pz_not1 : ∀ {l : List Nat}, all1 l = false → pz su l = 0
  | [], h => by cases h
  | k :: l, h => by
    unfold all1 at h
    rw [List.all_cons] at h
    rw [pz_cons]
    cases hk : Nat.beq k 1 with
    | false =>
      have : su k = 0 := if_neg (fun e => by subst e; cases hk)
      rw [this, Int.zero_mul]
    | true =>
      rw [hk, Bool.true_and] at h
      rw [pz_not1 h, Int.mul_zero]
theorem suL_sum (a : Nat → Int) (p : Nat) : ∀ l : List MCt, (∀ x ∈ l, okU1 p x = true) → sumF (cvT su a) l = (cntU (fun x => all1 x.1.1) l : Int) * a p
  | [], _ => by simp [sumF, cntU]
  | x :: l, h => by
    have h1 := h x (by simp)
    have ih := suL_sum a p l fun y hy => h y (by simp [hy])
    simp only [sumF, ih, cntU]
    unfold okU1 at h1
    unfold cvT
    cases ha : all1 x.1.1 with
    | true =>
      rw [ha, cond_true, Bool.and_eq_true] at h1
      rw [pz_all1 ha, Nat.eq_of_beq_eq_true h1.1, Nat.eq_of_beq_eq_true h1.2, cond_true, Int.natCast_add, Int.add_mul]
      simp
    | false =>
      rw [pz_not1 ha]
      simp
theorem sv_unL (a : Nat → Int) {p : Nat} (hp : p < 38) : sv su a p = a p := by
  have h1 := su3
  rw [List.all_eq_true] at h1
  have h2 := h1 p (by simpa using hp)
  simp only [Bool.and_eq_true, List.all_eq_true] at h2
  show sumF (cvT su a) (SPt p) = _
  rw [suL_sum a p _ h2.1, Nat.eq_of_beq_eq_true h2.2.1]
  simp
theorem suR_sum (b : Nat → Int) (p : Nat) : ∀ l : List MCt, (∀ x ∈ l, okU2 p x = true) → sumF (cvT b su) l = (cntU (fun x => Nat.beq x.1.2 1) l : Int) * b p
  | [], _ => by simp [sumF, cntU]
  | ((ps, s), n) :: l, h => by
    have h1 := h ((ps, s), n) (by simp)
    have ih := suR_sum b p l fun y hy => h y (by simp [hy])
    simp only [sumF, ih, cntU]
    unfold okU2 at h1
    unfold cvT
    simp only at h1 ⊢
    cases hs : Nat.beq s 1 with
    | true =>
      rw [hs, cond_true] at h1
      have e := Nat.eq_of_beq_eq_true hs
      subst e
      split at h1
      · next _ k =>
        rw [Bool.and_eq_true] at h1
        rw [Nat.eq_of_beq_eq_true h1.1, Nat.eq_of_beq_eq_true h1.2, cond_true, Int.natCast_add, Int.add_mul, pz_cons, pz_nil]
        simp [su]
      · cases h1
    | false =>
      have : su s = 0 := if_neg (fun e => by subst e; cases hs)
      rw [this]
      simp
theorem sv_unR (b : Nat → Int) (h0 : b 0 = 0) {p : Nat} (hp : p < 38) : sv b su p = b p := by
  cases p with
  | zero => show sumF (cvT b su) [(([], 0), 1)] = _; rw [h0]; rfl
  | succ p =>
    have h1 := su3
    rw [List.all_eq_true] at h1
    have h2 := h1 (p + 1) (by simpa using hp)
    simp only [Bool.and_eq_true, Bool.or_eq_true, List.all_eq_true] at h2
    rcases h2.2.2 with h3 | h3
    · cases h3
    · show sumF (cvT b su) (SPt (p + 1)) = _
      rw [suR_sum b (p + 1) _ h3.1, Nat.eq_of_beq_eq_true h3.2]
      simp
end Go.Proofs.YtngdpoeondnchaaGreat

set_option maxRecDepth 100000
set_option linter.unusedVariables false
set_option linter.unusedSimpArgs false
namespace Go.Proofs.YtngdpoeondnchaaGreat
open Go.RowKit

theorem sliced_cells {w : World} {A : Option Addr} {n c : Nat} {vs : List Value} (h : Cells w (.slice A n c) vs) {k m : Nat} (hk : k ≤ m) (hm : m ≤ vs.length) :
    ∃ X, sliced A k m c 1 = .slice X (m - k) (c - k) ∧ Cells w (.slice X (m - k) (c - k)) ((vs.take m).drop k) := by
  obtain ⟨A', c', he, h1, h2, h3⟩ := h
  simp only [Value.slice.injEq] at he
  obtain ⟨rfl, rfl, rfl⟩ := he
  refine ⟨_, rfl, ?_⟩
  have hl : ((vs.take m).drop k).length = m - k := by rw [List.length_drop, List.length_take]; omega
  refine ⟨_, _, by rw [hl], by rw [hl]; omega, by omega, fun j u hj => ?_⟩
  have hjl := (List.getElem?_eq_some_iff.1 hj).1
  rw [hl] at hjl
  rw [List.getElem?_drop, List.getElem?_take, if_pos (by omega)] at hj
  obtain ⟨ad, rfl, hc⟩ := h3 _ u hj
  have hne : ¬ c = k := by omega
  refine ⟨ad.add (k * 1), by simp [hne], ?_⟩
  rw [add_add', Nat.mul_one]
  exact hc

/-- a slice of a list of numbers that is read, from k to m -/
theorem slice_ints {w : World} {A : Option Addr} {n c : Nat} {zs : List Int} (h : Ints w (.slice A n c) zs) {k m : Nat} (hk : k ≤ m) (hm : m ≤ zs.length) :
    ∃ X, sliced A k m c 1 = .slice X (m - k) (c - k) ∧ Ints w (.slice X (m - k) (c - k)) ((zs.take m).drop k) := by
  obtain ⟨X, h1, h2⟩ := sliced_cells h.1 hk (by rw [ints_len]; exact hm)
  refine ⟨X, h1, ?_, fun z hz => h.2 z (List.mem_of_mem_take (List.mem_of_mem_drop hz))⟩
  simpa [ints, List.map_take, List.map_drop] using h2

/-- rows that can be read: each a list of numbers in a block from B on -/
def RR (w : World) (B : Nat) (vs : List Value) (xss : List (List Int)) : Prop :=
  vs.length = xss.length ∧ ∀ (k : Nat) (u : Value) (zs : List Int), vs[k]? = some u → xss[k]? = some zs → OwnInts w B tI u zs
section
variable {w w' : World} {B : Nat} {vs : List Value} {xss : List (List Int)}
theorem RR.nil (w : World) (B : Nat) : RR w B [] [] := ⟨rfl, fun k u zs h => by simp at h⟩
theorem RR.below (h : RR w B vs xss) (hb : Below w.heap.size w w') : RR w' B vs xss := ⟨h.1, fun k u zs hu hz => (h.2 k u zs hu hz).below hb⟩
theorem RR.mono {B' : Nat} (h : RR w B vs xss) (hB : B' ≤ B) : RR w B' vs xss := ⟨h.1, fun k u zs hu hz => (h.2 k u zs hu hz).mono hB⟩
theorem RR.snoc {u : Value} {zs : List Int} (h : RR w B vs xss) (hu : OwnInts w B tI u zs) : RR w B (vs ++ [u]) (xss ++ [zs]) := by
  refine ⟨by simp [h.1], fun k u' zs' hk hz => ?_⟩
  by_cases hlt : k < vs.length
  · rw [List.getElem?_append_left hlt] at hk
    rw [List.getElem?_append_left (by rw [← h.1]; exact hlt)] at hz
    exact h.2 k u' zs' hk hz
  · have hkl := (List.getElem?_eq_some_iff.1 hk).1
    simp at hkl
    have : k = vs.length := by omega
    subst this
    rw [List.getElem?_append_right (Nat.le_refl _)] at hk
    rw [List.getElem?_append_right (by rw [h.1]; exact Nat.le_refl _), h.1] at hz
    simp at hk hz
    subst hk; subst hz
    exact hu
theorem RR.set {k : Nat} {u : Value} {zs : List Int} (h : RR w B vs xss) (hu : OwnInts w B tI u zs) : RR w B (vs.set k u) (xss.set k zs) := by
  refine ⟨by simp [h.1], fun j u' zs' hj hz => ?_⟩
  rw [List.getElem?_set] at hj hz
  by_cases hjk : k = j
  · subst hjk
    rw [if_pos rfl] at hj hz
    split at hj
    · rw [if_pos (by rw [← h.1]; assumption)] at hz
      injection hj with hj; injection hz with hz
      subst hj; subst hz
      exact hu
    · cases hj
  · rw [if_neg hjk] at hj hz
    exact h.2 j u' zs' hj hz
/-- a block whose elements have another type has turned -/
theorem RR.other {v : Value} {e : TypeId} {B' : Nat} {us : List Value} (h : RR w B vs xss) (hg : w.grownBy w' v.ownBlock) (ho : Own w B' e v us) (hne : tI ≠ e) : RR w' B vs xss :=
  ⟨h.1, fun k u zs hu hz => (h.2 k u zs hu hz).kept hg ((h.2 k u zs hu hz).1.ne_of_type ho hne)⟩
theorem RR.rows {v : Value} {e : TypeId} {B' : Nat} (h : RR w B vs xss) (ho : Own w B' e v vs) : Rows w v xss :=
  ⟨vs, ho.cells, h.1, fun k u zs hu hz => (h.2 k u zs hu hz).ints⟩
theorem RR.oneCell (h : RR w B vs xss) : ∀ u ∈ vs, u.oneCell' = true := by
  intro u hu
  obtain ⟨k, hk, rfl⟩ := List.getElem_of_mem hu
  have hx : xss[k]? = some (xss[k]'(by rw [← h.1]; exact hk)) := List.getElem?_eq_getElem _
  rcases (h.2 k _ _ (List.getElem?_eq_getElem hk) hx).1.cases with ⟨e, _⟩ | ⟨g, cap, cur, e, _⟩ <;> rw [e] <;> rfl
end

/-- a list of lists of one's own whose rows can be read -/
def LL (w : World) (B : Nat) (v : Value) (xss : List (List Int)) : Prop := ∃ vs, Own w B tL v vs ∧ RR w B vs xss
section
variable {w w' : World} {B : Nat} {v : Value} {xss : List (List Int)}
theorem LL.rows (h : LL w B v xss) : Rows w v xss := by obtain ⟨vs, h1, h2⟩ := h; exact h2.rows h1
theorem LL.below (h : LL w B v xss) (hb : Below w.heap.size w w') : LL w' B v xss := by obtain ⟨vs, h1, h2⟩ := h; exact ⟨vs, h1.below hb, h2.below hb⟩
theorem LL.mono {B' : Nat} (h : LL w B v xss) (hB : B' ≤ B) : LL w B' v xss := by obtain ⟨vs, h1, h2⟩ := h; exact ⟨vs, h1.mono hB, h2.mono hB⟩
theorem LL.nil (w : World) (B : Nat) : LL w B (.slice none 0 0) [] := ⟨[], Own.nil _ _ _, RR.nil _ _⟩
/-- one row more, made after all else -/
theorem LL.snoc {w1 : World} {vs : List Value} {u v1 : Value} {zs : List Int} (h1 : Own w B tL v vs) (h2 : RR w B vs xss) (hu : OwnInts w B tI u zs) (ho : Own w1 B tL v1 (vs ++ [u])) (hg : w.grownBy w1 v.ownBlock) : RR w1 B (vs ++ [u]) (xss ++ [zs]) :=
  (h2.snoc hu).other hg h1 (by decide)
end

/-- branches that are gathered: rows whose blocks lie before M, and the last row of one's own from M on -/
structure BrS (w : World) (B M : Nat) (o : Value) (vs : List Value) (bs : List (List Int)) : Prop where
  own : Own w B tL o vs
  rows : RR w B vs bs
  old : ∀ (k : Nat) (u : Value), k + 1 < vs.length → vs[k]? = some u → ∀ b, u.ownBlock = some b → b < M
  last : ∀ (u : Value) (zs : List Int), vs[vs.length - 1]? = some u → bs[vs.length - 1]? = some zs → OwnInts w M tI u zs
  le : B ≤ M
  lt : M ≤ w.heap.size

theorem BrS.push {w w1 : World} {B M : Nat} {o v1 u : Value} {vs : List Value} {bs : List (List Int)} {zs : List Int} (h : BrS w B M o vs bs) (hu : OwnInts w w.heap.size tI u zs) (ho : Own w1 B tL v1 (vs ++ [u])) (hg : w.grownBy w1 o.ownBlock) (hge : ∀ b, u.ownBlock = some b → w.heap.size ≤ b) :
    BrS w1 B w.heap.size v1 (vs ++ [u]) (bs ++ [zs]) := by
  have hB : B ≤ w.heap.size := Nat.le_trans h.le h.lt
  have hr := LL.snoc h.own h.rows (hu.mono hB) ho hg
  have hkeep := hu.kept hg (hu.1.ne_of_type h.own (by decide))
  refine ⟨ho, hr, fun k u' hk hu' b hb => ?_, fun u' zs' hu' hz' => ?_, hB, hg.size⟩
  · simp at hk
    rw [List.getElem?_append_left hk] at hu'
    have hx : bs[k]? = some (bs[k]'(by rw [← h.rows.1]; exact hk)) := List.getElem?_eq_getElem _
    exact (h.rows.2 k u' _ hu' hx).1.lt b hb
  · simp at hu'
    have e : (vs ++ [u]).length - 1 = bs.length := by simp [h.rows.1]
    rw [e, List.getElem?_append_right (Nat.le_refl _)] at hz'
    simp at hz'
    subst hu'; subst hz'
    exact hkeep

/-- the last row has grown: it is stored -/
theorem BrS.grow {w w1 : World} {B M g : Nat} {o u u1 : Value} {vs : List Value} {bs : List (List Int)} {zs zs1 : List Int} (h : BrS w B M o vs bs) (hu : vs[vs.length - 1]? = some u) (hz : bs[vs.length - 1]? = some zs)
    (ho : OwnInts w1 M tI u1 zs1) (hg : w.grownBy w1 u.ownBlock) (hob : o.ownBlock = some g) (hown : Own (w1.setCell ⟨g, vs.length - 1, none⟩ u1) B tL o (vs.set (vs.length - 1) u1)) :
    BrS (w1.setCell ⟨g, vs.length - 1, none⟩ u1) B M o (vs.set (vs.length - 1) u1) (bs.set (vs.length - 1) zs1) := by
  have hl := h.last u zs hu hz
  have hpos := (List.getElem?_eq_some_iff.1 hu).1
  have how1 : Own w1 B tL o vs := h.own.kept hg (h.own.ne_of_type hl.1 (by decide))
  have hset : w1.grownBy (w1.setCell ⟨g, vs.length - 1, none⟩ u1) o.ownBlock := by
    rw [hob]
    exact ((Chg.refl g (g + 1) w1).setCell (p := ⟨g, vs.length - 1, none⟩) (Nat.le_refl _) (by simp) u1) |> fun c => ⟨c.os, c.tape, c.output, c.size, fun b hb hne => c.block b hb (by have : b ≠ g := fun e => hne (by rw [e]); omega)⟩
  have hrow1 : RR w1 B (vs.set (vs.length - 1) u1) (bs.set (vs.length - 1) zs1) := by
    refine ⟨by simp [h.rows.1], fun k u' zs' hk hz' => ?_⟩
    rw [List.getElem?_set] at hk hz'
    by_cases hkl : vs.length - 1 = k
    · subst hkl
      rw [if_pos rfl, if_pos hpos] at hk
      rw [if_pos rfl, if_pos (by rw [← h.rows.1]; exact hpos)] at hz'
      injection hk with hk; injection hz' with hz'
      subst hk; subst hz'
      exact ho.mono h.le
    · rw [if_neg hkl] at hk hz'
      have hkk := (List.getElem?_eq_some_iff.1 hk).1
      have hr := h.rows.2 k u' zs' hk hz'
      refine hr.kept hg ?_
      have hold := h.old k u' (by omega) hk
      cases hb : u'.ownBlock with
      | none => exact .inl hb
      | some b => exact .inr fun e => by have h1 := hold b hb; have h2 := hl.1.ge b (e.symm.trans hb); omega
  refine ⟨hown, hrow1.other hset how1 (by decide), fun k u' hk hu' b hb => ?_, fun u' zs' hu' hz' => ?_, h.le, ?_⟩
  · simp at hk
    rw [List.getElem?_set_ne (by omega)] at hu'
    exact h.old k u' hk hu' b hb
  · simp only [List.length_set] at hu' hz'
    rw [List.getElem?_set_self hpos] at hu'
    rw [List.getElem?_set_self (by rw [← h.rows.1]; exact hpos)] at hz'
    injection hu' with hu'; injection hz' with hz'
    subst hu'; subst hz'
    exact ho.kept hset (ho.1.ne_of_type how1 (by decide))
  · have h1 := hg.size
    have h2 := hset.size
    have h3 := h.lt
    omega

theorem BrS.openLast {w : World} {B M m : Nat} {o : Value} {vs : List Value} {bs : List (List Int)} (h : BrS w B M o vs bs) (hm : vs.length = m + 1) :
    ∃ g cap u zs, o = .slice (some ⟨g, 0, none⟩) (m + 1) cap ∧ m + 1 ≤ cap ∧ cap ≤ 9223372036854775807 ∧ vs[m]? = some u ∧ bs[m]? = some zs ∧ OwnInts w M tI u zs ∧ w.cell? ⟨g, m, none⟩ = some u := by
  have hbl : bs.length = m + 1 := by rw [← h.rows.1]; exact hm
  have hu : vs[m]? = some (vs[m]'(by omega)) := List.getElem?_eq_getElem _
  have hz : bs[m]? = some (bs[m]'(by omega)) := List.getElem?_eq_getElem _
  have hl := h.last _ _ (by rw [hm]; exact hu) (by rw [hm]; exact hz)
  rcases h.own.cases with ⟨_, e⟩ | ⟨g, cap, cur, e, h1, h2, h3, h4, h5, h6, h7⟩
  · rw [e] at hm; simp at hm
  · refine ⟨g, cap, _, _, by rw [e, hm], by omega, by simpa [maxLen] using h5, hu, hz, hl, ?_⟩
    subst e
    obtain ⟨ad, n', c', he, hc⟩ := h.own.cells.at_ hu
    simp only [Value.slice.injEq, Option.some.injEq] at he
    obtain ⟨rfl, -, -⟩ := he
    have e : (⟨g, 0, none⟩ : Addr).add m = ⟨g, m, none⟩ := by
      by_cases h0 : m = 0 <;> simp [Addr.add, h0]
    rwa [e] at hc

/-- behind the append to the last row: what the store wants -/
theorem BrS.ready {w w1 : World} {B M m g cap : Nat} {u u1 : Value} {vs : List Value} {bs : List (List Int)} {zs zs1 : List Int} (h : BrS w B M (.slice (some ⟨g, 0, none⟩) (m + 1) cap) vs bs) (hm : vs.length = m + 1) (hu : vs[m]? = some u) (hz : bs[m]? = some zs)
    (ho : OwnInts w1 M tI u1 zs1) (hg : w.grownBy w1 u.ownBlock) :
    (∃ u0, w1.cell? ⟨g, m, none⟩ = some u0) ∧ w1.frozen? ⟨g, m, none⟩ = false ∧ BrS (w1.setCell ⟨g, m, none⟩ u1) B M (.slice (some ⟨g, 0, none⟩) (m + 1) cap) (vs.set m u1) (bs.set m zs1) := by
  have hlu := h.last u zs (by rw [hm]; exact hu) (by rw [hm]; exact hz)
  have how1 : Own w1 B tL (.slice (some ⟨g, 0, none⟩) (m + 1) cap) vs := h.own.kept hg (h.own.ne_of_type hlu.1 (by decide))
  obtain ⟨u0, -, hc, hf, -, -, hown, -⟩ := how1.storeAt (k := m) (by omega) u1
  have e : m = vs.length - 1 := by omega
  refine ⟨⟨u0, hc⟩, hf, ?_⟩
  have := h.grow (g := g) (u1 := u1) (by rw [← e]; exact hu) (by rw [← e]; exact hz) ho hg rfl (by rw [← e]; exact hown)
  rwa [← e] at this

/-- an empty row more -/
theorem BrS.pushNil {w w1 : World} {B M : Nat} {o v1 : Value} {vs : List Value} {bs : List (List Int)} (h : BrS w B M o vs bs) (ho : Own w1 B tL v1 (vs ++ [.slice none 0 0])) (hg : w.grownBy w1 o.ownBlock) :
    ∃ g cap, v1 = .slice (some ⟨g, 0, none⟩) (vs.length + 1) cap ∧ vs.length + 1 ≤ cap ∧ cap ≤ 9223372036854775807 ∧ BrS w1 B w.heap.size (.slice (some ⟨g, 0, none⟩) (vs.length + 1) cap) (vs ++ [.slice none 0 0]) (bs ++ [[]]) ∧
      w1.cell? ⟨g, vs.length, none⟩ = some (.slice none 0 0) ∧ g < w1.heap.size ∧ B ≤ g ∧ (vs ++ [Value.slice none 0 0])[vs.length]? = some (.slice none 0 0) ∧ (bs ++ [[]])[vs.length]? = some [] := by
  have hp := h.push (u := .slice none 0 0) (zs := []) (OwnInts.nil _ _ _) ho hg (fun b hb => by simp [Value.ownBlock] at hb)
  obtain ⟨g, cap, u, zs, e, h1, h2, hu, hz, hl, hc⟩ := hp.openLast (m := vs.length) (by simp)
  subst e
  have eu : (vs ++ [Value.slice none 0 0])[vs.length]? = some (.slice none 0 0) := by simp
  have ez : (bs ++ [[]])[vs.length]? = some [] := by rw [h.rows.1]; simp
  rw [eu] at hu
  injection hu with hu
  subst hu
  exact ⟨g, cap, rfl, h1, h2, hp, hc, World.block_lt_of_cell? w1 _ hc, hp.own.ge g rfl, eu, ez⟩

theorem BrS.below {w w' : World} {B M : Nat} {o : Value} {vs : List Value} {bs : List (List Int)} (h : BrS w B M o vs bs) (hb : Below w.heap.size w w') : BrS w' B M o vs bs :=
  ⟨h.own.below hb, h.rows.below hb, h.old, fun u zs hu hz => (h.last u zs hu hz).below hb, h.le, Nat.le_trans h.lt hb.size⟩

/-- an empty row more, which a literal has laid -/
theorem BrS.pushLit {w w1 : World} {B M : Nat} {o v1 : Value} {vs : List Value} {bs : List (List Int)} (h : BrS w B M o vs bs) (ho : Own w1 B tL v1 (vs ++ [.slice (some ⟨w.heap.size, 0, none⟩) 0 0])) (hg : (w.alloc (.cells #[] tI)).grownBy w1 o.ownBlock) :
    ∃ g cap, v1 = .slice (some ⟨g, 0, none⟩) (vs.length + 1) cap ∧ vs.length + 1 ≤ cap ∧ cap ≤ 9223372036854775807 ∧ BrS w1 B w.heap.size (.slice (some ⟨g, 0, none⟩) (vs.length + 1) cap) (vs ++ [.slice (some ⟨w.heap.size, 0, none⟩) 0 0]) (bs ++ [[]]) ∧
      w1.cell? ⟨g, vs.length, none⟩ = some (.slice (some ⟨w.heap.size, 0, none⟩) 0 0) ∧ g < w1.heap.size ∧ B ≤ g ∧ (vs ++ [Value.slice (some ⟨w.heap.size, 0, none⟩) 0 0])[vs.length]? = some (.slice (some ⟨w.heap.size, 0, none⟩) 0 0) ∧ (bs ++ [[]])[vs.length]? = some [] ∧
      OwnInts w1 w.heap.size tI (.slice (some ⟨w.heap.size, 0, none⟩) 0 0) [] := by
  have h' := h.below (below1 w (.cells #[] tI))
  have hB : B ≤ w.heap.size := Nat.le_trans h.le h.lt
  have hu : OwnInts (w.alloc (.cells #[] tI)) w.heap.size tI (.slice (some ⟨w.heap.size, 0, none⟩) 0 0) [] := ⟨own_lit w tI [] (by simp [maxLen]), fun z hz => by simp at hz⟩
  have hkeep := hu.kept hg (hu.1.ne_of_type h'.own (by decide))
  have hr := LL.snoc h'.own h'.rows (hu.mono hB) ho hg
  have hsz := hg.size
  have hp : BrS w1 B w.heap.size v1 (vs ++ [.slice (some ⟨w.heap.size, 0, none⟩) 0 0]) (bs ++ [[]]) := by
    refine ⟨ho, hr, fun k u' hk hu' b hb => ?_, fun u' zs' hu' hz' => ?_, hB, by rw [size_alloc'] at hsz; omega⟩
    · simp at hk
      rw [List.getElem?_append_left hk] at hu'
      have hx : bs[k]? = some (bs[k]'(by rw [← h.rows.1]; exact hk)) := List.getElem?_eq_getElem _
      exact (h.rows.2 k u' _ hu' hx).1.lt b hb
    · simp at hu'
      have e : (vs ++ [Value.slice (some ⟨w.heap.size, 0, none⟩) 0 0]).length - 1 = bs.length := by simp [h.rows.1]
      rw [e, List.getElem?_append_right (Nat.le_refl _)] at hz'
      simp at hz'
      subst hu'; subst hz'
      exact hkeep
  obtain ⟨g, cap, u, zs, e, h1, h2, hu2, hz, hl, hc⟩ := hp.openLast (m := vs.length) (by simp)
  subst e
  have eu : (vs ++ [Value.slice (some ⟨w.heap.size, 0, none⟩) 0 0])[vs.length]? = some (.slice (some ⟨w.heap.size, 0, none⟩) 0 0) := by simp
  have ez : (bs ++ [[]])[vs.length]? = some [] := by rw [h.rows.1]; simp
  rw [eu] at hu2
  injection hu2 with hu2
  subst hu2
  exact ⟨g, cap, rfl, h1, h2, hp, hc, World.block_lt_of_cell? w1 _ hc, hp.own.ge g rfl, eu, ez, hkeep⟩
end Go.Proofs.YtngdpoeondnchaaGreat

set_option maxRecDepth 100000
set_option linter.unusedVariables false
set_option linter.unusedSimpArgs false
namespace Go.Proofs.YtngdpoeondnchaaGreat
open Go.RowKit

theorem sizeI (W : World) : (sizeOf (Tryz.prog.elem 27)).run Tryz.prog W = .ok 1 W := by kernel_rfl
theorem sizeL (W : World) : (sizeOf (Tryz.prog.elem 54)).run Tryz.prog W = .ok 1 W := by kernel_rfl

theorem sl_from {t : TypeId} (ht : Tryz.prog.underlying t = some (.slice (Tryz.prog.elem t))) (hs : ∀ W, (sizeOf (Tryz.prog.elem t)).run Tryz.prog W = .ok 1 W) (W : World) (A : Option Addr) (n c k : Nat) (K : Int) (hK : K = k) (h : k ≤ n) :
    (Instr.slice t (.slice A n c) (some (.int .i64 K)) none none).run Tryz.prog W = .ok (sliced A k n c 1) W := by
  subst hK
  rw [run_slice_l W t A n c ht .i64 k (by omega) (by omega), hs]
  simp [Result.andThen]
theorem sl_to {t : TypeId} (ht : Tryz.prog.underlying t = some (.slice (Tryz.prog.elem t))) (hs : ∀ W, (sizeOf (Tryz.prog.elem t)).run Tryz.prog W = .ok 1 W) (W : World) (A : Option Addr) (n c k : Nat) (K : Int) (hK : K = k) (h : k ≤ c) :
    (Instr.slice t (.slice A n c) none (some (.int .i64 K)) none).run Tryz.prog W = .ok (sliced A 0 k c 1) W := by
  subst hK
  rw [run_slice_h W t A n c ht .i64 k (by omega) (by omega), hs]
  simp [Result.andThen]
/-- 't[k:]' of a list of numbers -/
theorem ints_from {w : World} {A : Option Addr} {n c : Nat} {zs : List Int} (h : Ints w (.slice A n c) zs) (k : Nat) (K : Int) (hK : K = k) (hk : k ≤ zs.length) :
    ∃ X, (∀ W, (Instr.slice 27 (.slice A n c) (some (.int .i64 K)) none none).run Tryz.prog W = .ok (.slice X (zs.length - k) (c - k)) W) ∧ Ints w (.slice X (zs.length - k) (c - k)) (zs.drop k) := by
  have hn : n = zs.length := by obtain ⟨A', c', e, -, -, -⟩ := h.open_; simp only [Value.slice.injEq] at e; exact e.2.1
  obtain ⟨X, h1, h2⟩ := slice_ints h (k := k) (m := zs.length) hk (Nat.le_refl _)
  rw [List.take_length] at h2
  exact ⟨X, fun W => by rw [sl_from Tryz.underlying27 sizeI W A n c k K hK (by omega), hn, h1], h2⟩
/-- append of one element, whose block's number the walk has reckoned -/
theorem wpList_app1n {P : Program} {ops : Array Oper} {rest : List Oper} {o : Oper} {a : Act} {Q : Exit → Act → World → Prop} {s x : Operand} {t : TypeId}
    {e : TypeId} {z : Value} {bytes : Nat} {B : Nat} {v : Value} {vs : List Value} {W : World} {u : Value} (gn : Nat) (hgn : W.heap.size = gn)
    (T : ElemT P t e z bytes) (hown : Own W B e v vs) (hlen : vs.length < 1099511627776) (hB : B ≤ W.heap.size) (hu : u.oneCell' = true)
    (hgd : o.guard = none) (ho : o.op = .call { callee := .builtin .append, args := #[s, x], argTypes := #[t, t] }) (hs : a.eval s = v)
    (hx : a.eval x = .slice (some ⟨gn, 0, none⟩) 1 1)
    (h : ∀ v' w', Own w' B e v' (vs ++ [u]) → Grow W w' v v' → wpList P ops Q rest (a.put o.dst v') w') : wpList P ops Q (o :: rest) a (W.alloc (.cells #[u] e)) := by
  subst hgn
  exact wpList_app1 T hown hlen hB hu hgd ho hs hx h
end Go.Proofs.YtngdpoeondnchaaGreat

