/- Walks: what is drawn out of the source: picks, numbers, lists. | Plain: one part more, made beside changes of a block below (PFd.step2; printed by frdgen0.py out of PFd.step); lists of one's own beside changes of the source's block. | Plain: the field that is read: its size, its number, its code. No walk. | The laws' marking and holding of fields, with the values: plain part and walks. | The laws' holding of fields, walked. | The laws' helper: equality of monomials. | The laws' helper: equality of lists of monomials. | Walk: l13Is of the reference. | Walk: IsField of the reference. | The laws' helpers: equality of lists of lists of monomials, and of fields. | Plain: fields of one's own, in blocks that are there; their comparison and marking. | Walks: FieldText of both. -/
import Derived.Test.YtnnfjjadehgmeaaGreatDoorFt10
import Derived.Test.YtnnfjjadehgmeaaGreatDoorFt4
import Derived.Test.YtnnfjjadehgmeaaGreatDoorFt8
import Derived.Test.YtnnfjjadehgmeaaGreatDoorFt5
import Derived.Test.YtnnfjjadehgmeaaGreatDoorFt3
import Derived.Test.YtnnfjjadehgmeaaGreatDoorFt2
import Derived.Deep.RegionLaw
import Derived.Test.YtnnfjjadehgmeaaGreatDoorFt6
set_option maxRecDepth 100000
set_option linter.unusedVariables false
set_option linter.unusedSimpArgs false
namespace Go.Proofs.YtnnfjjadehgmeaaGreatDoor
open Go.RowKit

theorem wrap_i64 (x : Int) (h : -9223372036854775808 ≤ x ∧ x ≤ 9223372036854775807) : IntKind.i64.wrap x = x := IntWalk.i64_in _ (by omega)
/-- a literal list of numbers is kept where the source changes -/
theorem lit_keep (w : World) (p : Nat) (zs : List Int) (hz : ∀ z ∈ zs, In64 z) (hl : zs.length ≤ 1000) (hp : p < w.heap.size) :
    ∀ W, (w.alloc (.cells (ints zs).toArray tI)).grownBy W (some p) → Ints W (.slice (some ⟨w.heap.size, 0, none⟩) zs.length zs.length) zs := fun W hg => by
  have h := own_lit w tI (ints zs) (by rw [ints_len]; simp [maxLen]; omega)
  rw [ints_len] at h
  exact ⟨(h.kept hg (.inr (fun e => by simp [Value.ownBlock] at e; omega))).cells, hz⟩
set_option maxHeartbeats 4000000 in
theorem s_l01Pick (w : World) (B p : Nat) (v : Value) (zs : List Int) (h : Src w B tSc p) (hv : ∀ W, w.grownBy W (some p) → Ints W v zs) (h1 : 1 ≤ zs.length) (h2 : zs.length ≤ 1000) :
    Calls Tryz.prog 53 #[at0 p, v] w fun e w' => ∃ z, e = .returned (.int .i64 z) ∧ z ∈ zs ∧ w.grownBy w' (some p) ∧ Src w' B tSc p := by
  obtain ⟨A, c, rfl, g1, g2, g3⟩ := (hv w (World.grownBy.refl _ _)).open_
  have HV := Lib.hid hv
  have HN := Lib.hid (s_l01Next w B p (zs.length : Nat) h (by omega) (by omega))
  clear g3 h hv
  go_enter Tryz.func53, Tryz.ntmps53
  go_wp2_with (go_at_call 36; go_loud (refine HN.out.mono ?_; rintro e w1 ⟨x, rfl, x0, x1, hg, hs⟩; obtain ⟨k, rfl⟩ : ∃ k : Nat, x = k := ⟨x.toNat, by omega⟩; obtain ⟨A', c', he, -, -, g3⟩ := (HV.out w1 hg).open_; (simp only [Value.slice.injEq] at he); obtain ⟨rfl, -, rfl⟩ := he; obtain ⟨ad, z, rfl, hz, hz2, hc⟩ := g3 k (by omega); have HZ := Lib.hid (List.mem_of_getElem? hz); have HG := Lib.hid hg; have HS := Lib.hid hs; have hkl : k < zs.length := (by omega); clear g3 hz hz2 hg hs x0 x1))
  go_ret
  exact ⟨_, rfl, HZ.out, HG.out, HS.out⟩
theorem nume_bd (x : Int) : 0 ≤ x % 10007 ∧ x % 10007 ≤ 10006 := by omega
set_option maxHeartbeats 1000000 in
theorem s_l01FracZ (w : World) (p q : Int) (h0 : -1000000 ≤ p) (h1 : p ≤ 1000000) (g0 : 0 ≤ q) (g1 : q ≤ 1000000) :
    Calls Tryz.prog 39 #[.int .i64 p, .int .i64 q] w fun e w' => ∃ z, e = .returned (.int .i64 z) ∧ (0 ≤ z ∧ z ≤ 10006) ∧ w = w' := by
  have hp := pw_bd (q % 10007) 10005
  have hq : 0 ≤ q % 10007 ∧ q % 10007 ≤ 10006 := by omega
  have hq2 : 0 ≤ p % 10007 ∧ p % 10007 ≤ 10006 := by omega
  go_enter Tryz.func39, Tryz.ntmps39
  go_wp2_with (first
    | (go_at_call 62; (with_reducible refine (s_l01Inv _ _ (by omega) (by omega)).mono ?_); rintro e w2 ⟨rfl, rfl⟩)
    | (go_at_call 60; (with_reducible refine (s_l01Mul _ _ _ (by omega) (by omega) (by omega) (by omega)).mono ?_); rintro e w2 ⟨rfl, rfl⟩)
    | (go_at_call 61; (with_reducible refine (s_l01Mod _ _ (by omega) (by omega)).mono ?_); rintro e w2 ⟨rfl, rfl⟩))
  go_ret
  exact ⟨_, rfl, nume_bd _, rfl⟩
set_option maxHeartbeats 4000000 in
theorem s_l01Number (w : World) (B p : Nat) (h : Src w B tSc p) :
    Calls Tryz.prog 59 #[at0 p] w fun e w' => ∃ z, e = .returned (.int .i64 z) ∧ (0 ≤ z ∧ z ≤ 10006) ∧ w.grownBy w' (some p) ∧ Src w' B tSc p := by
  have HN := Lib.hid (s_l01Next w B p 5 h (by omega) (by omega))
  have hpl := h.lt
  clear h
  go_enter Tryz.func59, Tryz.ntmps59
  go_upto_region 2 with (go_at_call 36; go_loud (refine HN.out.mono ?_; rintro e w1 ⟨x, rfl, x0, x1, hg, hs⟩; have HG := Lib.hid hg; have HS := Lib.hid hs; clear hg hs))
  have hpl1 : p < w1.heap.size := Nat.lt_of_lt_of_le hpl HG.out.size
  by_cases hx0 : x = 0
  · have hd0 : (x == 0) = true := by simp [hx0]
    have HN1 := Lib.hid (s_l01Next w1 B p 10007 HS.out (by omega) (by omega))
    clear hx0 x0 x1
    go_wp2_with (go_at_call 36; go_loud (refine HN1.out.mono ?_; rintro e w2 ⟨y, rfl, y0, y1, hg, hs⟩; have HG2 := Lib.hid (gtrans HG.out hg); have HS2 := Lib.hid hs; clear hg hs))
    go_ret
    exact ⟨_, rfl, ⟨y0, by omega⟩, HG2.out, HS2.out⟩
  · have hd0 : (x == 0) = false := by simp [hx0]
    by_cases hx1 : x = 1
    · have hd1 : (x == 1) = true := by simp [hx1]
      have HL := Lib.hid (lit_keep w1 p [0, 1, 0, 1, 10006, 2] (by intro z hz; simp at hz; unfold In64; omega) (by simp) hpl1)
      have HSL := Lib.hid (HS.out.below (below1 w1 (.cells (ints [0, 1, 0, 1, 10006, 2]).toArray tI)))
      have HPK := Lib.hid (s_l01Pick _ B p _ [0, 1, 0, 1, 10006, 2] HSL.out HL.out (by simp) (by simp))
      clear hx0 hx1 x0 x1
      go_wp2_with (go_at_call 53; go_loud (refine HPK.out.mono ?_; rintro e w2 ⟨y, rfl, hy, hg, hs⟩; have HG2 := Lib.hid (gtrans (gtrans HG.out (gof (below1 w1 _))) hg); have HS2 := Lib.hid hs; have HY := Lib.hid hy; clear hg hs hy))
      go_ret
      exact ⟨_, rfl, by have := HY.out; simp at this; omega, HG2.out, HS2.out⟩
    · have hd1 : (x == 1) = false := by simp [hx1]
      have HN1 := Lib.hid (s_l01Next w1 B p 15 HS.out (by omega) (by omega))
      have hw := fun y (h : 0 ≤ y ∧ y < 15) => wrap_i64 (y - 7) (by omega)
      have hw2 := fun y (h : 0 ≤ y ∧ y < 12) => w64_dr (1 + y) (by omega)
      clear hx0 hx1 x0 x1
      go_wp2_with (first
        | (go_at_call 36; (with_reducible refine HN1.out.mono ?_); go_loud (rintro e w2 ⟨y, rfl, y0, y1, hg, hs⟩; have HG2 := Lib.hid (gtrans HG.out hg); have HS2 := Lib.hid hs; have hwy := hw y ⟨y0, y1⟩; clear hg hs))
        | (go_at_call 36; (with_reducible refine (s_l01Next w2 B p 12 HS2.out (by omega) (by omega)).mono ?_); go_loud (rintro e w3 ⟨u, rfl, u0, u1, hg, hs⟩; have HG3 := Lib.hid (gtrans HG2.out hg); have HS3 := Lib.hid hs; have hwu := hw2 u ⟨u0, u1⟩; clear hg hs))
        | (go_at_call 39; go_loud (refine (s_l01FracZ _ _ _ (by omega) (by omega) (by omega) (by omega)).mono ?_; rintro e w4 ⟨z, rfl, hz, rfl⟩; have HZ := Lib.hid hz; clear hz)))
      go_ret
      exact ⟨_, rfl, HZ.out, HG3.out, HS3.out⟩
end Go.Proofs.YtnnfjjadehgmeaaGreatDoor

set_option maxRecDepth 100000
set_option linter.unusedVariables false
set_option linter.unusedSimpArgs false
namespace Go.Proofs.YtnnfjjadehgmeaaGreatDoor
open Go.RowKit

theorem Same.of_grown {B C p : Nat} {w w' : World} (h : w.grownBy w' (some p)) (hC : C ≤ w.heap.size) (hp : p < B) : Same B C w w' := fun k a b => h.block k (by omega) (fun e => by injection e with e; omega)
theorem Blk.of_grown {g p : Nat} {t : TypeId} {cs : Array Value} {w w' : World} (h : Blk w g t cs) (hg : w.grownBy w' (some p)) (hne : p ≠ g) : Blk w' g t cs := (hg.block g h.lt (fun e => by injection e with e; exact hne e.symm)).trans h
theorem OwnInts.of_grown {B p : Nat} {t : TypeId} {v : Value} {zs : List Int} {w w' : World} (h : OwnInts w B t v zs) (hg : w.grownBy w' (some p)) (hp : p < B) : OwnInts w' B t v zs :=
  ⟨h.1.kept hg (.inr fun e => by have := h.1.ge p e; omega), h.2⟩
theorem PFd.step2 {W5 W6 W7 : World} {B C D : Nat} {u : Value} {vs : List Value} {ivs : List (Nat × Nat)} {pss : List (List Mono)} {v u' : Value} {ms : List Mono} (h : PFd W5 B C u vs ivs pss) (hC : C ≤ D) (s5 : D ≤ W5.heap.size) (hm : OMo W5 D W5.heap.size v ms) (h6 : Below W5.heap.size W5 W6)
    (hn : Own W7 B tMs u' (vs ++ [v])) (hg : Grow W6 W7 u u') : PFd W7 B W7.heap.size u' (vs ++ [v]) (ivs ++ [(D, W5.heap.size)]) (pss ++ [ms]) := by
  have s6 := h6.size
  have s7 := hg.1.size
  have hBC := h.le
  have hnew : ∀ b, u'.ownBlock = some b → u.ownBlock = some b ∨ W6.heap.size ≤ b := fun b hb => by
    rcases hg.2 with e | ⟨g, e, hge⟩
    · exact .inl (by rw [← e]; exact hb)
    · rw [e] at hb; injection hb with hb; subst hb; exact .inr hge
  refine ⟨hn, fun b hb => hn.lt b hb, by omega, by simp [h.len], by simp [h.ilen], fun i x ns iv hx hns hiv => ?_, fun i iv b hiv hb => ?_, fun i j iv iv' hij hi hj => ?_⟩
  · have hi := (List.getElem?_eq_some_iff.1 hx).1
    rw [List.length_append, List.length_singleton] at hi
    by_cases hl : i < vs.length
    · rw [List.getElem?_append_left hl] at hx
      rw [List.getElem?_append_left (by rw [← h.len]; exact hl)] at hns
      rw [List.getElem?_append_left (by rw [h.ilen, ← h.len]; exact hl)] at hiv
      obtain ⟨a, b, c⟩ := h.at_ i x ns iv hx hns hiv
      refine ⟨a, by omega, c.agree fun k h1 h2 => ?_⟩
      rw [hg.1.block k (by omega) (fun e => by rcases h.out i iv k hiv e.symm with h3 | h3 <;> omega), h6.block k (by omega)]
    · have : i = vs.length := by omega
      subst this
      rw [List.getElem?_append_right (Nat.le_refl _), Nat.sub_self] at hx
      rw [List.getElem?_append_right (by rw [h.len]; exact Nat.le_refl _), h.len, Nat.sub_self] at hns
      rw [List.getElem?_append_right (by rw [h.len, h.ilen]; exact Nat.le_refl _), h.ilen, h.len, Nat.sub_self] at hiv
      simp only [List.getElem?_cons_zero, Option.some.injEq] at hx hns hiv
      subst hx; subst hns; subst hiv
      refine ⟨by show B ≤ D; omega, by show W5.heap.size ≤ W7.heap.size; omega, hm.agree fun k h1 h2 => ?_⟩
      rw [hg.1.block k (by have : k < W5.heap.size := h2; omega) (fun e => by have h3 := h.lt k e.symm; have : D ≤ k := h1; omega), h6.block k h2]
  · by_cases hl : i < ivs.length
    · rw [List.getElem?_append_left hl] at hiv
      have hx : vs[i]? = some (vs[i]'(by rw [h.len, ← h.ilen]; exact hl)) := List.getElem?_eq_getElem _
      have hns : pss[i]? = some (pss[i]'(by rw [← h.ilen]; exact hl)) := List.getElem?_eq_getElem _
      obtain ⟨a, b', -⟩ := h.at_ i _ _ iv hx hns hiv
      rcases hnew b hb with e | e
      · exact h.out i iv b hiv e
      · right; omega
    · rw [List.getElem?_append_right (by omega)] at hiv
      have : i - ivs.length = 0 := by
        have := (List.getElem?_eq_some_iff.1 hiv).1
        simpa using this
      rw [this] at hiv
      simp only [List.getElem?_cons_zero, Option.some.injEq] at hiv
      subst hiv
      rcases hnew b hb with e | e
      · left; have := h.lt b e; show b < D; omega
      · right; show W5.heap.size ≤ b; omega
  · by_cases hl : j < ivs.length
    · rw [List.getElem?_append_left hl] at hj
      rw [List.getElem?_append_left (by omega)] at hi
      exact h.ord i j iv iv' hij hi hj
    · rw [List.getElem?_append_right (by omega)] at hj
      have hj0 := (List.getElem?_eq_some_iff.1 hj).1
      simp only [List.length_singleton] at hj0
      have e0 : j - ivs.length = 0 := by omega
      rw [e0] at hj
      simp only [List.getElem?_cons_zero, Option.some.injEq] at hj
      subst hj
      have hl' : i < ivs.length := by omega
      rw [List.getElem?_append_left hl'] at hi
      have hx : vs[i]? = some (vs[i]'(by rw [h.len, ← h.ilen]; exact hl')) := List.getElem?_eq_getElem _
      have hns : pss[i]? = some (pss[i]'(by rw [← h.ilen]; exact hl')) := List.getElem?_eq_getElem _
      obtain ⟨a, b, -⟩ := h.at_ i _ _ iv hx hns hi
      show iv.2 ≤ D
      omega
end Go.Proofs.YtnnfjjadehgmeaaGreatDoor

set_option maxRecDepth 100000
set_option linter.unusedVariables false
set_option linter.unusedSimpArgs false
namespace Go.Proofs.YtnnfjjadehgmeaaGreatDoor
open Go.RowKit

theorem optL_mem {α β : Type} {M : α → Option β} : ∀ {xs : List α} {ms : List β} {m : β}, optL M xs = some ms → m ∈ ms → ∃ x ∈ xs, M x = some m
  | [], ms, m, h, hm => by
    rw [optL] at h
    injection h with h
    subst h
    simp at hm
  | x :: r, ms, m, h, hm => by
    rw [optL] at h
    cases hx : M x with
    | none => rw [hx] at h; cases h
    | some y =>
      rw [hx] at h
      simp only at h
      cases hr : optL M r with
      | none => rw [hr] at h; cases h
      | some ys =>
        rw [hr] at h
        injection h with h
        subst h
        rcases List.mem_cons.1 hm with rfl | hm
        · exact ⟨x, by simp, hx⟩
        · obtain ⟨z, hz, hz2⟩ := optL_mem hr hm
          exact ⟨z, by simp [hz], hz2⟩
/-- what a reader of monomials may promise: no more exponents than bytes -/
def Thin (M : List UInt8 → Option Mono) : Prop := ∀ t m, M t = some m → m.2.length ≤ t.length
theorem thinF : Thin rdMF := by
  intro t m h
  unfold rdMF at h
  split at h
  · cases h
  · injection h with h
    subst h
    unfold pwB
    rw [List.length_map]
    exact (cutB_len 58 t).2
theorem thinR : Thin rdMR := by
  intro t m h
  unfold rdMR at h
  split at h
  · cases h
  · injection h with h
    subst h
    unfold pwB
    rw [List.length_map]
    show ((splB 58 t).getD 1 []).length ≤ t.length
    rw [List.getD]
    cases hg : (splB 58 t)[1]? with
    | none => simp
    | some p => exact splB_mem_len 58 t p (List.mem_of_getElem? hg)
theorem rdP_size {M : List UInt8 → Option Mono} (hM : Thin M) {x : List UInt8} {ms : List Mono} (h : rdP M x = some ms) : ms.length ≤ x.length + 1 ∧ ∀ m ∈ ms, m.2.length ≤ x.length := by
  unfold rdP at h
  split at h
  · injection h with h
    subst h
    simp
  · refine ⟨?_, fun m hm => ?_⟩
    · have := splB_len 43 x
      rw [optL_len h]; exact this
    · obtain ⟨y, hy, hy2⟩ := optL_mem h hm
      exact Nat.le_trans (hM y m hy2) (splB_mem_len 43 x y hy)
theorem rdF_size {M : List UInt8 → Option Mono} (hM : Thin M) {l : List UInt8} {pss : List (List Mono)} (h : rdF M l = some pss) : pss.length ≤ l.length + 1 ∧ ∀ ms ∈ pss, ms.length ≤ l.length + 1 ∧ ∀ m ∈ ms, m.2.length ≤ l.length := by
  unfold rdF at h
  refine ⟨?_, fun ms hms => ?_⟩
  · have := splB_len 59 l
    rw [optL_len h]; exact this
  · obtain ⟨x, hx, hx2⟩ := optL_mem h hms
    have h1 := rdP_size hM hx2
    have h2 := splB_mem_len 59 l x hx
    exact ⟨by omega, fun m hm => Nat.le_trans (h1.2 m hm) h2⟩
theorem pnR_rg (l : List UInt8) : 0 ≤ (pnR l).1 ∧ (pnR l).1 ≤ 10006 := by
  unfold pnR
  have h1 : ∀ x y : Int, 0 ≤ nofR x y := fun x y => Int.emod_nonneg _ (by decide)
  have h2 : ∀ x y : Int, nofR x y < 10007 := fun x y => Int.emod_lt_of_pos _ (by decide)
  by_cases c1 : 2 < (splB 47 l).length ∨ pnP l < 0 ∨ pnQ l < 1 ∨ (pnP l = 0 ∧ pnS l < 0)
  · rw [if_pos c1]; exact ⟨Int.le_refl _, by simp⟩
  · rw [if_neg c1]
    by_cases c2 : pnQ l % 10007 = 0
    · rw [if_pos c2]; exact ⟨Int.le_refl _, by simp⟩
    · rw [if_neg c2]
      refine ⟨h1 _ _, ?_⟩
      have := h2 (pnS l * pnP l) (pnQ l)
      show nofR (pnS l * pnP l) (pnQ l) ≤ 10006
      omega
/-- what ParseField answers -/
def pfR (l : List UInt8) : List (List Mono) := (pfX rdMF l).getD []
def pfC (l : List UInt8) : Int := if (pfX rdMF l).isSome then 0 else 6
theorem pf_none {M : List UInt8 → Option Mono} {l : List UInt8} (hM : pfX rdMF l = pfX M l) (h : pfX M l = none) : pfR l = [] ∧ pfC l = 6 := by
  unfold pfR pfC
  rw [hM, h]
  exact ⟨rfl, rfl⟩
theorem pf_some {M : List UInt8 → Option Mono} {l : List UInt8} {pss : List (List Mono)} (hM : pfX rdMF l = pfX M l) (h : pfX M l = some pss) : pfR l = pss ∧ pfC l = 0 := by
  unfold pfR pfC
  rw [hM, h]
  exact ⟨rfl, rfl⟩
theorem pfX_none1 {M : List UInt8 → Option Mono} {l : List UInt8} (h : rdF M l = none) : pfX M l = none := by
  unfold pfX
  rw [h]
theorem pfX_none2 {M : List UInt8 → Option Mono} {l : List UInt8} {pss : List (List Mono)} (h : rdF M l = some pss) (h2 : ¬ (fieldB pss.length pss = true ∧ fldTx pss = l)) : pfX M l = none := by
  unfold pfX
  rw [h]
  simp only
  rw [if_neg h2]
theorem pfX_some {M : List UInt8 → Option Mono} {l : List UInt8} {pss : List (List Mono)} (h : rdF M l = some pss) (h1 : fieldB pss.length pss = true) (h2 : fldTx pss = l) : pfX M l = some pss := by
  unfold pfX
  rw [h]
  simp only
  rw [if_pos ⟨h1, h2⟩]
end Go.Proofs.YtnnfjjadehgmeaaGreatDoor

set_option maxRecDepth 100000
set_option linter.unusedVariables false
set_option linter.unusedSimpArgs false
namespace Go.Proofs.YtnnfjjadehgmeaaGreatDoor
open Go.RowKit

section
variable {α : Type} (sz : α → Nat) (mk : Int → α → α)
variable {sz mk}
end
end Go.Proofs.YtnnfjjadehgmeaaGreatDoor

set_option maxRecDepth 100000
set_option linter.unusedVariables false
set_option linter.unusedSimpArgs false
namespace Go.Proofs.YtnnfjjadehgmeaaGreatDoor
open Go.RowKit

end Go.Proofs.YtnnfjjadehgmeaaGreatDoor

set_option maxRecDepth 100000
set_option linter.unusedVariables false
set_option linter.unusedSimpArgs false
namespace Go.Proofs.YtnnfjjadehgmeaaGreatDoor
open Go.RowKit

end Go.Proofs.YtnnfjjadehgmeaaGreatDoor

set_option maxRecDepth 100000
set_option linter.unusedVariables false
set_option linter.unusedSimpArgs false
namespace Go.Proofs.YtnnfjjadehgmeaaGreatDoor
open Go.RowKit

end Go.Proofs.YtnnfjjadehgmeaaGreatDoor

set_option maxRecDepth 100000
set_option linter.unusedVariables false
set_option linter.unusedSimpArgs false
namespace Go.Proofs.YtnnfjjadehgmeaaGreatDoor
open Go.RowKit

theorem quiet_lessF {w : World} {n : Nat} {v v' : Value} {a b : List Int} (h : Ints w v a) (h' : Ints w v' b) :
    Calls Tryz.prog 42 #[v, v'] (w.drewN n) fun e w'' => e = .returned (.bool (lessL a b)) ∧ ∃ m, w'' = w.drewN m :=
  (s_l01Less _ _ _ a b (h.drewN n) (h'.drewN n)).mono fun _ _ ⟨he, m, hm⟩ => ⟨he, n + m, by rw [hm, World.drewN_drewN]⟩

theorem factor_in (f : Int) : inR f 1 10006 = (!decide (f = 0) && isNum f) := by
  unfold isNum inR
  by_cases h : f = 0
  · subst h; decide
  · by_cases h1 : 1 ≤ f
    · have : 0 ≤ f := by omega
      simp [h, h1, this]
    · have : ¬ 0 ≤ f := by omega
      simp [h1, this]

theorem monoB_eq (n f : Int) (ps : List Int) : monoB n (f, ps) = (inR f 1 10006 && (decide ((ps.length : Int) = n) && degOk ps)) := by
  unfold monoB
  rw [factor_in]
  cases degOk ps <;> cases decide (f = 0) <;> cases isNum f <;> cases decide ((ps.length : Int) = n) <;> rfl

set_option maxHeartbeats 4000000 in
theorem s_l13Is (w : World) (v : Value) (n : Int) (pss : List (List Mono)) (ha : FieldArg w v n pss) (hs : ∀ ms ∈ pss, ∀ m ∈ ms, m.2.length ≤ 4294967296) :
    Calls Tryz.prog 19 #[v] w fun e w' => e = .returned (.bool (fieldB n pss)) ∧ Below w.heap.size w w' := by
  obtain ⟨vp, rfl, hn64, hP⟩ := ha
  obtain ⟨A, c, rfl, l1, l2, h3⟩ := hP.open_
  have H3 := Lib.hid h3
  have HS := Lib.hid hs
  clear hP h3 hs
  have B0 := Lib.hid (below1 w (.cells #[.int .i64 n, .slice A pss.length c] 24))
  have K0 := Lib.hid (Blk.new w #[.int .i64 n, .slice A pss.length c] 24)
  go_enter Tryz.func19, Tryz.ntmps19
  cases hr : inR n 1 3 with
  | false =>
    have HF := Lib.hid (show fieldB n pss = false by simp [fieldB, hr])
    go_wp2_with (go_at_call 40; refine (s_l01In _ _ _ _).mono ?_; rintro e w' ⟨rfl, rfl⟩; rw [hr])
    go_ret
    exact ⟨ret_bool HF.out.symm, B0.out⟩
  | true =>
    have HR := Lib.hid hr
    by_cases hl : (pss.length : Int) = n
    · have hlb : ((pss.length : Int) != n) = false := by simp [hl]
      have HL := Lib.hid hl
      clear hl
      go_wp2_with (go_at_call 40; refine (s_l01In _ _ _ _).mono ?_; rintro e w' ⟨rfl, rfl⟩; rw [hr])
      generalize (w.alloc (.cells #[.int .i64 n, .slice A pss.length c] 24)) = w1 at B0 K0 ⊢
      go_loopw [3] (fun i wr => ∃ j : Nat, j ≤ pss.length ∧ i = .int .i64 j ∧ Hid (∀ i ms, i < j → pss[i]? = some ms → partB n ms = true) ∧ Blk wr w.heap.size 24 #[.int .i64 n, .slice A pss.length c] ∧ Below w.heap.size w wr) (fun i _ => pss.length - (intOf i).toNat)
      case atStart => exact ⟨0, Nat.zero_le _, rfl, fun i ms h => by omega, K0.out, B0.out⟩
      case round =>
        obtain ⟨j, hj, rfl, hI, hk0, hb⟩ := hrel
        clear K0 B0
        have KW := Lib.hid hk0
        have BW := Lib.hid hb
        have g1 : wr.cell? ⟨w.heap.size, 1, none⟩ = some (.slice A pss.length c) := KW.out.cell 1
        clear hk0 hb
        by_cases hlt : j < pss.length
        · obtain ⟨ad, u, ms, rfl, hm, hu, hc0⟩ := H3.out j hlt
          obtain ⟨A5, c5, rfl, p1, p2, hu3⟩ := hu.open_
          have HU := Lib.hid hu3
          have HM := Lib.hid hm
          have HSM := Lib.hid (HS.out ms (List.mem_of_getElem? hm))
          have HCJ := Lib.hid (show ∀ W : World, Below w.heap.size w W → W.cell? (ad.add j) = some (.slice A5 ms.length c5) from fun W hW => by rw [hW.cell (by rw [block_add]; have := World.block_lt_of_cell? w _ hc0; rwa [block_add] at this)]; exact hc0)
          have hji : (j : Int) < (pss.length : Int) := by omega
          clear hm hu hc0 hu3
          go_wp2_with fail
          clear g1
          obtain ⟨wo, rfl⟩ : ∃ wo : World, wo = wr := ⟨_, rfl⟩
          go_loopw [4] (fun i wi => ∃ k : Nat, k ≤ ms.length ∧ i = .int .i64 k ∧ Hid (∀ q, q < k → badAt n ms q = false) ∧ Blk wi w.heap.size 24 #[.int .i64 n, .slice (some ad) pss.length c] ∧ Below w.heap.size w wi) (fun i _ => ms.length - (intOf i).toNat)
          case atStart => exact ⟨0, Nat.zero_le _, rfl, fun q h => by omega, KW.out, BW.out⟩
          case round =>
            obtain ⟨k, hk, rfl, hJ, hk0, hb⟩ := hrel
            clear KW BW
            have KW := Lib.hid hk0
            have BW := Lib.hid hb
            clear hk0 hb
            have g1 : wr.cell? ⟨w.heap.size, 1, none⟩ = some (.slice (some ad) pss.length c) := KW.out.cell 1
            have gj : wr.cell? (ad.add j) = some (.slice A5 ms.length c5) := HCJ.out wr BW.out
            by_cases hlt2 : k < ms.length
            · obtain ⟨bm, om, m, um, rfl, hmk, hf64, hum, hcf, hcu⟩ := HU.out k hlt2
              obtain ⟨f, ps⟩ := m
              have hab : bm < w.heap.size := World.block_lt_of_cell? w _ hcf
              have q0 : wr.cell? ⟨bm, om + k * 2, none⟩ = some (.int .i64 f) := by rw [BW.out.cell (by exact hab)]; exact hcf
              have q1 : wr.cell? ⟨bm, om + k * 2 + 1, none⟩ = some um := by rw [BW.out.cell (by exact hab)]; exact hcu
              obtain ⟨Ap, cp, rfl, hp1, hp2, -⟩ := hum.open_
              simp only at hcu hum q1 hp1
              have HUM := Lib.hid hum
              have HGK := Lib.hid (show ms.getD k (0, []) = (f, ps) by simp [List.getD, hmk])
              have hpl := HSM.out (f, ps) (List.mem_of_getElem? hmk)
              simp only at hpl
              have hki : (k : Int) < (ms.length : Int) := by omega
              have kf : (wr.alloc (.cells #[.int .i64 f, .slice Ap ps.length cp] 44)).cell? ⟨w.heap.size, 0, none⟩ = some (.int .i64 n) := (KW.out.alloc (.cells #[.int .i64 f, .slice Ap ps.length cp] 44)).cell 0
              have HUW := Lib.hid (HUM.out.below (BW.out.alloc BW.out.size (.cells #[.int .i64 f, .slice Ap ps.length cp] 44)))
              have B2 := Lib.hid (BW.out.alloc BW.out.size (.cells #[.int .i64 f, .slice Ap ps.length cp] 44))
              have K2 := Lib.hid (KW.out.alloc (.cells #[.int .i64 f, .slice Ap ps.length cp] 44))
              clear hmk hf64 hum hcf hcu
              have bad : ∀ b : Bool, monoB n (f, ps) = false → partB n ms = false := fun _ h => partB_no hlt2 (by unfold badAt; rw [HGK.out, h]; rfl)
              have BAD := Lib.hid bad
              clear bad
              have FB := Lib.hid (show monoB n (f, ps) = false → fieldB n pss = false from fun h => by rw [fieldB, parts_no HM.out (BAD.out true h)]; simp)
              cases hin : inR f 1 10006 with
              | false =>
                have HFB := Lib.hid (FB.out (by rw [monoB_eq, hin]; rfl))
                go_wp2_with (first | (go_at_call 40; refine (s_l01In _ _ _ _).mono ?_; rintro e w' ⟨rfl, rfl⟩; rw [hin]) | (go_at_call 41; refine (s_l13Degree _ _ ps HUW.out hpl).mono ?_; rintro e w' ⟨rfl, rfl⟩))
                go_ret
                exact ⟨ret_bool HFB.out.symm, B2.out⟩
              | true =>
                by_cases hl2 : (ps.length : Int) = n
                · have hlb2 : ((ps.length : Int) != n) = false := by simp [hl2]
                  have HL2 := Lib.hid hl2
                  clear hl2
                  by_cases hd : 3 < degV ps
                  · have HFB := Lib.hid (FB.out (by rw [monoB_eq, ← degV_ok]; simp; omega))
                    go_wp2_with (first | (go_at_call 40; refine (s_l01In _ _ _ _).mono ?_; rintro e w' ⟨rfl, rfl⟩; rw [hin]) | (go_at_call 41; refine (s_l13Degree _ _ ps HUW.out hpl).mono ?_; rintro e w' ⟨rfl, rfl⟩))
                    go_ret
                    exact ⟨ret_bool HFB.out.symm, B2.out⟩
                  · have HMB := Lib.hid (show monoB n (f, ps) = true by rw [monoB_eq, ← degV_ok, hin]; simp; exact ⟨HL2.out, by omega⟩)
                    by_cases hk0 : k = 0
                    · subst hk0
                      simp only [Nat.zero_mul, Nat.add_zero] at q0 q1
                      have HGD := Lib.hid (show badAt n ms 0 = false by unfold badAt; rw [HGK.out, HMB.out]; simp)
                      go_wp2_with (first | (go_at_call 40; refine (s_l01In _ _ _ _).mono ?_; rintro e w' ⟨rfl, rfl⟩; rw [hin]) | (go_at_call 41; refine (s_l13Degree _ _ ps HUW.out hpl).mono ?_; rintro e w' ⟨rfl, rfl⟩))
                      go_quiet (fail)
                      clear kf q0 q1 g1 gj
                      go_wp2_with fail
                      go_roundw
                      case rel =>
                        refine ⟨1, by omega, by go_num, fun q hq => ?_, K2.out.drewN _, below_drewN B2.out _⟩
                        have : q = 0 := by omega
                        subst this
                        exact HGD.out
                      case measure => simp [intOf]; omega
                    · obtain ⟨bq, oq, mq, uq, he, hmq, -, huq, -, hcq⟩ := HU.out (k - 1) (by omega)
                      simp only [Option.some.injEq, Addr.mk.injEq, and_true] at he
                      obtain ⟨rfl, rfl⟩ := he
                      obtain ⟨fq, qs⟩ := mq
                      obtain ⟨Aq, cq, rfl, -, -, -⟩ := huq.open_
                      simp only at hcq huq
                      have HPQ := Lib.hid (huq.below B2.out)
                      have HGQ := Lib.hid (show ms.getD (k - 1) (0, []) = (fq, qs) by simp [List.getD, hmq])
                      have HBE := Lib.hid (show badAt n ms k = !lessL qs ps by unfold badAt; rw [HGK.out, HGQ.out, HMB.out]; simp; omega)
                      have pv : (wr.alloc (.cells #[.int .i64 f, .slice Ap ps.length cp] 44)).cell? ⟨bm, om + (k - 1) * 2 + 1, none⟩ = some (.slice Aq qs.length cq) := by rw [B2.out.cell (by exact hab)]; exact hcq
                      have g1' : (wr.alloc (.cells #[.int .i64 f, .slice Ap ps.length cp] 44)).cell? ⟨w.heap.size, 1, none⟩ = some (.slice (some ad) pss.length c) := K2.out.cell 1
                      have gj' : (wr.alloc (.cells #[.int .i64 f, .slice Ap ps.length cp] 44)).cell? (ad.add j) = some (.slice (some ⟨bm, om, none⟩) ms.length c5) := HCJ.out _ B2.out
                      have hkp : (0 : Int) < (k : Int) := by omega
                      have hkn : 0 < k := by omega
                      have hkn2 : decide (0 < k) = true := by simpa using hkn
                      have hkd : decide ((0 : Int) < (k : Int)) = true := by simpa using hkp
                      have hkw : IntKind.i64.wrap ((k : Int) - 1) = (k : Int) - 1 := IntWalk.i64_in _ (by omega)
                      have hk1 : ((k : Int) - 1).toNat = k - 1 := by omega
                      have hk2 : (0 : Int) ≤ (k : Int) - 1 := by omega
                      have hk3 : (k : Int) - 1 < (ms.length : Int) := by omega
                      clear hmq huq hcq
                      cases hle : lessL qs ps with
                      | true =>
                        have HGD := Lib.hid (show badAt n ms k = false by rw [HBE.out, hle]; rfl)
                        have LT : ∀ N, Calls Tryz.prog 42 #[.slice Aq qs.length cq, .slice Ap ps.length cp] ((wr.alloc (.cells #[.int .i64 f, .slice Ap ps.length cp] 44)).drewN N) fun e w'' => e = .returned (.bool true) ∧ ∃ m, w'' = (wr.alloc (.cells #[.int .i64 f, .slice Ap ps.length cp] 44)).drewN m := fun N => by have h := quiet_lessF (w := wr.alloc (.cells #[.int .i64 f, .slice Ap ps.length cp] 44)) (n := N) HPQ.out HUW.out; rwa [hle] at h
                        go_wp2_with (first | (go_at_call 40; refine (s_l01In _ _ _ _).mono ?_; rintro e w' ⟨rfl, rfl⟩; rw [hin]) | (go_at_call 41; refine (s_l13Degree _ _ ps HUW.out hpl).mono ?_; rintro e w' ⟨rfl, rfl⟩))
                        go_quiet ((go_at_call 42; exact LT _))
                        clear kf q0 q1 g1 gj pv g1' gj'
                        go_wp2_with fail
                        go_roundw
                        case rel =>
                          refine ⟨k + 1, by omega, by go_num, fun q hq => ?_, K2.out.drewN _, below_drewN B2.out _⟩
                          by_cases e : q = k
                          · subst e; exact HGD.out
                          · exact hJ.out q (by omega)
                        case measure => simp [intOf]; omega
                      | false =>
                        have HFB := Lib.hid (show fieldB n pss = false by rw [fieldB, parts_no HM.out (partB_no hlt2 (by rw [HBE.out, hle]; rfl))]; simp)
                        have LT : ∀ N, Calls Tryz.prog 42 #[.slice Aq qs.length cq, .slice Ap ps.length cp] ((wr.alloc (.cells #[.int .i64 f, .slice Ap ps.length cp] 44)).drewN N) fun e w'' => e = .returned (.bool false) ∧ ∃ m, w'' = (wr.alloc (.cells #[.int .i64 f, .slice Ap ps.length cp] 44)).drewN m := fun N => by have h := quiet_lessF (w := wr.alloc (.cells #[.int .i64 f, .slice Ap ps.length cp] 44)) (n := N) HPQ.out HUW.out; rwa [hle] at h
                        go_wp2_with (first | (go_at_call 40; refine (s_l01In _ _ _ _).mono ?_; rintro e w' ⟨rfl, rfl⟩; rw [hin]) | (go_at_call 41; refine (s_l13Degree _ _ ps HUW.out hpl).mono ?_; rintro e w' ⟨rfl, rfl⟩))
                        go_quiet ((go_at_call 42; exact LT _))
                        clear kf q0 q1 g1 gj pv g1' gj'
                        go_wp2_with fail
                        go_ret
                        exact ⟨ret_bool HFB.out.symm, below_drewN B2.out _⟩
                · have hlb2 : ((ps.length : Int) != n) = true := by simp [hl2]
                  have HFB := Lib.hid (FB.out (by rw [monoB_eq]; simp [hl2]))
                  go_wp2_with (first | (go_at_call 40; refine (s_l01In _ _ _ _).mono ?_; rintro e w' ⟨rfl, rfl⟩; rw [hin]) | (go_at_call 41; refine (s_l13Degree _ _ ps HUW.out hpl).mono ?_; rintro e w' ⟨rfl, rfl⟩))
                  go_ret
                  exact ⟨ret_bool HFB.out.symm, B2.out⟩
            · have : k = ms.length := by omega
              subst this
              have HPB := Lib.hid (partB_all hJ.out)
              go_wp2_with fail
              go_roundw
              case rel =>
                refine ⟨j + 1, by omega, by go_num, fun i xs hi hx => ?_, KW.out, BW.out⟩
                by_cases e : i = j
                · subst e
                  rw [HM.out] at hx
                  cases hx
                  exact HPB.out
                · exact hI.out i xs (by omega) hx
              case measure => simp [intOf]; omega
        · have : j = pss.length := by omega
          subst this
          have HF := Lib.hid (show fieldB n pss = true by simp [fieldB, HR.out, HL.out, parts_all hI.out])
          go_wp2_with fail
          go_ret
          exact ⟨ret_bool HF.out.symm, BW.out⟩
    · have hlb : ((pss.length : Int) != n) = true := by simp [hl]
      have HF := Lib.hid (show fieldB n pss = false by simp [fieldB, hl])
      go_wp2_with (go_at_call 40; refine (s_l01In _ _ _ _).mono ?_; rintro e w' ⟨rfl, rfl⟩; rw [hr])
      go_ret
      exact ⟨ret_bool HF.out.symm, B0.out⟩
end Go.Proofs.YtnnfjjadehgmeaaGreatDoor

set_option maxRecDepth 100000
set_option linter.unusedVariables false
set_option linter.unusedSimpArgs false
namespace Go.Proofs.YtnnfjjadehgmeaaGreatDoor
open Go.RowKit

theorem FieldArg.below {w w' : World} {v : Value} {n : Int} {pss : List (List Mono)} (h : FieldArg w v n pss) (hb : Below w.heap.size w w') : FieldArg w' v n pss := by
  obtain ⟨vp, rfl, h1, h2⟩ := h
  exact ⟨vp, rfl, h1, h2.below hb⟩

end Go.Proofs.YtnnfjjadehgmeaaGreatDoor

set_option maxRecDepth 100000
set_option linter.unusedVariables false
set_option linter.unusedSimpArgs false
namespace Go.Proofs.YtnnfjjadehgmeaaGreatDoor
open Go.RowKit

end Go.Proofs.YtnnfjjadehgmeaaGreatDoor

set_option maxRecDepth 100000
set_option linter.unusedVariables false
set_option linter.unusedSimpArgs false
namespace Go.Proofs.YtnnfjjadehgmeaaGreatDoor
open Go.RowKit

/-- a list of lists of monomials of one's own, in blocks that are there -/
def FdO (w : World) (B C : Nat) (u : Value) (r : List (List Mono)) : Prop := C ≤ w.heap.size ∧ PF w B C u r
section
variable {w w' : World} {B C B' C' : Nat} {u : Value} {r : List (List Mono)}
theorem FdO.below (h : FdO w B C u r) (hb : Below w.heap.size w w') : FdO w' B C u r := ⟨Nat.le_trans h.1 hb.size, h.2.agree (Same.of_below hb h.1)⟩
theorem FdO.kept (h : FdO w B C u r) (hc : Chg B' C' w w') (hd : C ≤ B' ∨ C' ≤ B) : FdO w' B C u r := ⟨Nat.le_trans h.1 hc.size, h.2.agree (Same.of_chg hc h.1 hd)⟩
theorem FdO.mrows (h : FdO w B C u r) : MRows w u r := h.2.mrows
end
end Go.Proofs.YtnnfjjadehgmeaaGreatDoor

set_option maxRecDepth 100000
set_option linter.unusedVariables false
set_option linter.unusedSimpArgs false
namespace Go.Proofs.YtnnfjjadehgmeaaGreatDoor
open Go.RowKit

def ftC (n : Int) (pss : List (List Mono)) : Int := if fieldB n pss then 0 else 1
def ftR (n : Int) (pss : List (List Mono)) : List UInt8 := if fieldB n pss then fldTx pss else []
set_option maxHeartbeats 1000000 in
theorem s_FieldText (w : World) (v : Value) (n : Int) (pss : List (List Mono)) (ha : FieldArg w v n pss) (hl : ∀ ms ∈ pss, ms.length ≤ 4294967296) (hs : ∀ ms ∈ pss, ∀ m ∈ ms, m.2.length ≤ 4294967296) :
    Calls Tryz.prog 13 #[v] w fun e w' => e = .returned (.tuple #[strB (ftR n pss), .int .i64 (ftC n pss)]) ∧ Below w.heap.size w w' := by
  have HA := Lib.hid ha
  obtain ⟨vp, rfl, h1, h2⟩ := ha
  have HL := Lib.hid hl
  have HS := Lib.hid hs
  clear hs hl h1 h2
  have B0 := Lib.hid (below1 w (.cells #[.int .i64 n, vp] 24))
  have K0 := Lib.hid (Blk.new w #[.int .i64 n, vp] 24)
  unfold ftR ftC
  cases hF : fieldB n pss with
  | false =>
    go_enter Tryz.func13, Tryz.ntmps13
    go_wp2_with (go_at_call 19; refine (s_l13Is _ _ n pss (HA.out.below B0.out) HS.out).mono ?_; rintro e w5 ⟨rfl, hb5⟩; rw [hF])
    go_ret2
    refine ⟨?_, B0.out.trans (hb5.mono B0.out.size)⟩
    rfl
  | true =>
    have HF := Lib.hid hF
    clear hF
    go_enter Tryz.func13, Tryz.ntmps13
    generalize hw1 : (w.alloc (.cells #[.int .i64 n, vp] 24)) = w1 at B0 K0
    go_upto_region 1 with fail
    first | rw [hw1] | skip
    clear hw1
    have k0 : w1.cell? ⟨w.heap.size, 0, none⟩ = some (.int .i64 n) := K0.out.cell 0
    have k1 : w1.cell? ⟨w.heap.size, 1, none⟩ = some vp := K0.out.cell 1
    go_upto_region 3 with (go_at_call 19; refine (s_l13Is _ _ n pss (HA.out.below B0.out) HS.out).mono ?_; rintro e w5 ⟨rfl, hb5⟩; rw [HF.out]; have HB5 := Lib.hid hb5; clear hb5)
    clear k0 k1
    have k0 : w5.cell? ⟨w.heap.size, 0, none⟩ = some (.int .i64 n) := (K0.out.below HB5.out K0.out.lt).cell 0
    have k1 : w5.cell? ⟨w.heap.size, 1, none⟩ = some vp := (K0.out.below HB5.out K0.out.lt).cell 1
    have HB6 := Lib.hid (B0.out.trans (HB5.out.mono B0.out.size))
    go_wp2_with (go_at_call 20; refine (s_l13Text _ _ n pss (HA.out.below HB6.out) HF.out HL.out).mono ?_; rintro e w6 ⟨rfl, hb6⟩)
    go_ret2
    exact ⟨rfl, HB6.out.trans (hb6.mono HB6.out.size)⟩
set_option maxHeartbeats 1000000 in
theorem i_FieldText (w : World) (v : Value) (n : Int) (pss : List (List Mono)) (ha : FieldArg w v n pss) (hl : ∀ ms ∈ pss, ms.length ≤ 4294967296) (hs : ∀ ms ∈ pss, ∀ m ∈ ms, m.2.length ≤ 4294967296) (ht : PowTab w) :
    Calls Tryz.prog 12 #[v] w fun e w' => e = .returned (.tuple #[strB (ftR n pss), .int .i64 (ftC n pss)]) ∧ Below w.heap.size w w' := by
  have HA := Lib.hid ha
  obtain ⟨vp, rfl, h1, h2⟩ := ha
  have HL := Lib.hid hl
  have HS := Lib.hid hs
  have HT := Lib.hid ht
  clear hs hl h1 h2 ht
  have B0 := Lib.hid (below1 w (.cells #[.int .i64 n, vp] 24))
  have K0 := Lib.hid (Blk.new w #[.int .i64 n, vp] 24)
  unfold ftR ftC
  cases hF : fieldB n pss with
  | false =>
    go_enter Tryz.func12, Tryz.ntmps12
    go_wp2_with (go_at_call 14; refine (i_IsField _ _ n pss (HA.out.below B0.out) HS.out).mono ?_; rintro e w5 ⟨rfl, hb5⟩; rw [hF])
    go_ret2
    refine ⟨?_, B0.out.trans (hb5.mono B0.out.size)⟩
    rfl
  | true =>
    have HF := Lib.hid hF
    clear hF
    go_enter Tryz.func12, Tryz.ntmps12
    generalize hw1 : (w.alloc (.cells #[.int .i64 n, vp] 24)) = w1 at B0 K0
    go_upto_region 1 with fail
    first | rw [hw1] | skip
    clear hw1
    have k0 : w1.cell? ⟨w.heap.size, 0, none⟩ = some (.int .i64 n) := K0.out.cell 0
    have k1 : w1.cell? ⟨w.heap.size, 1, none⟩ = some vp := K0.out.cell 1
    go_upto_region 3 with (go_at_call 14; refine (i_IsField _ _ n pss (HA.out.below B0.out) HS.out).mono ?_; rintro e w5 ⟨rfl, hb5⟩; rw [HF.out]; have HB5 := Lib.hid hb5; clear hb5)
    clear k0 k1
    have k0 : w5.cell? ⟨w.heap.size, 0, none⟩ = some (.int .i64 n) := (K0.out.below HB5.out K0.out.lt).cell 0
    have k1 : w5.cell? ⟨w.heap.size, 1, none⟩ = some vp := (K0.out.below HB5.out K0.out.lt).cell 1
    have HB6 := Lib.hid (B0.out.trans (HB5.out.mono B0.out.size))
    go_wp2_with (go_at_call 24; refine (i_fieldText _ _ n pss (HA.out.below HB6.out) HF.out HL.out (powTab_below HT.out HB6.out)).mono ?_; rintro e w6 ⟨rfl, hb6⟩)
    go_ret2
    exact ⟨rfl, HB6.out.trans (hb6.mono HB6.out.size)⟩
end Go.Proofs.YtnnfjjadehgmeaaGreatDoor

