/- Arguments that came in, opened to the words of the Mem text. | The law FnExactPartitionsOf, walked: it returns true. | Words: lists of structs that are stored into; equal ones in a list in order gathered with their numbers. No program in sight. | Walks: l03Before, l03Sort, l16Skeleton of the reference. -/
import Derived.Test.YtofabikjjkapmaaRows
import Derived.Test.YtofabikjjkapmaaPo1
import Derived.WalkKit
import Derived.ProofKit
import Derived.OpenShut
import Derived.Test.YtofabikjjkapmaaPo2
import Derived.Test.YtofabikjjkapmaaPo12
import Derived.WalkLawsBesides
import Derived.Deep.RegionHeld3
import Derived.Test.YtofabikjjkapmaaPo6
import Derived.Test.YtofabikjjkapmaaPo9
import Derived.Test.YtofabikjjkapmaaPo5
import Derived.Test.YtofabikjjkapmaaPo10
set_option maxRecDepth 100000
set_option linter.unusedVariables false
set_option linter.unusedSimpArgs false
namespace Go.Proofs.Ytofabikjjkapmaa
open Go.ChangeShapes Go.WideShapes Go.ChangeAt Go.RowKit

theorem in64_of_wf {z : Int} (h : (Lit.int .i64 z).wf = true) : In64 z := by
  simp [Lit.wf, IntKind.min, IntKind.max, IntKind.signed, IntKind.bits] at h
  unfold In64
  omega

theorem open_Ints {H : Type} {enc : TypeId × Value → H} {W : World} {base : Nat} {v : Value} {d : DataW H} {p : List MemPlace}
    (hv : Value.okWide Try.prog W .any base 34 v) (h : DataW.Trod enc Try.prog W 0 (fun _ => true) true 34 v d p) : ∃ zs, Ints W v zs := by
  obtain ⟨a, len, cap, rfl⟩ := okWide_slice Try.underlying34 hv
  obtain ⟨fuel, hf⟩ := h
  rcases open_ints Try.underlying34 Try.underlying2 (by kernel_rfl) hf with ⟨hcs, _⟩ | ⟨x, l, c, zs, hcs, _, hl, hm, hz, _, hcell, hwz⟩
  · simp [Value.cells] at hcs
    obtain ⟨rfl, rfl, rfl⟩ := hcs
    exact ⟨[], ⟨none, 0, rfl, by simp [ints], by simp [maxLen], fun k u hk => by simp [ints] at hk⟩, fun z hz => by simp at hz⟩
  · simp [Value.cells] at hcs
    obtain ⟨rfl, rfl, rfl⟩ := hcs
    have hz' : zs.length = cap := by simpa using hz
    have hlen : (ints (zs.take len)).length = len := by simp [ints]; omega
    refine ⟨zs.take len, ⟨some x, cap, by rw [hlen], by rw [hlen]; exact hl, hm, fun k u hk => ⟨x, rfl, ?_⟩⟩, fun z hz => in64_of_wf (hwz z (List.mem_of_mem_take hz))⟩
    have hk2 : k < (ints (zs.take len)).length := (List.getElem?_eq_some_iff.1 hk).1
    rw [hlen] at hk2
    rw [hcell k (by omega)]
    have e : (ints (zs.take len))[k]? = some (.int .i64 (zs.getD k 0)) := by
      simp [ints, List.getElem?_take, hk2, List.getD, show k < zs.length by omega]
    rw [e] at hk
    exact hk
end Go.Proofs.Ytofabikjjkapmaa

set_option linter.unusedVariables false
set_option linter.unusedSimpArgs false
namespace Go.Proofs.Ytofabikjjkapmaa
open Go.RowKit

set_option maxRecDepth 100000 in
set_option maxHeartbeats 8000000 in
theorem law_FnExactPartitionsOf_gen (w : World) (v0 : Value) (zs0 : List Int) (ha0 : Ints w v0 zs0) (r : List PV) (c : Int) (hR : zs0.length ≤ 1048576 → ptTot r ≤ 1048576)
    (hS : zs0.length ≤ 1048576 → ∀ (W : World) (v0 : Value), Ints W v0 zs0 → Calls Try.prog 14 #[v0] W fun e w' => ∃ u, e = .returned (.tuple #[u, .int .i64 c]) ∧ RdW w' W.heap.size w'.heap.size u r ∧ Below W.heap.size W w')
    (hI : zs0.length ≤ 1048576 → ∀ (W : World) (v0 : Value), Ints W v0 zs0 → Calls Try.prog 16 #[v0] W fun e w' => ∃ u, e = .returned (.tuple #[u, .int .i64 c]) ∧ OPt w' W.heap.size w'.heap.size u r ∧ Below W.heap.size W w') :
    Calls Try.prog 4 #[v0] w fun e w' => e = .returned (.bool true) ∧ Below w.heap.size w w' := by
  have B := Lib.hid (Below.refl w.heap.size w)
  have HS := Lib.hid hS
  have HI := Lib.hid hI
  clear hS hI
  have HR := Lib.hid hR
  clear hR
  have HA0 := Lib.hid ha0
  obtain ⟨A0, c0, rfl, -, -, -⟩ := ha0.open_
  clear ha0
  go_enter Try.func4, Try.ntmps4
  by_cases hbig0 : (1048576 : Int) < (zs0.length : Int)
  · go_wp2_with fail
    go_ret
    exact ⟨rfl, Below.refl _ _⟩
  have hsm0 : zs0.length ≤ 1048576 := by omega
  go_wp2_with fail
  have HS := Lib.hid (HS.out hsm0)
  have HI := Lib.hid (HI.out hsm0)
  have HR := Lib.hid (HR.out hsm0)
  refine (n_to_ints _ _ zs0 (HA0.out.below B.out) (by omega)).mono ?_
  rintro e w1 ⟨xT0, rfl, hT0, b2⟩
  have Z3 := Lib.hid (b2.size)
  have NB := Lib.hid (B.out.trans (b2.mono B.out.size))
  clear B
  have B := NB
  clear NB
  clear b2
  have T0 := Lib.hid hT0
  clear hT0
  go_wp2_with fail
  refine (HS.out _ _ T0.out.ints).mono ?_
  rintro e w4 ⟨xW, rfl, hW, b5⟩
  have Z6 := Lib.hid (b5.size)
  have NT0 := Lib.hid (T0.out.below b5)
  clear T0
  have T0 := NT0
  clear NT0
  have NB := Lib.hid (B.out.trans (b5.mono B.out.size))
  clear B
  have B := NB
  clear NB
  clear b5
  have W := Lib.hid hW
  clear hW
  clear T0
  go_wp2_with fail
  refine (n_to_ints _ _ zs0 (HA0.out.below B.out) (by omega)).mono ?_
  rintro e w7 ⟨xX0, rfl, hX0, b8⟩
  have Z9 := Lib.hid (b8.size)
  have NW := Lib.hid (W.out.below b8)
  clear W
  have W := NW
  clear NW
  have NB := Lib.hid (B.out.trans (b8.mono B.out.size))
  clear B
  have B := NB
  clear NB
  clear b8
  have X0 := Lib.hid hX0
  clear hX0
  go_wp2_with fail
  refine (HI.out _ _ X0.out.ints).mono ?_
  rintro e w10 ⟨xG, rfl, hG, b11⟩
  have Z12 := Lib.hid (b11.size)
  have NW := Lib.hid (W.out.below b11)
  clear W
  have W := NW
  clear NW
  have NX0 := Lib.hid (X0.out.below b11)
  clear X0
  have X0 := NX0
  clear NX0
  have NB := Lib.hid (B.out.trans (b11.mono B.out.size))
  clear B
  have B := NB
  clear NB
  clear b11
  have G := Lib.hid hG
  clear hG
  go_wp2_with fail
  refine (n_eq_parts _ _ _ r G.out.rd W.out.rd).mono ?_
  rintro e w13 ⟨rfl, b14⟩
  have Z15 := Lib.hid (b14.size)
  have NW := Lib.hid (W.out.below b14)
  clear W
  have W := NW
  clear NW
  have NX0 := Lib.hid (X0.out.below b14)
  clear X0
  have X0 := NX0
  clear NX0
  have NG := Lib.hid (G.out.below b14)
  clear G
  have G := NG
  clear NG
  have NB := Lib.hid (B.out.trans (b14.mono B.out.size))
  clear B
  have B := NB
  clear NB
  clear b14
  go_wp2_with fail
  refine (n_to_ints _ _ zs0 (HA0.out.below B.out) (by omega)).mono ?_
  rintro e w16 ⟨xY0, rfl, hY0, b17⟩
  have Z18 := Lib.hid (b17.size)
  have NW := Lib.hid (W.out.below b17)
  clear W
  have W := NW
  clear NW
  have NX0 := Lib.hid (X0.out.below b17)
  clear X0
  have X0 := NX0
  clear NX0
  have NG := Lib.hid (G.out.below b17)
  clear G
  have G := NG
  clear NG
  have NB := Lib.hid (B.out.trans (b17.mono B.out.size))
  clear B
  have B := NB
  clear NB
  clear b17
  have Y0 := Lib.hid hY0
  clear hY0
  go_wp2_with fail
  refine (n_eq_ints _ _ _ zs0 X0.out.ints Y0.out.ints).mono ?_
  rintro e w19 ⟨rfl, b20⟩
  have Z21 := Lib.hid (b20.size)
  have NW := Lib.hid (W.out.below b20)
  clear W
  have W := NW
  clear NW
  have NX0 := Lib.hid (X0.out.below b20)
  clear X0
  have X0 := NX0
  clear NX0
  have NG := Lib.hid (G.out.below b20)
  clear G
  have G := NG
  clear NG
  have NY0 := Lib.hid (Y0.out.below b20)
  clear Y0
  have Y0 := NY0
  clear NY0
  have NB := Lib.hid (B.out.trans (b20.mono B.out.size))
  clear B
  have B := NB
  clear NB
  clear b20
  clear Y0
  go_wp2_with fail
  refine (n_mark_ints _ _ _ _ zs0 (1) X0.out (by omega) (by omega) (by omega)).mono ?_
  rintro e w22 ⟨rfl, -, chw22⟩
  have Z23 := Lib.hid (chw22.size)
  have NW := Lib.hid (W.out.kept chw22 (by have y0 := Z3.out; have y1 := Z6.out; have y2 := Z9.out; have y3 := Z12.out; have y4 := Z15.out; have y5 := Z18.out; have y6 := Z21.out; have y7 := Z23.out; omega))
  clear W
  have W := NW
  clear NW
  have NG := Lib.hid (G.out.kept chw22 (by have y0 := Z3.out; have y1 := Z6.out; have y2 := Z9.out; have y3 := Z12.out; have y4 := Z15.out; have y5 := Z18.out; have y6 := Z21.out; have y7 := Z23.out; omega))
  clear G
  have G := NG
  clear NG
  clear X0
  have NB := Lib.hid (chw22.below B.out (by have y0 := Z3.out; have y1 := Z6.out; have y2 := Z9.out; have y3 := Z12.out; have y4 := Z15.out; have y5 := Z18.out; have y6 := Z21.out; have y7 := Z23.out; omega) B.out.size)
  clear B
  have B := NB
  clear NB
  clear chw22
  have hk0 : (0 : Int) ≤ 1 + (zs0.length : Int) := by omega
  go_wp2_with fail
  clear hk0
  refine (n_eq_parts _ _ _ r G.out.rd W.out.rd).mono ?_
  rintro e w24 ⟨rfl, b25⟩
  have Z26 := Lib.hid (b25.size)
  have NW := Lib.hid (W.out.below b25)
  clear W
  have W := NW
  clear NW
  have NG := Lib.hid (G.out.below b25)
  clear G
  have G := NG
  clear NG
  have NB := Lib.hid (B.out.trans (b25.mono B.out.size))
  clear B
  have B := NB
  clear NB
  clear b25
  go_wp2_with fail
  have hr0 : (0 : Int) ≤ 1 + ((ptTot r : Nat) : Int) := by omega
  refine (n_mark_parts _ _ _ _ r 1 G.out (by have y := HR.out; omega) (by omega) (by omega)).mono ?_
  rintro e w27 ⟨rfl, hw27, chw27⟩
  have Z28 := Lib.hid (chw27.size)
  have NW := Lib.hid (W.out.kept chw27 (by have y0 := Z3.out; have y1 := Z6.out; have y2 := Z9.out; have y3 := Z12.out; have y4 := Z15.out; have y5 := Z18.out; have y6 := Z21.out; have y7 := Z23.out; have y8 := Z26.out; have y9 := Z28.out; omega))
  clear W
  have W := NW
  clear NW
  have NG := Lib.hid (hw27)
  clear G
  have G := NG
  clear NG
  have NB := Lib.hid (chw27.below B.out (by have y0 := Z3.out; have y1 := Z6.out; have y2 := Z9.out; have y3 := Z12.out; have y4 := Z15.out; have y5 := Z18.out; have y6 := Z21.out; have y7 := Z23.out; have y8 := Z26.out; have y9 := Z28.out; omega) B.out.size)
  clear B
  have B := NB
  clear NB
  clear hw27 chw27
  go_wp2_with fail
  refine (n_held_parts _ _ r G.out.rd (by have y := HR.out; omega)).mono ?_
  rintro e w29 ⟨rfl, b30⟩
  have Z31 := Lib.hid (b30.size)
  have NW := Lib.hid (W.out.below b30)
  clear W
  have W := NW
  clear NW
  have NG := Lib.hid (G.out.below b30)
  clear G
  have G := NG
  clear NG
  have NB := Lib.hid (B.out.trans (b30.mono B.out.size))
  clear B
  have B := NB
  clear NB
  clear b30
  go_wp2_with fail
  refine (n_to_ints _ _ zs0 (HA0.out.below B.out) (by omega)).mono ?_
  rintro e w32 ⟨xV0, rfl, hV0, b33⟩
  have Z34 := Lib.hid (b33.size)
  have NW := Lib.hid (W.out.below b33)
  clear W
  have W := NW
  clear NW
  have NG := Lib.hid (G.out.below b33)
  clear G
  have G := NG
  clear NG
  have NB := Lib.hid (B.out.trans (b33.mono B.out.size))
  clear B
  have B := NB
  clear NB
  clear b33
  have V0 := Lib.hid hV0
  clear hV0
  go_wp2_with fail
  refine (HI.out _ _ V0.out.ints).mono ?_
  rintro e w35 ⟨xH, rfl, hH, b36⟩
  have Z37 := Lib.hid (b36.size)
  have NW := Lib.hid (W.out.below b36)
  clear W
  have W := NW
  clear NW
  have NG := Lib.hid (G.out.below b36)
  clear G
  have G := NG
  clear NG
  have NV0 := Lib.hid (V0.out.below b36)
  clear V0
  have V0 := NV0
  clear NV0
  have NB := Lib.hid (B.out.trans (b36.mono B.out.size))
  clear B
  have B := NB
  clear NB
  clear b36
  have H := Lib.hid hH
  clear hH
  clear V0
  go_wp2_with fail
  refine (n_eq_parts _ _ _ r H.out.rd W.out.rd).mono ?_
  rintro e w38 ⟨rfl, b39⟩
  have Z40 := Lib.hid (b39.size)
  have NW := Lib.hid (W.out.below b39)
  clear W
  have W := NW
  clear NW
  have NG := Lib.hid (G.out.below b39)
  clear G
  have G := NG
  clear NG
  have NH := Lib.hid (H.out.below b39)
  clear H
  have H := NH
  clear NH
  have NB := Lib.hid (B.out.trans (b39.mono B.out.size))
  clear B
  have B := NB
  clear NB
  clear b39
  go_wp2_with fail
  refine (n_held_parts _ _ r G.out.rd (by have y := HR.out; omega)).mono ?_
  rintro e w41 ⟨rfl, b42⟩
  have Z43 := Lib.hid (b42.size)
  have NW := Lib.hid (W.out.below b42)
  clear W
  have W := NW
  clear NW
  have NG := Lib.hid (G.out.below b42)
  clear G
  have G := NG
  clear NG
  have NH := Lib.hid (H.out.below b42)
  clear H
  have H := NH
  clear NH
  have NB := Lib.hid (B.out.trans (b42.mono B.out.size))
  clear B
  have B := NB
  clear NB
  clear b42
  go_wp2_with fail
  go_ret
  exact ⟨rfl, B.out⟩

end Go.Proofs.Ytofabikjjkapmaa

set_option maxRecDepth 100000
set_option linter.unusedVariables false
set_option linter.unusedSimpArgs false
namespace Go.Proofs.Ytofabikjjkapmaa
open Go.RowKit

theorem keepCellG {w w' : World} {ad : Addr} {v : Value} (hb : Below w.heap.size w w') (h : w.cell? ad = some v) : w'.cell? ad = some v := by rw [hb.cell (World.block_lt_of_cell? w _ h)]; exact h
theorem below_growE (w : World) (os : Array Obj) : Below w.heap.size w (Go.Sort.grow w os) := ⟨rfl, rfl, rfl, by simp [Go.Sort.grow], fun k hk => Go.Sort.heap_grow_old _ _ hk⟩
/-- equal ones once, with their numbers: one more -/
def grpS {α : Type} (cmp : α → α → Int) (out : List (α × Nat)) (s : α) : List (α × Nat) := match out.getLast? with
  | none => [(s, 1)]
  | some (r, n) => if cmp r s = 0 then out.set (out.length - 1) (r, n + 1) else out ++ [(s, 1)]
def grpL {α : Type} (cmp : α → α → Int) (l : List α) : List (α × Nat) := l.foldl (grpS cmp) []
theorem grpL_snoc {α : Type} (cmp : α → α → Int) (l : List α) (s : α) : grpL cmp (l ++ [s]) = grpS cmp (grpL cmp l) s := by simp [grpL]
theorem grpS_last {α : Type} {cmp : α → α → Int} {out : List (α × Nat)} {s r : α} {n m : Nat} (h : out.length = m + 1) (hr : out[m]? = some (r, n)) : grpS cmp out s = if cmp r s = 0 then out.set m (r, n + 1) else out ++ [(s, 1)] := by
  unfold grpS
  rw [List.getLast?_eq_getElem?, h, Nat.add_sub_cancel, hr]
/-- is the last one equal? -/
def lastEq {α : Type} (cmp : α → α → Int) (L : List (α × Nat)) (y : α) : Bool := match L.getLast? with
  | none => false
  | some (r, _) => decide (cmp r y = 0)
theorem grp_false {α : Type} {cmp : α → α → Int} {L : List (α × Nat)} {y : α} (h : lastEq cmp L y = false) : grpS cmp L y = L ++ [(y, 1)] := by
  unfold grpS
  unfold lastEq at h
  cases hl : L.getLast? with
  | none => rw [List.getLast?_eq_none_iff.1 hl]; rfl
  | some x =>
    obtain ⟨r, n⟩ := x
    rw [hl] at h
    simp only at h ⊢
    rw [if_neg (of_decide_eq_false h)]
theorem grp_true {α : Type} {cmp : α → α → Int} {L : List (α × Nat)} {y : α} (h : lastEq cmp L y = true) : ∃ m r n, L.length = m + 1 ∧ L[m]? = some (r, n) ∧ grpS cmp L y = L.set m (r, n + 1) := by
  unfold lastEq at h
  cases hl : L.getLast? with
  | none => rw [hl] at h; cases h
  | some x =>
    obtain ⟨r, n⟩ := x
    rw [hl] at h
    have hne : L ≠ [] := fun e => by rw [e] at hl; cases hl
    have hpos : 0 < L.length := List.length_pos_iff.2 hne
    refine ⟨L.length - 1, r, n, by omega, by rw [← List.getLast?_eq_getElem?]; exact hl, ?_⟩
    unfold grpS
    rw [hl]
    simp only
    rw [if_pos (of_decide_eq_true h)]
theorem grpS_len {α : Type} (cmp : α → α → Int) (out : List (α × Nat)) (s : α) : (grpS cmp out s).length ≤ out.length + 1 := by
  unfold grpS
  split
  · simp
  · split <;> simp
theorem grpL_len {α : Type} (cmp : α → α → Int) (l : List α) : ∀ k, k ≤ l.length → (grpL cmp (l.take k)).length ≤ k ∧ ∀ x ∈ grpL cmp (l.take k), x.2 ≤ k := by
  intro k
  induction k with
  | zero => intro _; simp [grpL]
  | succ k ih =>
    intro hk
    have ih := ih (by omega)
    rw [List.take_add_one, List.getElem?_eq_getElem (by omega)]
    show (grpL cmp (l.take k ++ [l[k]])).length ≤ k + 1 ∧ ∀ x ∈ grpL cmp (l.take k ++ [l[k]]), x.2 ≤ k + 1
    rw [grpL_snoc]
    refine ⟨by have := grpS_len cmp (grpL cmp (l.take k)) l[k]; omega, fun x hx => ?_⟩
    unfold grpS at hx
    split at hx
    · simp at hx; subst hx; simp
    · rename_i r n hl
      have hn := ih.2 _ (List.mem_of_getLast? hl)
      split at hx
      · rcases List.mem_or_eq_of_mem_set hx with hx | hx
        · have := ih.2 x hx; omega
        · subst hx; simp at hn ⊢; omega
      · rcases List.mem_append.1 hx with hx | hx
        · have := ih.2 x hx; omega
        · simp at hx; subst hx; simp
end Go.Proofs.Ytofabikjjkapmaa

set_option maxRecDepth 100000
set_option linter.unusedVariables false
set_option linter.unusedSimpArgs false
namespace Go.Proofs.Ytofabikjjkapmaa
open Go.RowKit

theorem s_l03Before (w : World) (v v' : Value) (a b : List Nat) (ha : Ints w v (up a)) (hb : Ints w v' (up b)) :
    Calls Try.prog 82 #[v, v'] w fun e w' => e = .returned (.bool (befN a b)) ∧ ∃ n, w' = w.drewN n := by
  have HA := Lib.hid ha
  have HB := Lib.hid hb
  obtain ⟨A, c, rfl, -, -, -⟩ := ha.open_
  obtain ⟨A', c', rfl, -, -, -⟩ := hb.open_
  rw [up_len] at HA ⊢
  rw [up_len] at HB ⊢
  clear ha hb
  by_cases h : a.length = b.length
  · have HE := Lib.hid (show befN a b = ltN b a by rw [befN, h, Nat.beq_refl]; rfl)
    rw [HE.out]
    have hd : ((a.length : Int) != (b.length : Int)) = false := by simp [h]
    clear h
    go_enter Try.func82, Try.ntmps82
    go_wp2_with (go_at_call 56; refine (s_l01Less _ _ _ (up b) (up a) HB.out HA.out).mono ?_; rintro e w1 ⟨rfl, n, rfl⟩; rw [lessL_up])
    go_ret
    exact ⟨rfl, _, rfl⟩
  · have HE := Lib.hid (show befN a b = decide ((a.length : Int) < (b.length : Int)) by
      have hb : Nat.beq a.length b.length = false := by
        cases hb : Nat.beq a.length b.length with
        | true => exact absurd (Nat.eq_of_beq_eq_true hb) h
        | false => rfl
      rw [befN, hb]
      simp only [cond_false]
      by_cases h2 : a.length < b.length
      · rw [(blt_iff _ _).2 h2]; exact (decide_eq_true (by omega)).symm
      · have : Nat.blt a.length b.length = false := by
          cases hh : Nat.blt a.length b.length with
          | true => exact absurd ((blt_iff _ _).1 hh) h2
          | false => rfl
        rw [this]; exact (decide_eq_false (by omega)).symm)
    rw [HE.out]
    have hd : ((a.length : Int) != (b.length : Int)) = true := by simp; omega
    clear h
    go_enter Try.func82, Try.ntmps82
    go_wp2_with fail
    all_goals (go_ret; exact ⟨ret_bool (by first | rfl | simp_all | (simp; omega)), 0, rfl⟩)

/-- what lies before a node's tops -/
def skF (t : List Nat) (m : Nat) (i : Nat) : Nat := 1 + wayN t m 9 (parN t (t.getD i 0) i)
def skTo (t : List Nat) (m : Nat) (n : Nat) : List Nat := 0 :: (cutsN m n 1).map (skF t m)
theorem cutsN_succ (m : Nat) : ∀ (n i : Nat), cutsN m (n + 1) i = cutsN m n i ++ (if m.testBit (i + n) then [i + n] else [])
  | 0, i => by
    rw [cutsN, cutsN]
    cases m.testBit i <;> simp [cutsN, *]
  | n + 1, i => by
    rw [cutsN, cutsN_succ m n (i + 1), cutsN]
    rw [show i + 1 + n = i + (n + 1) by omega]
    cases m.testBit i <;> simp
theorem skTo_succ (t : List Nat) (m n : Nat) : skTo t m (n + 1) = skTo t m n ++ (if m.testBit (n + 1) then [skF t m (n + 1)] else []) := by
  unfold skTo
  rw [cutsN_succ, Nat.add_comm 1 n]
  cases m.testBit (n + 1) <;> simp
theorem wayN_le (t : List Nat) (m : Nat) : ∀ (f q : Nat), wayN t m f q ≤ f
  | 0, q => by rw [wayN]; exact Nat.le_refl _
  | f + 1, 0 => by rw [wayN]; omega
  | f + 1, 1 => by rw [wayN]; omega
  | f + 1, k + 2 => by
    rw [wayN]
    have := wayN_le t m f (parN t (t.getD (k + 1) 0) (k + 1))
    cases m.testBit (k + 1) <;> simp only [cond_true, cond_false] <;> omega

theorem bit64 (m j : Nat) (hm : m < 256) : (bits BinOp.and IntKind.i64 ((m : Int) / 2 ^ j) 1 == 0) = !m.testBit j ∧ (bits BinOp.and IntKind.i64 ((m : Int) / 2 ^ j) 1 == 1) = m.testBit j := by
  rw [cut_bit m j hm]
  cases m.testBit j <;> simp

set_option maxHeartbeats 4000000 in
theorem s_l16Skeleton (w : World) (v : Value) (t : List Nat) (m : Nat) (r : List Nat) (ha : Ints w v (up t)) (h8 : t.length ≤ 8) (h0 : 0 < t.length) (hm : m < 256) (hl : ∀ l ∈ t, l ≤ 1000000) (hr : canO 9 (sklN t m) = some r) :
    Calls Try.prog 53 #[v, .int .i64 m] w fun e w' => ∃ x, e = .returned x ∧ OwnInts w' w.heap.size tI x (up r) ∧ Below w.heap.size w w' := by
  have HA := Lib.hid ha
  have HL := Lib.hid hl
  have HR := Lib.hid hr
  have HM := Lib.hid hm
  obtain ⟨A, c, rfl, l1, l2, -⟩ := ha.open_
  rw [up_len] at l1 HA ⊢
  have OL := Lib.hid (show OwnInts (w.alloc (.cells #[.int .i64 0] tI)) w.heap.size tI (.slice (some ⟨w.heap.size, 0, none⟩) 1 1) (up (skTo t m 0)) from ⟨own_lit w tI [.int .i64 0] (by simp [maxLen]), fun z hz => by simp [skTo, cutsN, up] at hz; subst hz; unfold In64; omega⟩)
  clear ha hl hr hm
  go_enter Try.func53, Try.ntmps53
  go_wp2_with fail
  go_loopw [5, 6] (fun o x wr => ∃ i : Nat, i + 1 ≤ t.length ∧ x = .int .i64 ((i : Int) + 1) ∧ OwnInts wr w.heap.size tI o (up (skTo t m i)) ∧ Below w.heap.size w wr) (fun _ x _ => t.length - (intOf x).toNat)
  case atStart => exact ⟨0, by omega, rfl, OL.out, below1 _ _⟩
  case round =>
    obtain ⟨i, hi, rfl, ho, hb⟩ := hrel
    clear OL
    have HO := Lib.hid ho
    have HB := Lib.hid hb
    clear ho hb
    by_cases hlt : i + 1 < t.length
    · have hii : (i : Int) + 1 < (t.length : Int) := by omega
      have hi0 : (0 : Int) ≤ (i : Int) + 1 := by omega
      have hi64 : (i : Int) + 1 ≤ 64 := by omega
      have hwu : IntKind.u64.wrap ((i : Int) + 1) = (i : Int) + 1 := IntWalk.u64_in _ (by omega)
      have HSK := Lib.hid (skTo_succ t m i)
      obtain ⟨hb0, hb1⟩ := bit64 m (i + 1) HM.out
      have htn : ((i : Int) + 1).toNat = i + 1 := by omega
      have hw1 : IntKind.i64.wrap ((i : Int) + 1 + 1) = (i : Int) + 1 + 1 := IntWalk.i64_in _ (by omega)
      cases hbt : m.testBit (i + 1) with
      | false =>
        rw [hbt] at hb0 hb1
        have HBT := Lib.hid hbt
        clear hbt
        simp only [Bool.not_false] at hb0
        go_wp2_with fail
        go_roundw
        case rel =>
          refine ⟨i + 1, by omega, by go_num, ?_, HB.out⟩
          rw [HSK.out, HBT.out]
          simpa using HO.out
        case measure => simp [intOf]; omega
      | true =>
        rw [hbt] at hb0 hb1
        have HBT := Lib.hid hbt
        clear hbt
        simp only [Bool.not_true] at hb0
        have hp1 := fun W (h : Ints W (.slice A t.length c) (up t)) => s_l16Parent W _ t (i + 1) h hlt HL.out
        have hpl := parN_le t (t.getD (i + 1) 0) (i + 1)
        have hf : skF t m (i + 1) = 1 + wayN t m 9 (parN t (t.getD (i + 1) 0) (i + 1)) := rfl
        generalize parN t (t.getD (i + 1) 0) (i + 1) = p0 at hp1 hpl hf
        have HSF := Lib.hid (show skF t m (i + 1) ≤ 10 from by rw [hf]; have := wayN_le t m 9 p0; omega)
        generalize skF t m (i + 1) = tot at hf HSF HSK
        have HP1 := Lib.hid hp1
        have HPL := Lib.hid hpl
        have HF := Lib.hid (show 1 + wayN t m 9 p0 = tot from hf.symm)
        clear hp1 hpl hf
        go_wp2_with (go_at_call 81; refine (HP1.out _ (HA.out.below HB.out)).mono ?_; rintro e w2 ⟨rfl, n2, rfl⟩)
        obtain ⟨wo, rfl⟩ : ∃ wo : World, wo = wr := ⟨_, rfl⟩
        go_loopw [7, 8] (fun lv x wi => ∃ q f lev n : Nat, x = .int .i64 ((q : Int) - 1) ∧ lv = .int .i64 lev ∧ q ≤ f ∧ q ≤ i + 1 ∧ f ≤ 9 ∧ lev ≤ 10 ∧ Hid (lev + wayN t m f q = tot) ∧ wi = wo.drewN n) (fun _ x _ => (intOf x + 1).toNat)
        case atStart => exact ⟨p0, 9, 1, n2, rfl, rfl, by have := HPL.out; omega, HPL.out, Nat.le_refl _, by omega, HF.out, rfl⟩
        case round =>
          obtain ⟨q, f, lev, n, rfl, rfl, hqf, hqi, hf9, hl10, HT, rfl⟩ := hrel
          by_cases hq2 : 2 ≤ q
          · obtain ⟨k, rfl⟩ : ∃ k, q = k + 2 := ⟨q - 2, by omega⟩
            obtain ⟨f', rfl⟩ : ∃ f', f = f' + 1 := ⟨f - 1, by omega⟩
            have hk1 : ((k + 2 : Nat) : Int) - 1 = (k : Int) + 1 := by omega
            rw [hk1]
            have hkp : (0 : Int) < (k : Int) + 1 := by omega
            have hk64 : (k : Int) + 1 ≤ 64 := by omega
            have hk0 : (0 : Int) ≤ (k : Int) + 1 := by omega
            have hwk : IntKind.u64.wrap ((k : Int) + 1) = (k : Int) + 1 := IntWalk.u64_in _ (by omega)
            have hkn : ((k : Int) + 1).toNat = k + 1 := by omega
            have hkt : k + 1 < t.length := by omega
            have hp2 := fun W (h : Ints W (.slice A t.length c) (up t)) => s_l16Parent W _ t (k + 1) h hkt HL.out
            have hpl2 := parN_le t (t.getD (k + 1) 0) (k + 1)
            obtain ⟨hc0, hc1⟩ := bit64 m (k + 1) HM.out
            have ht2 := HT.out
            rw [wayN] at ht2
            generalize parN t (t.getD (k + 1) 0) (k + 1) = p2 at hp2 hpl2 ht2
            have HP2 := Lib.hid hp2
            have HPL2 := Lib.hid hpl2
            have HT2 := Lib.hid ht2
            clear hp2 hpl2 ht2
            clear hk1 HT
            cases hbk : m.testBit (k + 1) with
            | false =>
              rw [hbk] at hc0 hc1 HT2
              simp only [cond_false, Nat.zero_add] at HT2
              clear hbk hc0 hb0 hb1
              go_wp2_with (go_at_call 81; refine (HP2.out _ ((HA.out.below HB.out).drewN n)).mono ?_; rintro e w3 ⟨rfl, n3, rfl⟩)
              go_roundw
              case rel => exact ⟨p2, f', lev, n + n3, rfl, rfl, by have := HPL2.out; omega, by have := HPL2.out; omega, by omega, hl10, HT2.out, rfl⟩
              case measure => have := HPL2.out; simp [intOf]; omega
            | true =>
              rw [hbk] at hc0 hc1 HT2
              simp only [cond_true] at HT2
              have hwl : IntKind.i64.wrap ((lev : Int) + 1) = (lev : Int) + 1 := IntWalk.i64_in _ (by omega)
              have hl9 : lev + 1 ≤ 10 := by have h1 := HT2.out; have h2 := HSF.out; omega
              clear hbk hc0 hb0 hb1
              go_wp2_with (go_at_call 81; refine (HP2.out _ ((HA.out.below HB.out).drewN n)).mono ?_; rintro e w3 ⟨rfl, n3, rfl⟩)
              go_roundw
              case rel => exact ⟨p2, f', lev + 1, n + n3, rfl, by go_num, by have := HPL2.out; omega, by have := HPL2.out; omega, by omega, hl9, by have h1 := HT2.out; show lev + 1 + _ = _; omega, rfl⟩
              case measure => have := HPL2.out; simp [intOf]; omega
          · have HLV := Lib.hid (show lev = tot from by
              have h1 := HT.out
              have h2 : wayN t m f q = 0 := by
                have : q = 0 ∨ q = 1 := by omega
                cases f with
                | zero => rfl
                | succ f => rcases this with rfl | rfl <;> rfl
              omega)
            have hkp : ¬ ((0 : Int) < (q : Int) - 1) := by omega
            have hl64 : In64 (lev : Int) := by unfold In64; omega
            have hlen : (skTo t m i).length ≤ 1000 := by
              unfold skTo
              have : ∀ n i, (cutsN m n i).length ≤ n := by
                intro n
                induction n with
                | zero => intro i; exact Nat.le_refl _
                | succ n ih => intro i; rw [cutsN]; cases m.testBit i <;> simp <;> have := ih (i + 1) <;> omega
              have := this i 1
              simp; omega
            clear HT hb0 hb1
            go_wp2_with (at_builtin; refine wpList_app1 T_int (B := w.heap.size) (HO.out.1.drewN n) (by rw [ints_len, up_len]; omega) (show w.heap.size ≤ (wo.drewN n).heap.size from HB.out.size) (by rfl) rfl (by rfl) (by rfl) (by rfl) ?_; intro v1 w5 hown1 hgr1; have HN1 := Lib.hid hown1; have HB5 := Lib.hid (hgr1.below (below_drewN HB.out n) (show w.heap.size ≤ (wo.drewN n).heap.size from HB.out.size) HO.out.1.ge); clear hown1 hgr1)
            go_roundw
            case rel =>
              refine ⟨i + 1, by omega, by go_num, ?_, HB5.out⟩
              rw [HSK.out, HBT.out, if_pos rfl, up_append]
              have e : up [tot] = [(lev : Int)] := by rw [← HLV.out]; rfl
              rw [e]
              exact ⟨by simpa [ints] using HN1.out, fun y hy => by rcases List.mem_append.1 hy with hy | hy; exact HO.out.2 y hy; simp at hy; subst hy; exact hl64⟩
            case measure => simp [intOf]; omega
    · have hin : i = t.length - 1 := by omega
      have HE := Lib.hid (show skTo t m i = sklN t m from by rw [hin]; rfl)
      rw [HE.out] at HO
      have HKL := Lib.hid (show (sklN t m).length ≤ 8 ∧ ∀ l ∈ sklN t m, l ≤ 1000000 from by
        refine ⟨?_, fun l hl => ?_⟩
        · have : ∀ n i, (cutsN m n i).length ≤ n := by
            intro n
            induction n with
            | zero => intro i; exact Nat.le_refl _
            | succ n ih => intro i; rw [cutsN]; cases m.testBit i <;> simp <;> have := ih (i + 1) <;> omega
          have := this (t.length - 1) 1
          unfold sklN
          simp; omega
        · unfold sklN at hl
          rcases List.mem_cons.1 hl with rfl | hl
          · omega
          · obtain ⟨x, hx, rfl⟩ := List.mem_map.1 hl
            have := wayN_le t m 9 (parN t (t.getD x 0) x)
            omega)
      have hlt' : ¬ ((i : Int) + 1 < (t.length : Int)) := by omega
      obtain ⟨A5, c5, ho5, -, -, -⟩ := HO.out.ints.open_
      rw [up_len] at ho5
      subst ho5
      clear hin
      go_wp2_with (go_at_call 34; refine (s_l03Canon 9 _ _ (sklN t m) r HO.out.ints HR.out (by have := HKL.out.1; omega) HKL.out.2).mono ?_; rintro e w6 ⟨x6, rfl, hx6, hb6⟩; have HX6 := Lib.hid hx6; have HB6 := Lib.hid hb6; clear hx6 hb6)
      go_ret
      exact ⟨_, rfl, HX6.out.mono HB.out.size, HB.out.trans (HB6.out.mono HB.out.size)⟩
end Go.Proofs.Ytofabikjjkapmaa

