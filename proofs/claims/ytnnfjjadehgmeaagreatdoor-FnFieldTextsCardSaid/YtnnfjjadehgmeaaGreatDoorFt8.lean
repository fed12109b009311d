/- Walk of the program: ParseNumber. | The walks of the laws' small functions over lists of lists and tableaus. | The laws' helper: a monomial made anew. | Owned lists of monomials: two cells an element. The laws' helper that makes them anew. | Owned fields. The laws' helpers that make them anew. | The laws' helpers: the sizes of monomials. | The laws' helpers: the sizes of fields. |  | The laws' marking of fields. | Plain: owned lists of monomials (any capacity), and lists of them whose parts lie in intervals apart. No walk. | Scaling a list: plain words, and append as a step of a region that draws. -/
import Derived.Test.YtnnfjjadehgmeaaGreatDoorFt7
import Derived.Deep.CutRange
import Derived.Deep.CutBlock
import Derived.Test.YtnnfjjadehgmeaaGreatDoorRows
import Derived.Test.YtnnfjjadehgmeaaGreatDoorFt1
import Derived.Test.YtnnfjjadehgmeaaGreatDoorFt2
import Derived.WalkLawsBesides
import Derived.Deep.QuietTactic
import Derived.BigQuiet
import Derived.Test.YtnnfjjadehgmeaaGreatDoorFt3
import Derived.Laws.MakeOwn
import Derived.Test.YtnnfjjadehgmeaaGreatDoorFt4
import Derived.Deep.RegionHeld3
import Derived.Deep.RegionLaw
set_option maxRecDepth 100000
set_option linter.unusedVariables false
set_option linter.unusedSimpArgs false
namespace Go.Proofs.YtnnfjjadehgmeaaGreatDoor
open Go.RowKit

theorem lib_CutPrefix (l : List UInt8) (w : World) :
    Calls Tryz.prog 68 #[strB l, .string ⟨#[45]⟩] w fun e w' => e = .returned (.tuple #[strB (Lib.trimPrefix l [45]), .bool (Lib.hasPrefix l [45])]) ∧ w = w' :=
  (Any.strings_CutPrefix Tryz.lays103 ⟨l.toArray⟩ ⟨#[45]⟩ w).mono fun e w' ⟨he, hw⟩ => ⟨he, hw.symm⟩
theorem lib_Cut (b : UInt8) (l : List UInt8) (w : World) (hl : l.length ≤ 4294967000) (h : LibOK w) :
    Calls Tryz.prog 46 #[strB l, .string ⟨#[b]⟩] w fun e w' => e = .returned (.tuple #[strB (cutB b l).1, strB (cutB b l).2.1, .bool (cutB b l).2.2]) ∧ ∃ n, w' = w.drewN n := by
  obtain ⟨m, hm⟩ := h.mx
  exact Any.strings_Cut Tryz.lays145 ⟨l.toArray⟩ ⟨#[b]⟩ m w (by show l.toArray.size < 4294967281; simp; omega) hm
theorem trim_len (l : List UInt8) : (Lib.trimPrefix l [45]).length ≤ l.length := by
  unfold Lib.trimPrefix
  split <;> simp
set_option maxHeartbeats 4000000 in
theorem i_ParseNumber (w : World) (l : List UInt8) (hl : l.length ≤ 4294967000) (h : LibOK w) :
    Calls Tryz.prog 47 #[strB l] w fun e w' => e = .returned (.tuple #[.int .i64 (pnF l).1, .int .i64 (pnF l).2]) ∧ Below w.heap.size w w' := by
  have HL := Lib.hid h
  have HCP := Lib.hid (fun W => lib_CutPrefix l W)
  have hpn : pnF l = if (rdB (cutB 47 (Lib.trimPrefix l [45])).1).2 = false ∨ (if (cutB 47 (Lib.trimPrefix l [45])).2.2 then rdB (cutB 47 (Lib.trimPrefix l [45])).2.1 else (1, true)).2 = false ∨ (if (cutB 47 (Lib.trimPrefix l [45])).2.2 then rdB (cutB 47 (Lib.trimPrefix l [45])).2.1 else (1, true)).1 < 1 ∨ (Lib.hasPrefix l [45] = true ∧ (rdB (cutB 47 (Lib.trimPrefix l [45])).1).1 = 0) then (0, 6)
    else if (if (cutB 47 (Lib.trimPrefix l [45])).2.2 then rdB (cutB 47 (Lib.trimPrefix l [45])).2.1 else (1, true)).1 % 10007 = 0 then (0, 5)
    else (nofR (if Lib.hasPrefix l [45] = true then -(rdB (cutB 47 (Lib.trimPrefix l [45])).1).1 else (rdB (cutB 47 (Lib.trimPrefix l [45])).1).1) (if (cutB 47 (Lib.trimPrefix l [45])).2.2 then rdB (cutB 47 (Lib.trimPrefix l [45])).2.1 else (1, true)).1, 0) := rfl
  have hbl := trim_len l
  generalize Lib.trimPrefix l [45] = B at hpn hbl HCP
  generalize Lib.hasPrefix l [45] = neg at hpn HCP
  have hcl := cutB_len 47 B
  have HCU := Lib.hid (fun W (hW : LibOK W) => lib_Cut 47 B W (by omega) hW)
  generalize cutB 47 B = cu at hpn hcl HCU
  obtain ⟨a, b, d⟩ := cu
  simp only at hpn hcl HCU
  have hab := rdB_bd a
  have hbb := rdB_bd b
  have HRA := Lib.hid (fun W (hW : LibOK W) => i_readDecimal W a (by omega) hW)
  have HRB := Lib.hid (fun W (hW : LibOK W) => i_readDecimal W b (by omega) hW)
  generalize rdB a = ra at hpn hab HRA
  generalize rdB b = rb at hpn hbb HRB
  obtain ⟨P, one⟩ := ra
  obtain ⟨Qb, tb⟩ := rb
  simp only at hpn hab hbb HRA HRB
  obtain ⟨Q, hQ⟩ : ∃ Q, Q = (if d = true then (Qb, tb) else (1, true)).1 := ⟨_, rfl⟩
  obtain ⟨two, h2⟩ : ∃ t, t = (if d = true then (Qb, tb) else (1, true)).2 := ⟨_, rfl⟩
  rw [← hQ, ← h2] at hpn
  have hQb : 0 ≤ Q ∧ Q < 1000000000 := by rw [hQ]; split <;> omega
  obtain ⟨PN, hPN⟩ : ∃ PN, PN = pnF l := ⟨_, rfl⟩
  rw [← hPN] at hpn ⊢
  have HPN := Lib.hid hpn
  have HQ := Lib.hid hQ
  have H2 := Lib.hid h2
  clear hpn hPN hQ h2 hcl h
  go_enter Tryz.func47, Tryz.ntmps47
  go_upto_if 29 with (first
    | (go_at_call 68; refine (HCP.out _).mono ?_; rintro e w1 ⟨rfl, rfl⟩)
    | (go_at_call 46; refine (HCU.out _ (by exact HL.out)).mono ?_; rintro e w2 ⟨rfl, n2, rfl⟩)
    | (go_at_call 69; refine (HRA.out _ (by exact HL.out.below (below_drewN (Below.refl _ _) _))).mono ?_; rintro e w3 ⟨rfl, hb3⟩; have HB3 := Lib.hid (show Below w.heap.size w w3 from (below_drewN (Below.refl _ _) _).trans hb3); clear hb3))
  go_cut [11, 12] from 13 to 59 (fun x y wx => x = .int .i64 Q ∧ y = .bool two ∧ Below w.heap.size w wx)
  case first =>
    cases d with
    | true =>
      have HQ1 := Lib.hid (show Q = Qb by rw [HQ.out]; rfl)
      have H21 := Lib.hid (show two = tb by rw [H2.out]; rfl)
      go_wp2_with (go_at_call 69; refine (HRB.out _ (by exact HL.out.below HB3.out)).mono ?_; rintro e w4 ⟨rfl, hb4⟩)
      go_meet
      exact ⟨by rw [HQ1.out], by rw [H21.out], HB3.out.trans (hb4.mono HB3.out.size)⟩
    | false =>
      have HQ1 := Lib.hid (show Q = 1 by rw [HQ.out]; rfl)
      have H21 := Lib.hid (show two = true by rw [H2.out]; rfl)
      go_wp2_with fail
      go_meet
      exact ⟨by rw [HQ1.out], by rw [H21.out], HB3.out⟩
  case rest =>
    obtain ⟨rfl, rfl, hb5⟩ := hcut
    rename World => w5
    have HB5 := Lib.hid hb5
    clear hb5 HB3 HRA HRB HCU HCP
    cases hone : one with
    | false =>
      have HE := Lib.hid (show PN = (0, 6) by rw [HPN.out, hone, if_pos (.inl rfl)])
      clear hone
      go_wp2_with fail
      go_ret2
      exact ⟨by rw [HE.out]; rfl, HB5.out⟩
    | true =>
      cases htwo : two with
      | false =>
        have HE := Lib.hid (show PN = (0, 6) by rw [HPN.out, htwo, if_pos (.inr (.inl rfl))])
        clear hone htwo
        go_wp2_with fail
        go_ret2
        exact ⟨by rw [HE.out]; rfl, HB5.out⟩
      | true =>
        by_cases c3 : Q < 1
        · have HE := Lib.hid (show PN = (0, 6) by rw [HPN.out, if_pos (.inr (.inr (.inl c3)))])
          clear hone htwo
          go_wp2_with fail
          go_ret2
          exact ⟨by rw [HE.out]; rfl, HB5.out⟩
        · cases hneg : neg with
          | true =>
            by_cases c4 : P = 0
            · have HE := Lib.hid (show PN = (0, 6) by rw [HPN.out, if_pos (.inr (.inr (.inr ⟨hneg, c4⟩)))])
              have hpb : (P == 0) = true := by simpa using c4
              clear hone htwo hneg c4
              go_wp2_with fail
              go_ret2
              exact ⟨by rw [HE.out]; rfl, HB5.out⟩
            · have HE := Lib.hid (show PN = ((if Q % 10007 = 0 then 0 else nofR (-P) Q), (if Q % 10007 = 0 then 5 else 0)) by
                rw [HPN.out, if_neg (fun h => h.elim (fun h => by rw [hone] at h; cases h) fun h => h.elim (fun h => by rw [htwo] at h; cases h) fun h => h.elim c3 fun h => c4 h.2), hneg]
                by_cases hq : Q % 10007 = 0
                · rw [if_pos hq, if_pos hq, if_pos hq]
                · rw [if_neg hq, if_neg hq, if_neg hq]; rfl)
              have hpb : (P == 0) = false := by simpa using c4
              have HNO := Lib.hid (fun W => i_NumberOf (-P) Q W (by omega) (by omega) (by omega) (by omega))
              obtain ⟨X, hX⟩ : ∃ X, X = (if Q % 10007 = 0 then 0 else nofR (-P) Q) := ⟨_, rfl⟩
              obtain ⟨Y, hY⟩ : ∃ Y, Y = (if Q % 10007 = 0 then (5 : Int) else 0) := ⟨_, rfl⟩
              rw [← hX, ← hY] at HE HNO
              clear hX hY
              clear hone htwo hneg c4
              go_wp2_with (go_at_call 70; refine (HNO.out _).mono ?_; rintro e w6 ⟨rfl, rfl⟩)
              go_ret2
              exact ⟨by rw [HE.out]; rfl, HB5.out⟩
          | false =>
            have HE := Lib.hid (show PN = ((if Q % 10007 = 0 then 0 else nofR P Q), (if Q % 10007 = 0 then 5 else 0)) by
              rw [HPN.out, if_neg (fun h => h.elim (fun h => by rw [hone] at h; cases h) fun h => h.elim (fun h => by rw [htwo] at h; cases h) fun h => h.elim c3 fun h => by rw [hneg] at h; cases h.1), hneg]
              by_cases hq : Q % 10007 = 0
              · rw [if_pos hq, if_pos hq, if_pos hq]
              · rw [if_neg hq, if_neg hq, if_neg hq]; rfl)
            have HNO := Lib.hid (fun W => i_NumberOf P Q W (by omega) (by omega) (by omega) (by omega))
            obtain ⟨X, hX⟩ : ∃ X, X = (if Q % 10007 = 0 then 0 else nofR P Q) := ⟨_, rfl⟩
            obtain ⟨Y, hY⟩ : ∃ Y, Y = (if Q % 10007 = 0 then (5 : Int) else 0) := ⟨_, rfl⟩
            rw [← hX, ← hY] at HE HNO
            clear hX hY
            clear hone htwo hneg
            go_wp2_with (go_at_call 70; refine (HNO.out _).mono ?_; rintro e w6 ⟨rfl, rfl⟩)
            go_ret2
            exact ⟨by rw [HE.out]; rfl, HB5.out⟩
end Go.Proofs.YtnnfjjadehgmeaaGreatDoor

set_option linter.unusedVariables false
set_option linter.unusedSimpArgs false
namespace Go.Proofs.YtnnfjjadehgmeaaGreatDoor
open Go.RowKit

abbrev tI : TypeId := 2
abbrev tL : TypeId := 42

/-- a tableau that came in -/
def TabArg (w : World) (v : Value) (A : List (List Int)) (Bs : List Int) : Prop := ∃ va vb, v = .agg #[va, vb] ∧ Rows w va A ∧ Ints w vb Bs
/-- an owned tableau: the rows, the row of rows and the weights lie in blocks of their own -/
def OT (w : World) (B C : Nat) (v : Value) (A : List (List Int)) (Bs : List Int) : Prop :=
  ∃ va vb vs, v = .agg #[va, vb] ∧ Own w B tL va vs ∧ (∀ b, va.ownBlock = some b → b < C) ∧ RowsOwn w B C tI vs A ∧ OI w B C tI vb Bs ∧ ∀ (k : Nat) (u : Value), vs[k]? = some u → Apart u vb

section
variable {w w' : World} {B C B' C' : Nat} {v : Value} {A : List (List Int)} {Bs : List Int}
theorem TabArg.below (h : TabArg w v A Bs) (hb : Below w.heap.size w w') : TabArg w' v A Bs := by
  obtain ⟨va, vb, rfl, h1, h2⟩ := h
  exact ⟨va, vb, rfl, h1.below hb, h2.below hb⟩
theorem TabArg.drewN (h : TabArg w v A Bs) (n : Nat) : TabArg (w.drewN n) v A Bs := h
theorem OT.arg (h : OT w B C v A Bs) : TabArg w v A Bs := by
  obtain ⟨va, vb, vs, rfl, h1, h2, h3, h4, h5⟩ := h
  exact ⟨va, vb, rfl, OR.rows ⟨vs, h1, h2, h3⟩, h4.ints⟩
theorem OT.below (h : OT w B C v A Bs) (hb : Below w.heap.size w w') : OT w' B C v A Bs := by
  obtain ⟨va, vb, vs, rfl, h1, h2, h3, h4, h5⟩ := h
  exact ⟨va, vb, vs, rfl, h1.below hb, h2, h3.below hb, h4.below hb, h5⟩
theorem OT.drewN (h : OT w B C v A Bs) (n : Nat) : OT (w.drewN n) B C v A Bs := h
theorem OT.kept (h : OT w B C v A Bs) (hc : Chg B' C' w w') (hd : C ≤ B' ∨ C' ≤ B) : OT w' B C v A Bs := by
  obtain ⟨va, vb, vs, rfl, h1, h2, h3, h4, h5⟩ := h
  exact ⟨va, vb, vs, rfl, h1.of_block fun b hb => hc.block b (h1.lt b hb) (by have := h1.ge b hb; have := h2 b hb; omega), h2, h3.kept hc hd, h4.kept hc hd, h5⟩
theorem OT.mono (h : OT w B C v A Bs) (h1 : B' ≤ B) (h2 : C ≤ C') : OT w B' C' v A Bs := by
  obtain ⟨va, vb, vs, rfl, g1, g2, g3, g4, g5⟩ := h
  exact ⟨va, vb, vs, rfl, g1.mono h1, fun b hb => Nat.lt_of_lt_of_le (g2 b hb) h2, g3.mono h1 h2, g4.mono h1 h2, g5⟩
theorem RowsOwn.apart {M : Nat} {vs : List Value} {u' : Value} {e : TypeId} (h : RowsOwn w B C e vs A) (hu : ∀ b, u'.ownBlock = some b → C ≤ b ∨ b < B) : ∀ (k : Nat) (u : Value), vs[k]? = some u → Apart u u' := by
  intro k u hk
  have hx : A[k]? = some (A[k]'(by rw [← h.1]; exact (List.getElem?_eq_some_iff.1 hk).1)) := List.getElem?_eq_getElem _
  have ho := h.2.1 k u _ hk hx
  unfold Apart
  cases hb : u.ownBlock with
  | none => exact .inl rfl
  | some b =>
    refine .inr fun e => ?_
    have h1 := ho.2 b hb
    have h2 := ho.1.1.ge b hb
    have h3 := hu b e.symm
    omega
end

theorem OT.open_ {w : World} {B C : Nat} {v : Value} {A : List (List Int)} {Bs : List Int} (h : OT w B C v A Bs) : ∃ Aa ca Ab cb, v = .agg #[.slice Aa A.length ca, .slice Ab Bs.length cb] := by
  obtain ⟨va, vb, rfl, h1, h2⟩ := h.arg
  obtain ⟨Aa, ca, rfl, _⟩ := h1.open_
  obtain ⟨Ab, cb, rfl, _⟩ := h2.open_
  exact ⟨_, _, _, _, rfl⟩
theorem TabArg.open_ {w : World} {v : Value} {A : List (List Int)} {Bs : List Int} (h : TabArg w v A Bs) : ∃ Aa ca Ab cb, v = .agg #[.slice Aa A.length ca, .slice Ab Bs.length cb] := by
  obtain ⟨va, vb, rfl, h1, h2⟩ := h
  obtain ⟨Aa, ca, rfl, _⟩ := h1.open_
  obtain ⟨Ab, cb, rfl, _⟩ := h2.open_
  exact ⟨_, _, _, _, rfl⟩
end Go.Proofs.YtnnfjjadehgmeaaGreatDoor

set_option maxRecDepth 100000
set_option linter.unusedVariables false
set_option linter.unusedSimpArgs false
namespace Go.Proofs.YtnnfjjadehgmeaaGreatDoor
open Go.RowKit

end Go.Proofs.YtnnfjjadehgmeaaGreatDoor

set_option maxRecDepth 100000
set_option linter.unusedVariables false
set_option linter.unusedSimpArgs false
namespace Go.Proofs.YtnnfjjadehgmeaaGreatDoor
open Go.RowKit

abbrev tM : TypeId := 44
abbrev tMs : TypeId := 39

/-- block g has room for n monomials, and holds the first ones, whose powers lie at us -/
def MBlk (w : World) (g n : Nat) (ms : List Mono) (us : List Value) : Prop :=
  ∃ cs : Array Value, Blk w g tM cs ∧ cs.size = n * 2 ∧ ∀ (i : Nat) (m : Mono) (u : Value), ms[i]? = some m → us[i]? = some u → cs[i * 2]? = some (.int .i64 m.1) ∧ cs[i * 2 + 1]? = some u

section
variable {w w' : World} {g n B C B' C' : Nat} {ms : List Mono} {us : List Value} {v : Value}
theorem MBlk.lt (h : MBlk w g n ms us) : g < w.heap.size := by obtain ⟨cs, h1, -, -⟩ := h; exact h1.lt
theorem MBlk.of_block (h : MBlk w g n ms us) (hb : w'.heap[g]? = w.heap[g]?) : MBlk w' g n ms us := by
  obtain ⟨cs, h1, h2, h3⟩ := h
  exact ⟨cs, hb.trans h1, h2, h3⟩
theorem MBlk.below (h : MBlk w g n ms us) (hb : Below w.heap.size w w') : MBlk w' g n ms us := h.of_block (hb.block g h.lt)
theorem MBlk.room (h : MBlk w g n ms us) {k : Nat} (hk : k < n) : (∃ u, w.cell? ⟨g, k * 2, none⟩ = some u) ∧ (∃ u, w.cell? ⟨g, k * 2 + 1, none⟩ = some u) ∧ w.frozen? ⟨g, k * 2, none⟩ = false ∧ w.frozen? ⟨g, k * 2 + 1, none⟩ = false := by
  obtain ⟨cs, h1, h2, h3⟩ := h
  refine ⟨⟨cs[k * 2]'(by omega), ?_⟩, ⟨cs[k * 2 + 1]'(by omega), ?_⟩, h1.frozen _, h1.frozen _⟩
  · rw [h1.cell]; exact Array.getElem?_eq_getElem _
  · rw [h1.cell]; exact Array.getElem?_eq_getElem _
theorem MBlk.next (h : MBlk w g n ms us) (hu : us.length = ms.length) (hk : ms.length < n) (m : Mono) (u : Value) :
    MBlk ((w.setCell ⟨g, ms.length * 2, none⟩ (.int .i64 m.1)).setCell ⟨g, ms.length * 2 + 1, none⟩ u) g n (ms ++ [m]) (us ++ [u]) := by
  obtain ⟨cs, h1, h2, h3⟩ := h
  refine ⟨(cs.setIfInBounds (ms.length * 2) (.int .i64 m.1)).setIfInBounds (ms.length * 2 + 1) u, (h1.set_ _ _).set_ _ _, by simpa using h2, fun i m' u' hm hu' => ?_⟩
  have hi := (List.getElem?_eq_some_iff.1 hm).1
  simp only [List.length_append, List.length_singleton] at hi
  by_cases hlt : i < ms.length
  · rw [List.getElem?_append_left hlt] at hm
    rw [List.getElem?_append_left (by omega)] at hu'
    obtain ⟨a, b⟩ := h3 i m' u' hm hu'
    rw [Array.getElem?_setIfInBounds_ne (by omega), Array.getElem?_setIfInBounds_ne (by omega), Array.getElem?_setIfInBounds_ne (by omega), Array.getElem?_setIfInBounds_ne (by omega)]
    exact ⟨a, b⟩
  · have : i = ms.length := by omega
    subst this
    rw [List.getElem?_append_right (Nat.le_refl _)] at hm
    rw [List.getElem?_append_right (by omega), hu] at hu'
    simp at hm hu'
    subst hm; subst hu'
    rw [Array.getElem?_setIfInBounds_ne (by omega), Array.getElem?_setIfInBounds_self_of_lt (by omega), Array.getElem?_setIfInBounds_self_of_lt (by simp; omega)]
    exact ⟨rfl, rfl⟩
theorem MBlk.new (w : World) (z : Array Value) (n : Nat) : MBlk (w.alloc (.cells (madeCells z (n * 2)) tM)) w.heap.size n [] [] :=
  ⟨_, Blk.new w _ tM, size_madeCells _ _, fun i m u h => by simp at h⟩

/-- an owned list of monomials -/
def OM (w : World) (B C : Nat) (v : Value) (ms : List Mono) : Prop :=
  ∃ (g : Nat) (us : List Value), v = .slice (some ⟨g, 0, none⟩) ms.length ms.length ∧ B ≤ g ∧ g < C ∧ MBlk w g ms.length ms us ∧ us.length = ms.length ∧ RowsOwn w B C tI us (ms.map (·.2)) ∧ ms.length ≤ maxLen ∧ ∀ m ∈ ms, In64 m.1
theorem OM.below (h : OM w B C v ms) (hb : Below w.heap.size w w') : OM w' B C v ms := by
  obtain ⟨g, us, rfl, h1, h2, h3, h4, h5, h6, h7⟩ := h
  exact ⟨g, us, rfl, h1, h2, h3.below hb, h4, h5.below hb, h6, h7⟩
theorem OM.mono (h : OM w B C v ms) (h1 : B' ≤ B) (h2 : C ≤ C') : OM w B' C' v ms := by
  obtain ⟨g, us, rfl, a1, a2, a3, a4, a5, a6, a7⟩ := h
  exact ⟨g, us, rfl, by omega, by omega, a3, a4, a5.mono h1 h2, a6, a7⟩
theorem OM.kept (h : OM w B C v ms) (hc : Chg B' C' w w') (hd : C ≤ B' ∨ C' ≤ B) : OM w' B C v ms := by
  obtain ⟨g, us, rfl, a1, a2, a3, a4, a5, a6, a7⟩ := h
  exact ⟨g, us, rfl, a1, a2, a3.of_block (hc.block g a3.lt (by omega)), a4, a5.kept hc hd, a6, a7⟩
theorem OM.monos (h : OM w B C v ms) : Monos w v ms := by
  obtain ⟨g, us, rfl, a1, a2, ⟨cs, b1, b2, b3⟩, a4, a5, a6, a7⟩ := h
  refine ⟨_, _, rfl, Nat.le_refl _, a6, fun k m hm => ?_⟩
  have hk := (List.getElem?_eq_some_iff.1 hm).1
  have hu : us[k]? = some (us[k]'(by omega)) := List.getElem?_eq_getElem _
  obtain ⟨c1, c2⟩ := b3 k m _ hm hu
  refine ⟨g, 0, _, rfl, a7 m (List.mem_of_getElem? hm), (a5.2.1 k _ m.2 hu (by simp [hm])).ints, ?_, ?_⟩
  · rw [b1.cell, ← c1]; simp
  · rw [b1.cell, ← c2]; simp
end

end Go.Proofs.YtnnfjjadehgmeaaGreatDoor

set_option maxRecDepth 100000
set_option linter.unusedVariables false
set_option linter.unusedSimpArgs false
namespace Go.Proofs.YtnnfjjadehgmeaaGreatDoor
open Go.RowKit

/-- owned lists of monomials, one behind the other -/
def OMF (w : World) : Nat → Nat → List Value → List (List Mono) → Prop
  | B, C, [], [] => B ≤ C
  | B, C, v :: vs, ms :: pss => ∃ M, OM w B M v ms ∧ OMF w M C vs pss
  | _, _, _, _ => False

section
variable {w w' : World} {v : Value} {ms : List Mono}
theorem OM.lt {B C : Nat} (h : OM w B C v ms) : B < C := by obtain ⟨g, us, _, h1, h2, _⟩ := h; omega
theorem OM.le {B C : Nat} (h : OM w B C v ms) : ∀ b, v.ownBlock = some b → B ≤ b ∧ b < C := by
  obtain ⟨g, us, rfl, h1, h2, _⟩ := h
  intro b hb
  simp [Value.ownBlock] at hb
  omega
theorem OMF.le : ∀ {B C : Nat} {vs : List Value} {pss : List (List Mono)}, OMF w B C vs pss → B ≤ C
  | B, C, [], [], h => h
  | B, C, v :: vs, ms :: pss, ⟨M, h1, h2⟩ => by have := h1.lt; have := h2.le; omega
  | B, C, [], ms :: pss, h => h.elim
  | B, C, v :: vs, [], h => h.elim
theorem OMF.len : ∀ {B C : Nat} {vs : List Value} {pss : List (List Mono)}, OMF w B C vs pss → vs.length = pss.length
  | B, C, [], [], h => rfl
  | B, C, v :: vs, ms :: pss, ⟨M, h1, h2⟩ => by simp [h2.len]
  | B, C, [], ms :: pss, h => h.elim
  | B, C, v :: vs, [], h => h.elim
theorem OMF.imp {P : Nat → Nat → Prop} (hf : ∀ B C v ms, P B C → OM w B C v ms → OM w' B C v ms) (hp : ∀ B C M, P B C → B ≤ M → M ≤ C → P B M ∧ P M C) : ∀ {B C : Nat} {vs : List Value} {pss : List (List Mono)}, P B C → OMF w B C vs pss → OMF w' B C vs pss
  | B, C, [], [], _, h => h
  | B, C, v :: vs, ms :: pss, hB, ⟨M, h1, h2⟩ => by
    obtain ⟨a, b⟩ := hp B C M hB (Nat.le_of_lt h1.lt) h2.le
    exact ⟨M, hf _ _ _ _ a h1, h2.imp hf hp b⟩
  | B, C, [], ms :: pss, _, h => h.elim
  | B, C, v :: vs, [], _, h => h.elim
theorem OMF.below {B C : Nat} {vs : List Value} {pss : List (List Mono)} (h : OMF w B C vs pss) (hb : Below w.heap.size w w') : OMF w' B C vs pss :=
  h.imp (P := fun _ _ => True) (fun _ _ _ _ _ h => h.below hb) (fun _ _ _ _ _ _ => ⟨trivial, trivial⟩) trivial
theorem OMF.kept {B C B' C' : Nat} {vs : List Value} {pss : List (List Mono)} (h : OMF w B C vs pss) (hc : Chg B' C' w w') (hd : C ≤ B' ∨ C' ≤ B) : OMF w' B C vs pss :=
  h.imp (P := fun B C => C ≤ B' ∨ C' ≤ B) (fun _ _ _ _ hd h => h.kept hc hd) (fun B C M hd h1 h2 => ⟨by omega, by omega⟩) hd
theorem OMF.snoc : ∀ {B C D : Nat} {vs : List Value} {pss : List (List Mono)}, OMF w B C vs pss → OM w C D v ms → OMF w B D (vs ++ [v]) (pss ++ [ms])
  | B, C, D, [], [], h, h' => ⟨D, h'.mono h (Nat.le_refl _), Nat.le_refl _⟩
  | B, C, D, u :: vs, ns :: pss, ⟨M, h1, h2⟩, h' => ⟨M, h1, h2.snoc h'⟩
  | B, C, D, [], ns :: pss, h, _ => h.elim
  | B, C, D, u :: vs, [], h, _ => h.elim
theorem OMF.widen : ∀ {B C D : Nat} {vs : List Value} {pss : List (List Mono)}, OMF w B C vs pss → C ≤ D → OMF w B D vs pss
  | B, C, D, [], [], h, h' => Nat.le_trans h h'
  | B, C, D, u :: vs, ns :: pss, ⟨M, h1, h2⟩, h' => ⟨M, h1, h2.widen h'⟩
  | B, C, D, [], ns :: pss, h, _ => h.elim
  | B, C, D, u :: vs, [], h, _ => h.elim
theorem OMF.get : ∀ {B C : Nat} {vs : List Value} {pss : List (List Mono)}, OMF w B C vs pss → ∀ (k : Nat) (u : Value) (ms : List Mono), vs[k]? = some u → pss[k]? = some ms → ∃ lo hi, B ≤ lo ∧ hi ≤ C ∧ OM w lo hi u ms
  | B, C, [], [], h, k, u, ms, hu, _ => by simp at hu
  | B, C, v :: vs, ns :: pss, ⟨M, h1, h2⟩, 0, u, ms, hu, hm => by simp at hu hm; subst hu; subst hm; exact ⟨B, M, Nat.le_refl _, h2.le, h1⟩
  | B, C, v :: vs, ns :: pss, ⟨M, h1, h2⟩, k + 1, u, ms, hu, hm => by
    obtain ⟨lo, hi, a, b, c⟩ := h2.get k u ms (by simpa using hu) (by simpa using hm)
    have := h1.lt
    exact ⟨lo, hi, by omega, b, c⟩
  | B, C, [], ns :: pss, h, _, _, _, _, _ => h.elim
  | B, C, u :: vs, [], h, _, _, _, _, _ => h.elim

/-- an owned list of lists of monomials -/
def OF (w : World) (B C : Nat) (v : Value) (pss : List (List Mono)) : Prop :=
  ∃ vs g, v = .slice (some ⟨g, 0, none⟩) pss.length pss.length ∧ B ≤ g ∧ Own w B tMs v vs ∧ OMF w (g + 1) C vs pss
theorem OF.below {B C : Nat} {pss : List (List Mono)} (h : OF w B C v pss) (hb : Below w.heap.size w w') : OF w' B C v pss := by
  obtain ⟨vs, g, h1, h2, h3, h4⟩ := h
  exact ⟨vs, g, h1, h2, h3.below hb, h4.below hb⟩
theorem OF.kept {B C B' C' : Nat} {pss : List (List Mono)} (h : OF w B C v pss) (hc : Chg B' C' w w') (hd : C ≤ B' ∨ C' ≤ B) : OF w' B C v pss := by
  obtain ⟨vs, g, h1, h2, h3, h4⟩ := h
  have := h4.le
  refine ⟨vs, g, h1, h2, h3.of_block fun b hb => hc.block b (h3.lt b hb) ?_, h4.kept hc (by omega)⟩
  rw [h1] at hb
  simp [Value.ownBlock] at hb
  omega
theorem OF.mono {B C B' C' : Nat} {pss : List (List Mono)} (h : OF w B C v pss) (h1 : B' ≤ B) (h2 : C ≤ C') : OF w B' C' v pss := by
  obtain ⟨vs, g, a1, a2, a3, a4⟩ := h
  exact ⟨vs, g, a1, by omega, a3.mono h1, a4.widen h2⟩
theorem OF.rows {B C : Nat} {pss : List (List Mono)} (h : OF w B C v pss) : MRows w v pss := by
  obtain ⟨vs, g, a1, a2, a3, a4⟩ := h
  refine ⟨vs, a3.cells, a4.len, fun k u ms hu hm => ?_⟩
  obtain ⟨lo, hi, -, -, h⟩ := a4.get k u ms hu hm
  exact h.monos
end

end Go.Proofs.YtnnfjjadehgmeaaGreatDoor

set_option maxRecDepth 100000
set_option linter.unusedVariables false
set_option linter.unusedSimpArgs false
namespace Go.Proofs.YtnnfjjadehgmeaaGreatDoor
open Go.RowKit

end Go.Proofs.YtnnfjjadehgmeaaGreatDoor

set_option maxRecDepth 100000
set_option linter.unusedVariables false
set_option linter.unusedSimpArgs false
namespace Go.Proofs.YtnnfjjadehgmeaaGreatDoor
open Go.RowKit

end Go.Proofs.YtnnfjjadehgmeaaGreatDoor

/- The laws' marking and holding, at lists of lists and at tableaus. -/
set_option linter.unusedVariables false
set_option linter.unusedSimpArgs false
namespace Go.Proofs.YtnnfjjadehgmeaaGreatDoor
open Go.RowKit

theorem RowsOwn.set {w w' : World} {B C : Nat} {e : TypeId} {vs : List Value} {xss : List (List Int)} {j : Nat} {u : Value} {zs : List Int} (h : RowsOwn w B C e vs xss) (hu : vs[j]? = some u) (hg : w.grownBy w' u.ownBlock) (hn : OwnInts w' B e u zs) : RowsOwn w' B C e vs (xss.set j zs) := by
  obtain ⟨h1, h2, h3⟩ := h
  refine ⟨by simp [h1], fun k u' zs' hu' hz' => ?_, h3⟩
  have hj := (List.getElem?_eq_some_iff.1 hu).1
  by_cases hk : k = j
  · subst hk
    rw [hu] at hu'
    obtain rfl : u = u' := by simpa using hu'
    have hz : xss[k]? = some (xss[k]'(by omega)) := List.getElem?_eq_getElem _
    rw [List.getElem?_set_self (by omega)] at hz'
    obtain rfl : zs = zs' := by simpa using hz'
    exact ⟨hn, (h2 k u _ hu hz).2⟩
  · rw [List.getElem?_set_ne (by omega)] at hz'
    have ho := h2 k u' zs' hu' hz'
    have hap : Apart u' u := by
      by_cases hlt : k < j
      · exact h3 k j u' u hlt hu' hu
      · exact (h3 j k u u' (by omega) hu hu').symm
    exact ⟨ho.1.kept hg hap, ho.2⟩

/-- no block has turned but those of the values vs -/
def Far (vs : List Value) (w w' : World) : Prop := ∀ b, b < w.heap.size → (∀ (i : Nat) (u : Value), vs[i]? = some u → u.ownBlock ≠ some b) → w'.heap[b]? = w.heap[b]?
theorem Far.refl (vs : List Value) (w : World) : Far vs w w := fun _ _ _ => rfl
theorem Far.grown {vs : List Value} {w w1 w2 : World} {j : Nat} {u : Value} (h : Far vs w w1) (hs : w.heap.size ≤ w1.heap.size) (hu : vs[j]? = some u) (hg : w1.grownBy w2 u.ownBlock) : Far vs w w2 :=
  fun b hb hn => (hg.block b (Nat.lt_of_lt_of_le hb hs) (fun e => hn j u hu e.symm)).trans (h b hb hn)
theorem Far.kept {vs : List Value} {w w' : World} {B C : Nat} {e : TypeId} {v : Value} {zs : List Int} (h : Far vs w w') (ho : OI w B C e v zs) (ha : ∀ (i : Nat) (u : Value), vs[i]? = some u → Apart u v) : OI w' B C e v zs :=
  ⟨⟨ho.1.1.of_block fun b hb => h b (ho.1.1.lt b hb) (fun i u hu e => (ha i u hu).elim (fun h1 => by rw [h1] at e; cases e) (fun h1 => h1 (e.trans hb.symm))), ho.1.2⟩, ho.2⟩

end Go.Proofs.YtnnfjjadehgmeaaGreatDoor

set_option maxRecDepth 100000
set_option linter.unusedVariables false
set_option linter.unusedSimpArgs false
namespace Go.Proofs.YtnnfjjadehgmeaaGreatDoor
open Go.RowKit

def msTot : List Mono → Nat
  | [] => 0
  | m :: ms => 1 + m.2.length + msTot ms
def fTot : List (List Mono) → Nat
  | [] => 0
  | ms :: pss => msTot ms + fTot pss
theorem oi_ne_mono {w : World} {B : Nat} {u : Value} {zs : List Int} {g : Nat} {cs : Array Value} (h : OwnInts w B tI u zs) (hb : Blk w g tM cs) : u.ownBlock ≠ some g := by
  rcases h.1.cases with ⟨rfl, _⟩ | ⟨g', cap, cur, rfl, _, _, hg, _⟩
  · simp [Value.ownBlock]
  · simp only [Value.ownBlock, ne_eq, Option.some.injEq]
    rintro rfl
    rw [show w.heap[g']? = _ from hb] at hg
    injection hg with hg
    injection hg with _ ht
    exact absurd ht (by decide)

/-- what is left to be marked of a list of monomials behind place j -/
structure MLeft (w : World) (B C g n j : Nat) (ms : List Mono) (us : List Value) : Prop where
  blk : ∃ cs : Array Value, Blk w g tM cs ∧ cs.size = n * 2 ∧ ∀ (i : Nat) (u : Value), j ≤ i → us[i]? = some u → cs[i * 2 + 1]? = some u
  pow : ∀ (i : Nat) (u : Value) (m : Mono), j ≤ i → us[i]? = some u → ms[i]? = some m → OI w B C tI u m.2

theorem MLeft.store {w : World} {B C g n j : Nat} {ms : List Mono} {us : List Value} (h : MLeft w B C g n j ms us) (u : Value) : MLeft (w.setCell ⟨g, j * 2, none⟩ u) B C g n j ms us := by
  obtain ⟨⟨cs, h1, h2, h3⟩, h4⟩ := h
  refine ⟨⟨_, h1.set_ (j * 2) u, by simpa using h2, fun i u' hi hu => ?_⟩, fun i u' m hi hu hm => ?_⟩
  · rw [Array.getElem?_setIfInBounds_ne (by omega)]
    exact h3 i u' hi hu
  · have ho := h4 i u' m hi hu hm
    refine ⟨⟨ho.1.1.of_block fun b hb => Below.heap_setCell w ⟨g, j * 2, none⟩ u b (fun e => oi_ne_mono ho.1 h1 (by rw [hb]; exact congrArg some e)), ho.1.2⟩, ho.2⟩

theorem MLeft.next {w w' : World} {B C g n j : Nat} {ms : List Mono} {us : List Value} {u : Value} {m : Mono} (h : MLeft w B C g n j ms us) (hu : us[j]? = some u) (hm : ms[j]? = some m) (hg : w.grownBy w' u.ownBlock)
    (hap : ∀ (i : Nat) (u' : Value), i ≠ j → us[i]? = some u' → Apart u' u) : MLeft w' B C g n (j + 1) ms us := by
  obtain ⟨⟨cs, h1, h2, h3⟩, h4⟩ := h
  refine ⟨⟨cs, (hg.block g h1.lt (fun e => oi_ne_mono (h4 j u m (Nat.le_refl _) hu hm).1 h1 e.symm)).trans h1, h2, fun i u' hi hu' => h3 i u' (by omega) hu'⟩, fun i u' m' hi hu' hm' => ?_⟩
  have ho := h4 i u' m' (by omega) hu' hm'
  exact ⟨ho.1.kept hg (hap i u' (by omega) hu'), ho.2⟩

end Go.Proofs.YtnnfjjadehgmeaaGreatDoor

set_option maxRecDepth 100000
set_option linter.unusedVariables false
set_option linter.unusedSimpArgs false
namespace Go.Proofs.YtnnfjjadehgmeaaGreatDoor
open Go.RowKit

def cellM (u : Value) (m : Mono) : List Value := [.int .i64 m.1, u]
/-- the same in the blocks from B to C -/
def Same (B C : Nat) (w w' : World) : Prop := ∀ k, B ≤ k → k < C → w'.heap[k]? = w.heap[k]?
theorem Same.mono {B C B' C' : Nat} {w w' : World} (h : Same B C w w') (h1 : B ≤ B') (h2 : C' ≤ C) : Same B' C' w w' := fun k a b => h k (by omega) (by omega)
theorem Same.of_below {B C : Nat} {w w' : World} (h : Below w.heap.size w w') (hC : C ≤ w.heap.size) : Same B C w w' := fun k _ hk => h.block k (by omega)
theorem Same.of_chg {B C B' C' : Nat} {w w' : World} (h : Chg B' C' w w') (hC : C ≤ w.heap.size) (hd : C ≤ B' ∨ C' ≤ B) : Same B C w w' := fun k a b => h.block k (by omega) (by omega)

/-- a list of monomials of one's own -/
structure OMd (w : World) (B C : Nat) (v : Value) (us : List Value) (ms : List Mono) : Prop where
  own : OwnK w B tM 2 v (List.zipWith cellM us ms)
  lt : ∀ b, v.ownBlock = some b → b < C
  rows : RowsOwn w B C tI us (ms.map (·.2))
  in_ : ∀ m ∈ ms, In64 m.1
section
variable {w w' : World} {B C B' C' : Nat} {v : Value} {us : List Value} {ms : List Mono}
theorem OMd.len (h : OMd w B C v us ms) : us.length = ms.length := by have := h.rows.1; rwa [List.length_map] at this
theorem OMd.agree (h : OMd w B C v us ms) (hw : Same B C w w') : OMd w' B C v us ms :=
  ⟨h.own.of_block fun b hb => hw b (h.own.ge b hb) (h.lt b hb), h.lt, ⟨h.rows.1, fun k u zs hu hz => (by
    obtain ⟨a, b⟩ := h.rows.2.1 k u zs hu hz
    exact (show OI w' B C tI u zs from ⟨⟨a.1.of_block fun b' hb => hw b' (a.1.ge b' hb) (b b' hb), a.2⟩, b⟩)), h.rows.2.2⟩, h.in_⟩
theorem OMd.mono (h : OMd w B C v us ms) (h1 : B' ≤ B) (h2 : C ≤ C') : OMd w B' C' v us ms := ⟨h.own.mono h1, fun b hb => Nat.lt_of_lt_of_le (h.lt b hb) h2, h.rows.mono h1 h2, h.in_⟩
theorem OMd.zlen (h : OMd w B C v us ms) : (List.zipWith cellM us ms).length = ms.length := by rw [List.length_zipWith, h.len, Nat.min_self]
theorem OMd.zat (h : OMd w B C v us ms) {i : Nat} {u : Value} {m : Mono} (hu : us[i]? = some u) (hm : ms[i]? = some m) : (List.zipWith cellM us ms)[i]? = some (cellM u m) := by rw [List.getElem?_zipWith, hu, hm]
theorem OMd.open_ (h : OMd w B C v us ms) : ∃ A c, v = .slice A ms.length c ∧ ms.length ≤ c ∧ c ≤ 9223372036854775807 := by
  have := OwnK.open_ (k := 2) h.own
  rwa [h.zlen] at this
theorem OMd.dat (h : OMd w B C v us ms) {i : Nat} {m : Mono} (hm : ms[i]? = some m) : ∃ u, us[i]? = some u := ⟨_, List.getElem?_eq_getElem (by rw [h.len]; exact (List.getElem?_eq_some_iff.1 hm).1)⟩
theorem OMd.monos (h : OMd w B C v us ms) : Monos w v ms := by
  obtain ⟨A, c, rfl, h1, h2⟩ := h.open_
  refine ⟨A, c, rfl, h1, by simpa [maxLen] using h2, fun k m hm => ?_⟩
  obtain ⟨u, hu⟩ := h.dat hm
  obtain ⟨g, cap, e, k0⟩ := OwnK.cell (k := 2) h.own (h.zat hu hm) (j := 0) rfl
  simp only [Value.slice.injEq] at e
  obtain ⟨rfl, -, rfl⟩ := e
  have hown := h.own
  have k1 := OwnK.cellAt (k := 2) hown (h.zat hu hm) (j := 1) rfl
  have hr := (h.rows.2.1 k u m.2 hu (by simp [hm])).ints
  exact ⟨g, 0, u, rfl, h.in_ m (List.mem_of_getElem? hm), hr, by rw [Nat.zero_add]; exact k0, by rw [Nat.zero_add]; exact k1⟩
end
def OMo (w : World) (B C : Nat) (v : Value) (ms : List Mono) : Prop := ∃ us, OMd w B C v us ms
section
variable {w w' : World} {B C B' C' : Nat} {v : Value} {ms : List Mono}
theorem OMo.agree (h : OMo w B C v ms) (hw : Same B C w w') : OMo w' B C v ms := by obtain ⟨us, h⟩ := h; exact ⟨us, h.agree hw⟩
theorem OMo.mono (h : OMo w B C v ms) (h1 : B' ≤ B) (h2 : C ≤ C') : OMo w B' C' v ms := by obtain ⟨us, h⟩ := h; exact ⟨us, h.mono h1 h2⟩
theorem OMo.monos (h : OMo w B C v ms) : Monos w v ms := by obtain ⟨us, h⟩ := h; exact h.monos
theorem OMo.ge (h : OMo w B C v ms) : ∀ b, v.ownBlock = some b → B ≤ b := by obtain ⟨us, h⟩ := h; exact h.own.ge
theorem OMo.lt (h : OMo w B C v ms) : ∀ b, v.ownBlock = some b → b < C := by obtain ⟨us, h⟩ := h; exact h.lt
end

/-- a list of such lists, each in an interval of its own -/
structure PFd (w : World) (B C : Nat) (u : Value) (vs : List Value) (ivs : List (Nat × Nat)) (pss : List (List Mono)) : Prop where
  own : Own w B tMs u vs
  lt : ∀ b, u.ownBlock = some b → b < C
  le : B ≤ C
  len : vs.length = pss.length
  ilen : ivs.length = pss.length
  at_ : ∀ (i : Nat) (v : Value) (ms : List Mono) (iv : Nat × Nat), vs[i]? = some v → pss[i]? = some ms → ivs[i]? = some iv → B ≤ iv.1 ∧ iv.2 ≤ C ∧ OMo w iv.1 iv.2 v ms
  out : ∀ (i : Nat) (iv : Nat × Nat) (b : Nat), ivs[i]? = some iv → u.ownBlock = some b → b < iv.1 ∨ iv.2 ≤ b
  ord : ∀ (i j : Nat) (iv iv' : Nat × Nat), i < j → ivs[i]? = some iv → ivs[j]? = some iv' → iv.2 ≤ iv'.1
section
variable {w w' : World} {B C B' C' : Nat} {u : Value} {vs : List Value} {ivs : List (Nat × Nat)} {pss : List (List Mono)}
theorem PFd.agree (h : PFd w B C u vs ivs pss) (hw : Same B C w w') : PFd w' B C u vs ivs pss :=
  { h with
    own := h.own.of_block fun b hb => hw b (h.own.ge b hb) (h.lt b hb)
    at_ := fun i v ms iv hv hm hi => by
      obtain ⟨a, b, c⟩ := h.at_ i v ms iv hv hm hi
      exact ⟨a, b, c.agree (hw.mono a b)⟩ }
theorem PFd.mono (h : PFd w B C u vs ivs pss) (h1 : B' ≤ B) (h2 : C ≤ C') : PFd w B' C' u vs ivs pss :=
  { h with
    own := h.own.mono h1
    lt := fun b hb => Nat.lt_of_lt_of_le (h.lt b hb) h2
    le := by have := h.le; omega
    at_ := fun i v ms iv hv hm hi => by
      obtain ⟨a, b, c⟩ := h.at_ i v ms iv hv hm hi
      exact ⟨by omega, by omega, c⟩ }
theorem PFd.nil (w : World) (B : Nat) : PFd w B B (.slice none 0 0) [] [] [] where
  own := Own.nil _ _ _
  lt b hb := by simp [Value.ownBlock] at hb
  le := Nat.le_refl _
  len := rfl
  ilen := rfl
  at_ i v ms iv hv := by simp at hv
  out i iv b hi := by simp at hi
  ord i j iv iv' hij hi := by simp at hi
theorem PFd.mrows (h : PFd w B C u vs ivs pss) : MRows w u pss := by
  refine ⟨vs, h.own.cells, h.len, fun k v ms hv hm => ?_⟩
  have hk := (List.getElem?_eq_some_iff.1 hm).1
  obtain ⟨-, -, c⟩ := h.at_ k v ms _ hv hm (List.getElem?_eq_getElem (by rw [h.ilen]; exact hk))
  exact c.monos
/-- one part more: made by a call, put behind the others by an append -/
theorem PFd.step {W W5 W6 W7 : World} {v u' : Value} {ms : List Mono} (h : PFd W B C u vs ivs pss) (hC : C ≤ W.heap.size) (h5 : Below W.heap.size W W5) (hm : OMo W5 W.heap.size W5.heap.size v ms) (h6 : Below W5.heap.size W5 W6)
    (hn : Own W7 B tMs u' (vs ++ [v])) (hg : Grow W6 W7 u u') : PFd W7 B W7.heap.size u' (vs ++ [v]) (ivs ++ [(W.heap.size, W5.heap.size)]) (pss ++ [ms]) := by
  have s5 := h5.size
  have s6 := h6.size
  have s7 := hg.1.size
  have hBC := h.le
  have hnew : ∀ b, u'.ownBlock = some b → u.ownBlock = some b ∨ W6.heap.size ≤ b := fun b hb => by
    rcases hg.2 with e | ⟨g, e, hge⟩
    · exact .inl (by rw [← e]; exact hb)
    · rw [e] at hb; injection hb with hb; subst hb; exact .inr hge
  refine ⟨hn, fun b hb => hn.lt b hb, by omega, by simp [h.len], by simp [h.ilen], fun i x ns iv hx hns hiv => ?_, fun i iv b hiv hb => ?_, fun i j iv iv' hij hi hj => ?_⟩
  · have hi := (List.getElem?_eq_some_iff.1 hx).1
    rw [List.length_append, List.length_singleton] at hi
    by_cases hl : i < vs.length
    · rw [List.getElem?_append_left hl] at hx
      rw [List.getElem?_append_left (by rw [← h.len]; exact hl)] at hns
      rw [List.getElem?_append_left (by rw [h.ilen, ← h.len]; exact hl)] at hiv
      obtain ⟨a, b, c⟩ := h.at_ i x ns iv hx hns hiv
      refine ⟨a, by omega, c.agree fun k h1 h2 => ?_⟩
      rw [hg.1.block k (by omega) (fun e => by rcases h.out i iv k hiv e.symm with h3 | h3 <;> omega), h6.block k (by omega), h5.block k (by omega)]
    · have : i = vs.length := by omega
      subst this
      rw [List.getElem?_append_right (Nat.le_refl _), Nat.sub_self] at hx
      rw [List.getElem?_append_right (by rw [h.len]; exact Nat.le_refl _), h.len, Nat.sub_self] at hns
      rw [List.getElem?_append_right (by rw [h.len, h.ilen]; exact Nat.le_refl _), h.ilen, h.len, Nat.sub_self] at hiv
      simp only [List.getElem?_cons_zero, Option.some.injEq] at hx hns hiv
      subst hx; subst hns; subst hiv
      refine ⟨by show B ≤ W.heap.size; omega, by show W5.heap.size ≤ W7.heap.size; omega, hm.agree fun k h1 h2 => ?_⟩
      rw [hg.1.block k (by have : k < W5.heap.size := h2; omega) (fun e => by have h3 := h.lt k e.symm; have : W.heap.size ≤ k := h1; omega), h6.block k h2]
  · by_cases hl : i < ivs.length
    · rw [List.getElem?_append_left hl] at hiv
      have hx : vs[i]? = some (vs[i]'(by rw [h.len, ← h.ilen]; exact hl)) := List.getElem?_eq_getElem _
      have hns : pss[i]? = some (pss[i]'(by rw [← h.ilen]; exact hl)) := List.getElem?_eq_getElem _
      obtain ⟨a, b', -⟩ := h.at_ i _ _ iv hx hns hiv
      rcases hnew b hb with e | e
      · exact h.out i iv b hiv e
      · right; omega
    · rw [List.getElem?_append_right (by omega)] at hiv
      have : i - ivs.length = 0 := by
        have := (List.getElem?_eq_some_iff.1 hiv).1
        simpa using this
      rw [this] at hiv
      simp only [List.getElem?_cons_zero, Option.some.injEq] at hiv
      subst hiv
      rcases hnew b hb with e | e
      · left; have := h.lt b e; show b < W.heap.size; omega
      · right; show W5.heap.size ≤ b; omega
  · by_cases hl : j < ivs.length
    · rw [List.getElem?_append_left hl] at hj
      rw [List.getElem?_append_left (by omega)] at hi
      exact h.ord i j iv iv' hij hi hj
    · rw [List.getElem?_append_right (by omega)] at hj
      have hj0 := (List.getElem?_eq_some_iff.1 hj).1
      simp only [List.length_singleton] at hj0
      have e0 : j - ivs.length = 0 := by omega
      rw [e0] at hj
      simp only [List.getElem?_cons_zero, Option.some.injEq] at hj
      subst hj
      have hl' : i < ivs.length := by omega
      rw [List.getElem?_append_left hl'] at hi
      have hx : vs[i]? = some (vs[i]'(by rw [h.len, ← h.ilen]; exact hl')) := List.getElem?_eq_getElem _
      have hns : pss[i]? = some (pss[i]'(by rw [← h.ilen]; exact hl')) := List.getElem?_eq_getElem _
      obtain ⟨a, b, -⟩ := h.at_ i _ _ iv hx hns hi
      show iv.2 ≤ W.heap.size
      omega
end
def PF (w : World) (B C : Nat) (u : Value) (pss : List (List Mono)) : Prop := ∃ vs ivs, PFd w B C u vs ivs pss
section
variable {w w' : World} {B C B' C' : Nat} {u : Value} {pss : List (List Mono)}
theorem PF.agree (h : PF w B C u pss) (hw : Same B C w w') : PF w' B C u pss := by obtain ⟨vs, ivs, h⟩ := h; exact ⟨vs, ivs, h.agree hw⟩
theorem PF.mono (h : PF w B C u pss) (h1 : B' ≤ B) (h2 : C ≤ C') : PF w B' C' u pss := by obtain ⟨vs, ivs, h⟩ := h; exact ⟨vs, ivs, h.mono h1 h2⟩
theorem PF.mrows (h : PF w B C u pss) : MRows w u pss := by obtain ⟨vs, ivs, h⟩ := h; exact h.mrows
end
end Go.Proofs.YtnnfjjadehgmeaaGreatDoor

set_option linter.unusedVariables false
set_option linter.unusedSimpArgs false
namespace Go.Proofs.YtnnfjjadehgmeaaGreatDoor
open Go.RowKit

def Nums (zs : List Int) : Prop := ∀ z ∈ zs, 0 ≤ z ∧ z ≤ 10006
end Go.Proofs.YtnnfjjadehgmeaaGreatDoor

