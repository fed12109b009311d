/- Repeating a tableau, plain; an owned tableau beside a store. No program in sight. -/
import Derived.Test.YtgbfifcbbfhpmaaComp1
import Derived.Test.YtgbfifcbbfhpmaaTabN
import Derived.Test.YtgbfifcbbfhpmaaColP
set_option maxRecDepth 100000
set_option linter.unusedVariables false
set_option linter.unusedSimpArgs false
namespace Go.Proofs.Ytgbfifcbbfhpmaa
open Go.RowKit

def repT (A : List (List Int)) (B : List Int) : Nat → List (List Int) × List Int
  | 0 => (A, B)
  | n + 1 => (compA (repT A B n).1 (repT A B n).2 A B, (repT A B n).2 ++ B)
/-- a square tableau of numbers -/
structure Sq (A : List (List Int)) (B : List Int) (s : Nat) : Prop where
  la : A.length = s
  lb : B.length = s
  rows : ∀ r ∈ A, Nums r ∧ r.length = s
  ws : Nums B
theorem Sq.numTab {A : List (List Int)} {B : List Int} {s : Nat} (h : Sq A B s) (hs : s ≤ 1000) : NumTab A B :=
  ⟨by rw [h.la]; exact hs, by rw [h.lb]; exact hs, fun r hr => ⟨(h.rows r hr).1, by rw [(h.rows r hr).2]; exact hs⟩, h.ws⟩
theorem Sq.comp {A1 A2 : List (List Int)} {B1 B2 : List Int} {s t : Nat} (h : Sq A1 B1 s) (h' : Sq A2 B2 t) : Sq (compA A1 B1 A2 B2) (B1 ++ B2) (s + t) := by
  refine ⟨by simp [compA, h.la, h'.la], by simp [h.lb, h'.lb], fun r hr => ?_, fun z hz => ?_⟩
  · rcases List.mem_append.1 hr with hr | hr
    · obtain ⟨x, hx, rfl⟩ := List.mem_map.1 hr
      refine ⟨fun z hz => ?_, by simp [padR, (h.rows x hx).2, h'.lb]⟩
      rcases List.mem_append.1 hz with hz | hz
      · exact (h.rows x hx).1 z hz
      · have := (List.mem_replicate.1 hz).2; omega
    · obtain ⟨x, hx, rfl⟩ := List.mem_map.1 hr
      refine ⟨fun z hz => ?_, by simp [(h'.rows x hx).2, h.lb]⟩
      rcases List.mem_append.1 hz with hz | hz
      · exact h.ws z hz
      · exact (h'.rows x hx).1 z hz
  · rcases List.mem_append.1 hz with hz | hz
    · exact h.ws z hz
    · exact h'.ws z hz
theorem Sq.rep {A : List (List Int)} {B : List Int} {s : Nat} (h : Sq A B s) : ∀ n, Sq (repT A B n).1 (repT A B n).2 ((n + 1) * s)
  | 0 => by simpa [repT] using h
  | n + 1 => by
    have := (Sq.rep h n).comp h
    rw [show (n + 1 + 1) * s = (n + 1) * s + s from by rw [Nat.succ_mul]]
    exact this
theorem Sq.scl {A : List (List Int)} {B : List Int} {s : Nat} (hA : A.length = s) (hB : B.length = s) (hr : ∀ r ∈ A, r.length = s) (f : Int) : Sq (A.map (Go.Proofs.Ytgbfifcbbfhpmaa.scl f)) (Go.Proofs.Ytgbfifcbbfhpmaa.scl f B) s := by
  refine ⟨by simpa using hA, by rw [scl_len]; exact hB, fun r h => ?_, scl_nums _ _⟩
  obtain ⟨x, hx, rfl⟩ := List.mem_map.1 h
  exact ⟨scl_nums _ _, by rw [scl_len]; exact hr x hx⟩

def repFac (k : Int) : Int := pw k 10005
def repC (A : List (List Int)) (Bs : List Int) (k : Int) : Int := if tabB A Bs then (if inR k 1 8 then (if (Bs.length : Int) * k ≤ 8 then 0 else 3) else 2) else 1
def repR (A : List (List Int)) (Bs : List Int) (k : Int) : List (List Int) × List Int := if repC A Bs k = 0 then repT (A.map (scl (repFac k))) (scl (repFac k) Bs) (k.toNat - 1) else ([], [])
def IsRep (A : List (List Int)) (Bs : List Int) (k : Int) (RA : List (List Int)) (RB : List Int) (c : Int) : Prop := RA = (repR A Bs k).1 ∧ RB = (repR A Bs k).2 ∧ c = repC A Bs k
theorem IsRep.unique {A : List (List Int)} {Bs : List Int} {k : Int} {RA RA' : List (List Int)} {RB RB' : List Int} {c c' : Int} (h : IsRep A Bs k RA RB c) (h' : IsRep A Bs k RA' RB' c') : RA = RA' ∧ RB = RB' ∧ c = c' := by
  obtain ⟨rfl, rfl, rfl⟩ := h
  obtain ⟨rfl, rfl, rfl⟩ := h'
  exact ⟨rfl, rfl, rfl⟩
theorem repC_ok {A : List (List Int)} {Bs : List Int} {k : Int} (h : repC A Bs k = 0) : tabB A Bs = true ∧ 1 ≤ k ∧ k ≤ 8 ∧ (Bs.length : Int) * k ≤ 8 := by
  unfold repC at h
  cases ht : tabB A Bs with
  | false => rw [ht] at h; simp at h
  | true =>
    rw [ht] at h
    cases hr : inR k 1 8 with
    | false => rw [hr] at h; simp at h
    | true =>
      rw [hr] at h
      by_cases hm : (Bs.length : Int) * k ≤ 8
      · have := inR_iff.1 hr
        exact ⟨rfl, this.1, this.2, hm⟩
      · simp [hm] at h
theorem rep_sq {A : List (List Int)} {Bs : List Int} {k : Int} (h : tabB A Bs = true) (n : Nat) : Sq (repT (A.map (scl (repFac k))) (scl (repFac k) Bs) n).1 (repT (A.map (scl (repFac k))) (scl (repFac k) Bs) n).2 ((n + 1) * Bs.length) :=
  (Sq.scl (isTab_of h).len rfl (fun r hr => ((isTab_of h).row r hr).1) _).rep n
theorem rep_bd {s n : Nat} {k : Int} (h1 : 1 ≤ k) (h : (s : Int) * k ≤ 8) (hn : n + 1 ≤ k.toNat) : (n + 1) * s ≤ 8 := by
  have h2 : ((n + 1 : Nat) : Int) ≤ k := by omega
  have h3 : (s : Int) * ((n + 1 : Nat) : Int) ≤ (s : Int) * k := Int.mul_le_mul_of_nonneg_left h2 (by omega)
  have h4 : (((n + 1) * s : Nat) : Int) = (s : Int) * ((n + 1 : Nat) : Int) := by rw [Int.natCast_mul, Int.mul_comm]
  omega
theorem IsRep.short {A : List (List Int)} {Bs : List Int} {k : Int} {RA : List (List Int)} {RB : List Int} {c : Int} (h : IsRep A Bs k RA RB c) : tot RA ≤ 1000 ∧ RB.length ≤ 1000 := by
  obtain ⟨rfl, rfl, rfl⟩ := h
  unfold repR
  by_cases hc : repC A Bs k = 0
  · obtain ⟨ht, h1, h2, h3⟩ := repC_ok hc
    have hq := rep_sq (k := k) ht (k.toNat - 1)
    have hb := rep_bd (n := k.toNat - 1) h1 h3 (by omega)
    rw [if_pos hc]
    have ht2 := tot_le (n := 8) fun r hr => by rw [(hq.rows r hr).2]; exact hb
    rw [hq.la] at ht2
    rw [hq.lb]
    omega
  · rw [if_neg hc]
    simp [tot]

theorem OT.storeAt {w : World} {B C p : Nat} {v : Value} {A : List (List Int)} {Bs : List Int} {cs : Array Value} (h : OT w B C v A Bs) (hk : Blk w p 27 cs) (i : Nat) (u : Value) : OT (w.setCell ⟨p, i, none⟩ u) B C v A Bs := by
  obtain ⟨va, vb, vs, rfl, h1, h2, h3, h4, h5⟩ := h
  have hh : ∀ b, b ≠ p → (w.setCell ⟨p, i, none⟩ u).heap[b]? = w.heap[b]? := fun b hb => Below.heap_setCell w ⟨p, i, none⟩ u b hb
  refine ⟨va, vb, vs, rfl, h1.of_block fun b hb => hh b (fun e => h1.ne_blk hk (by decide) (e ▸ hb)), h2, ⟨h3.1, fun k u' zs hu hz => ?_, h3.2.2⟩, ⟨⟨h4.1.1.of_block fun b hb => hh b (fun e => h4.1.1.ne_blk hk (by decide) (e ▸ hb)), h4.1.2⟩, h4.2⟩, h5⟩
  have h6 := h3.2.1 k u' zs hu hz
  exact ⟨⟨h6.1.1.of_block fun b hb => hh b (fun e => h6.1.1.ne_blk hk (by decide) (e ▸ hb)), h6.1.2⟩, h6.2⟩
end Go.Proofs.Ytgbfifcbbfhpmaa
