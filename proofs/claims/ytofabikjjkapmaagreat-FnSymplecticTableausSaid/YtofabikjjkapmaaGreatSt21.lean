/- Walks: IsSymmetric of the program and of the reference. | A tableau is a tableau of numbers; the empty tableau. No program in sight. | The polynomials of collocation, plain. No program in sight. | Repeating a tableau, plain; an owned tableau beside a store. No program in sight. | Plain: the branches of the trees of maps as the walks meet them, with their places; stage weights as lists. No walk. | Walks of the library's Grow, Concat at lists of numbers. | Walks of the library's Repeat at a list of one number. -/
import Derived.Test.YtofabikjjkapmaaGreatRows
import Derived.Test.YtofabikjjkapmaaGreatSt2
import Derived.Test.YtofabikjjkapmaaGreatSt3
import Derived.Test.YtofabikjjkapmaaGreatSt1
import Derived.Test.YtofabikjjkapmaaGreatSt5
import Derived.Test.YtofabikjjkapmaaGreatSt20
import Derived.WalkLawsBesides
import Derived.BigGuardPart
import Derived.Deep.QuietTactic
import Derived.BigQuiet
import Derived.Test.YtofabikjjkapmaaGreatSt19
import Derived.Lib.AppendZeros
import Derived.Deep.RegionLaw
import Derived.Deep.RegionHeld3
import Derived.Laws.CopyOwn
set_option linter.unusedVariables false
set_option linter.unusedSimpArgs false
namespace Go.Proofs.YtofabikjjkapmaaGreat
open Go.RowKit

/-- the number in row i and column k -/
def ent (A : List (List Int)) (i k : Nat) : Int := (A.getD i []).getD k 0
theorem ent_eq {A : List (List Int)} {i k : Nat} {zs : List Int} {z : Int} (h : A[i]? = some zs) (hz : zs[k]? = some z) : ent A i k = z := by simp [ent, List.getD, h, hz]

/-- what the test for a tableau says -/
structure IsTab (A : List (List Int)) (Bs : List Int) : Prop where
  lo : 1 ≤ Bs.length
  hi : Bs.length ≤ 8
  len : A.length = Bs.length
  row : ∀ zs ∈ A, zs.length = Bs.length ∧ nums zs = true
  num : nums Bs = true
theorem isTab_of {A : List (List Int)} {Bs : List Int} (h : tabB A Bs = true) : IsTab A Bs := by
  simp only [tabB, Bool.and_eq_true, decide_eq_true_eq, List.all_eq_true, inR_iff] at h
  obtain ⟨⟨⟨h1, h2⟩, h3⟩, h4⟩ := h
  refine ⟨by omega, by omega, h2, fun zs hz => ?_, h3⟩
  have := h4 zs hz
  simpa [rowB] using this

/-- an entry of a tableau's matrix, in memory -/
theorem Rows.ent {w : World} {B : Option Addr} {c m n : Nat} {A : List (List Int)} (h : Rows w (.slice B m c) A) (hr : ∀ zs ∈ A, zs.length = n ∧ nums zs = true) {i k : Nat} (hi : i < A.length) (hk : k < n) :
    ∃ ad ad' c', B = some ad ∧ w.cell? (ad.add i) = some (.slice (some ad') n c') ∧ w.cell? (ad'.add k) = some (.int .i64 (ent A i k)) ∧ n ≤ c' ∧ c' ≤ 9223372036854775807 ∧ 0 ≤ Proofs.YtofabikjjkapmaaGreat.ent A i k ∧ Proofs.YtofabikjjkapmaaGreat.ent A i k ≤ 10006 := by
  obtain ⟨vs, hc, hl, hv⟩ := h
  obtain ⟨zs, hz⟩ : ∃ zs, A[i]? = some zs := ⟨_, List.getElem?_eq_getElem hi⟩
  have hzl := hr zs (List.mem_of_getElem? hz)
  obtain ⟨u, hu⟩ : ∃ u, vs[i]? = some u := ⟨_, List.getElem?_eq_getElem (by omega)⟩
  obtain ⟨ad, n', c0, e0, hcell⟩ := hc.at_ hu
  have hi := hv i u zs hu hz
  obtain ⟨B', c', rfl, h1, h2, h3⟩ := hi.open_
  obtain ⟨ad', z, hB, hzk, hin, hcz⟩ := h3 k (by omega)
  subst hB
  simp only [Value.slice.injEq] at e0
  have he := ent_eq hz hzk
  have hnb := nums_iff.1 hzl.2 z (List.mem_of_getElem? hzk)
  refine ⟨ad, ad', c', e0.1, by rw [hcell, hzl.1], by rw [he]; exact hcz, by omega, h2, ?_⟩
  rw [he]
  exact hnb

def symAt (A : List (List Int)) (Bs : List Int) (n i k : Nat) : Bool := decide ((ent A i k + ent A (n - 1 - i) (n - 1 - k)) % 10007 = Bs.getD k 0)
def symB (A : List (List Int)) (Bs : List Int) : Bool := (List.range Bs.length).all fun i => (List.range Bs.length).all fun k => symAt A Bs Bs.length i k
def symR (A : List (List Int)) (Bs : List Int) : Bool := tabB A Bs && symB A Bs
def tabC (A : List (List Int)) (Bs : List Int) : Int := if tabB A Bs then 0 else 1

set_option maxHeartbeats 400000 in
theorem im_stages (w : World) (v : Value) (A : List (List Int)) (Bs : List Int) (ha : TabArg w v A Bs) :
    Calls Tryz.prog 86 #[v] w fun e w' => e = .returned (.int .i64 Bs.length) ∧ Below w.heap.size w w' := by
  obtain ⟨va, vb, rfl, ha1, ha2⟩ := ha
  have BB := Lib.hid (below1 w (.cells #[va, vb] 37))
  obtain ⟨A2, c2, rfl, k1, k2, _⟩ := ha2.open_
  clear ha1 ha2
  go_enter Tryz.func86, Tryz.ntmps86
  go_wp2
  go_ret
  exact ⟨rfl, BB.out⟩

set_option maxHeartbeats 2000000 in
theorem i_IsSymmetric (w : World) (v : Value) (A : List (List Int)) (Bs : List Int) (ha : TabArg w v A Bs) :
    Calls Tryz.prog 39 #[v] w fun e w' => e = .returned (.tuple #[.bool (symR A Bs), .int .i64 (tabC A Bs)]) ∧ Below w.heap.size w w' := by
  obtain ⟨va, vb, rfl, ha1, ha2⟩ := ha
  obtain ⟨A1, c1, hva, y1, y2, _⟩ := ha1.open_
  obtain ⟨A2, c2, hvb, y3, y4, _⟩ := ha2.open_
  have BB := Lib.hid (below1 w (.cells #[va, vb] 37))
  have HT := Lib.hid (show TabArg (w.alloc (.cells #[va, vb] 37)) (.agg #[va, vb]) A Bs from ⟨va, vb, rfl, ha1.below BB.out, ha2.below BB.out⟩)
  clear ha1 ha2
  subst hva
  subst hvb
  cases ht : tabB A Bs with
  | false =>
    rw [show symR A Bs = false by simp [symR, ht], show tabC A Bs = 1 by simp [tabC, ht]]
    go_enter Tryz.func39, Tryz.ntmps39
    go_wp2_with fail
    refine (i_IsTableau _ _ _ _ HT.out).mono ?_
    rintro e w1 ⟨rfl, hb1⟩
    have B1 := Lib.hid (BB.out.trans (hb1.mono BB.out.size))
    clear hb1
    go_wp2_with fail
    go_ret2
    exact ⟨rfl, B1.out⟩
  | true =>
    rw [show symR A Bs = symB A Bs by simp [symR, ht], show tabC A Bs = 0 by simp [tabC, ht]]
    have hI := isTab_of ht
    have HI := Lib.hid hI
    have hn8 := hI.hi
    go_enter Tryz.func39, Tryz.ntmps39
    go_wp2_with fail
    refine (i_IsTableau _ _ _ _ HT.out).mono ?_
    rintro e w1 ⟨rfl, hb1⟩
    have B1 := Lib.hid (BB.out.trans (hb1.mono BB.out.size))
    have HT1 := Lib.hid (HT.out.below hb1)
    have K1 := Lib.hid ((Blk.new w #[_, _] 37).below hb1 (by simp))
    have f0 : w1.cell? ⟨w.heap.size, 0, none⟩ = some (.slice A1 A.length c1) := K1.out.cell 0
    have f1 : w1.cell? ⟨w.heap.size, 1, none⟩ = some (.slice A2 Bs.length c2) := K1.out.cell 1
    clear hb1 hI
    go_wp2_with fail
    refine (im_stages _ _ _ _ HT1.out).mono ?_
    rintro e w2 ⟨rfl, hb2⟩
    have B2 := Lib.hid (B1.out.trans (hb2.mono B1.out.size))
    have HT2 := Lib.hid (HT1.out.below hb2)
    have K2 := Lib.hid (K1.out.below hb2 K1.out.lt)
    have g0 : w2.cell? ⟨w.heap.size, 0, none⟩ = some (.slice A1 A.length c1) := K2.out.cell 0
    have g1 : w2.cell? ⟨w.heap.size, 1, none⟩ = some (.slice A2 Bs.length c2) := K2.out.cell 1
    clear hb2 f0 f1 K1 HT1 B1
    go_wp2_with fail
    go_loopw [13] (fun i wr => ∃ j n : Nat, j ≤ Bs.length ∧ i = .int .i64 j ∧ wr = w2.drewN n ∧ Hid (∀ a b, a < j → b < Bs.length → symAt A Bs Bs.length a b = true)) (fun i _ => Bs.length - (intOf i).toNat)
    case atStart => exact ⟨0, 0, Nat.zero_le _, rfl, rfl, fun a b h => by omega⟩
    case round =>
      obtain ⟨j, n, hj, rfl, rfl, hP⟩ := hrel
      by_cases hlt : j < Bs.length
      · have hlt' : (j : Int) < (Bs.length : Int) := by omega
        go_wp2_with fail
        go_loopw [17] (fun i wr => ∃ k m : Nat, k ≤ Bs.length ∧ i = .int .i64 k ∧ wr = w2.drewN m ∧ Hid (∀ b, b < k → symAt A Bs Bs.length j b = true)) (fun i _ => Bs.length - (intOf i).toNat)
        case atStart => exact ⟨0, n, Nat.zero_le _, rfl, rfl, fun b h => by omega⟩
        case round =>
          obtain ⟨k, m, hk, rfl, rfl, hQ⟩ := hrel
          by_cases hlt2 : k < Bs.length
          · have hTa := HT2.out
            obtain ⟨_, _, e0, hr, hi⟩ := hTa
            simp only [Value.agg.injEq, Array.mk.injEq, List.cons.injEq, and_true] at e0
            obtain ⟨rfl, rfl⟩ := e0
            obtain ⟨ad, ad1, d1, rfl, p1, p2, p3, p4, p5, p6⟩ := hr.ent HI.out.row (i := j) (k := k) (by rw [HI.out.len]; omega) hlt2
            obtain ⟨ad', ad2, d2, e1, q1, q2, q3, q4, q5, q6⟩ := hr.ent HI.out.row (i := Bs.length - 1 - j) (k := Bs.length - 1 - k) (by rw [HI.out.len]; omega) (by omega)
            simp only [Option.some.injEq] at e1
            subst e1
            obtain ⟨_, _, e2, _, _, h3⟩ := hi.open_
            simp only [Value.slice.injEq] at e2
            obtain ⟨rfl, _, rfl⟩ := e2
            obtain ⟨ad3, z, rfl, hz, _, r1⟩ := h3 k hlt2
            have HZ := Lib.hid (show Bs.getD k 0 = z by simp [List.getD, hz])
            have HL := Lib.hid HI.out.len
            have hla : A.length ≤ Bs.length := by rw [HL.out]; omega
            have hlb : Bs.length ≤ A.length := by rw [HL.out]; omega
            have w1' : IntKind.i64.wrap ((Bs.length : Int) - 1) = (Bs.length : Int) - 1 := IntWalk.i64_in _ (by omega)
            have w2' : IntKind.i64.wrap ((Bs.length : Int) - 1 - (j : Int)) = (Bs.length : Int) - 1 - (j : Int) := IntWalk.i64_in _ (by omega)
            have w3' : IntKind.i64.wrap ((Bs.length : Int) - 1 - (k : Int)) = (Bs.length : Int) - 1 - (k : Int) := IntWalk.i64_in _ (by omega)
            have t1 : ((Bs.length : Int) - 1 - (j : Int)).toNat = Bs.length - 1 - j := by omega
            have t2 : ((Bs.length : Int) - 1 - (k : Int)).toNat = Bs.length - 1 - k := by omega
            have i1 : (0 : Int) ≤ (Bs.length : Int) - 1 - (j : Int) := by omega
            have i2 : (0 : Int) ≤ (Bs.length : Int) - 1 - (k : Int) := by omega
            have i3 : (Bs.length : Int) - 1 - (j : Int) < (A.length : Int) := by omega
            have i4 : (Bs.length : Int) - 1 - (k : Int) < (Bs.length : Int) := by omega
            have i5 : (j : Int) < (A.length : Int) := by omega
            have i6 : (k : Int) < (Bs.length : Int) := by omega
            have w4' : IntKind.i64.wrap (Proofs.YtofabikjjkapmaaGreat.ent A j k + Proofs.YtofabikjjkapmaaGreat.ent A (Bs.length - 1 - j) (Bs.length - 1 - k)) = Proofs.YtofabikjjkapmaaGreat.ent A j k + Proofs.YtofabikjjkapmaaGreat.ent A (Bs.length - 1 - j) (Bs.length - 1 - k) := IntWalk.i64_in _ (by omega)
            clear hr hi h3 hz
            go_wp2_with fail
            go_quiet ((go_at_call 56; exact quiet_same (i_num _ _ (by omega) (by omega))))
            go_wp2_with fail
            · have hne : ((Proofs.YtofabikjjkapmaaGreat.ent A j k + Proofs.YtofabikjjkapmaaGreat.ent A (Bs.length - 1 - j) (Bs.length - 1 - k)) % 10007 != z) = true := by assumption
              go_ret2
              refine ⟨?_, below_drewN (below_drewN B2.out _) _⟩
              have hF : symB A Bs = false := by
                unfold symB
                rw [List.all_eq_false]
                refine ⟨j, by simp [hlt], ?_⟩
                rw [Bool.not_eq_true, List.all_eq_false]
                refine ⟨k, by simp [hlt2], ?_⟩
                unfold symAt
                rw [HZ.out]
                simpa using hne
              rw [hF]
              rfl
            · have hne : ((Proofs.YtofabikjjkapmaaGreat.ent A j k + Proofs.YtofabikjjkapmaaGreat.ent A (Bs.length - 1 - j) (Bs.length - 1 - k)) % 10007 != z) = false := by assumption
              go_roundw
              case rel =>
                refine ⟨k + 1, _, by omega, by go_num, rfl, fun b hb => ?_⟩
                by_cases e : b = k
                · subst e
                  unfold symAt
                  rw [HZ.out]
                  simpa using hne
                · exact hQ.out b (by omega)
              case measure => simp [intOf]; omega
          · have : k = Bs.length := by omega
            subst this
            go_wp2_with fail
            go_roundw
            case rel =>
              refine ⟨j + 1, _, by omega, by go_num, rfl, fun a b ha hb => ?_⟩
              by_cases e : a = j
              · subst e
                exact hQ.out b hb
              · exact hP.out a b (by omega) hb
            case measure => simp [intOf]; omega
      · have : j = Bs.length := by omega
        subst this
        go_wp2_with fail
        go_ret2
        refine ⟨?_, below_drewN B2.out _⟩
        have hF : symB A Bs = true := by
          unfold symB
          rw [List.all_eq_true]
          intro a ha
          rw [List.all_eq_true]
          intro b hb
          exact hP.out a b (by simpa using ha) (by simpa using hb)
        rw [hF]
        rfl
end Go.Proofs.YtofabikjjkapmaaGreat

set_option linter.unusedVariables false
set_option linter.unusedSimpArgs false
namespace Go.Proofs.YtofabikjjkapmaaGreat
open Go.RowKit

theorem tot_le {n : Nat} : ∀ {xss : List (List Int)}, (∀ zs ∈ xss, zs.length ≤ n) → tot xss ≤ xss.length * n
  | [], _ => by simp [tot]
  | zs :: r, h => by
    rw [tot_cons, List.length_cons, Nat.succ_mul]
    have h1 := h zs List.mem_cons_self
    have h2 := tot_le (xss := r) fun ys hy => h ys (List.mem_cons_of_mem _ hy)
    omega
theorem IsTab.numTab {A : List (List Int)} {Bs : List Int} (h : IsTab A Bs) : NumTab A Bs :=
  ⟨by have := h.len; have := h.hi; omega, by have := h.hi; omega, fun zs hz => ⟨nums_iff.1 (h.row zs hz).2, by have := (h.row zs hz).1; have := h.hi; omega⟩, nums_iff.1 h.num⟩
theorem OT.nil (w : World) (B C : Nat) : OT w B C (.agg #[.slice none 0 0, .slice none 0 0]) [] [] :=
  ⟨_, _, [], rfl, Own.nil _ _ _, fun b hb => by simp [Value.ownBlock] at hb, RowsOwn.nil _ _ _ _, OI.nil _ _ _ _, fun k u hu => by simp at hu⟩

end Go.Proofs.YtofabikjjkapmaaGreat

set_option linter.unusedVariables false
set_option linter.unusedSimpArgs false
namespace Go.Proofs.YtofabikjjkapmaaGreat
open Go.RowKit

end Go.Proofs.YtofabikjjkapmaaGreat

set_option maxRecDepth 100000
set_option linter.unusedVariables false
set_option linter.unusedSimpArgs false
namespace Go.Proofs.YtofabikjjkapmaaGreat
open Go.RowKit

def repT (A : List (List Int)) (B : List Int) : Nat → List (List Int) × List Int
  | 0 => (A, B)
  | n + 1 => (compA (repT A B n).1 (repT A B n).2 A B, (repT A B n).2 ++ B)
/-- a square tableau of numbers -/
structure Sq (A : List (List Int)) (B : List Int) (s : Nat) : Prop where
  la : A.length = s
  lb : B.length = s
  rows : ∀ r ∈ A, Nums r ∧ r.length = s
  ws : Nums B
theorem Sq.numTab {A : List (List Int)} {B : List Int} {s : Nat} (h : Sq A B s) (hs : s ≤ 1000) : NumTab A B :=
  ⟨by rw [h.la]; exact hs, by rw [h.lb]; exact hs, fun r hr => ⟨(h.rows r hr).1, by rw [(h.rows r hr).2]; exact hs⟩, h.ws⟩
theorem Sq.comp {A1 A2 : List (List Int)} {B1 B2 : List Int} {s t : Nat} (h : Sq A1 B1 s) (h' : Sq A2 B2 t) : Sq (compA A1 B1 A2 B2) (B1 ++ B2) (s + t) := by
  refine ⟨by simp [compA, h.la, h'.la], by simp [h.lb, h'.lb], fun r hr => ?_, fun z hz => ?_⟩
  · rcases List.mem_append.1 hr with hr | hr
    · obtain ⟨x, hx, rfl⟩ := List.mem_map.1 hr
      refine ⟨fun z hz => ?_, by simp [padR, (h.rows x hx).2, h'.lb]⟩
      rcases List.mem_append.1 hz with hz | hz
      · exact (h.rows x hx).1 z hz
      · have := (List.mem_replicate.1 hz).2; omega
    · obtain ⟨x, hx, rfl⟩ := List.mem_map.1 hr
      refine ⟨fun z hz => ?_, by simp [(h'.rows x hx).2, h.lb]⟩
      rcases List.mem_append.1 hz with hz | hz
      · exact h.ws z hz
      · exact (h'.rows x hx).1 z hz
  · rcases List.mem_append.1 hz with hz | hz
    · exact h.ws z hz
    · exact h'.ws z hz
theorem Sq.rep {A : List (List Int)} {B : List Int} {s : Nat} (h : Sq A B s) : ∀ n, Sq (repT A B n).1 (repT A B n).2 ((n + 1) * s)
  | 0 => by simpa [repT] using h
  | n + 1 => by
    have := (Sq.rep h n).comp h
    rw [show (n + 1 + 1) * s = (n + 1) * s + s from by rw [Nat.succ_mul]]
    exact this
theorem Sq.scl {A : List (List Int)} {B : List Int} {s : Nat} (hA : A.length = s) (hB : B.length = s) (hr : ∀ r ∈ A, r.length = s) (f : Int) : Sq (A.map (Go.Proofs.YtofabikjjkapmaaGreat.scl f)) (Go.Proofs.YtofabikjjkapmaaGreat.scl f B) s := by
  refine ⟨by simpa using hA, by rw [scl_len]; exact hB, fun r h => ?_, scl_nums _ _⟩
  obtain ⟨x, hx, rfl⟩ := List.mem_map.1 h
  exact ⟨scl_nums _ _, by rw [scl_len]; exact hr x hx⟩

def repFac (k : Int) : Int := pw k 10005
def repC (A : List (List Int)) (Bs : List Int) (k : Int) : Int := if tabB A Bs then (if inR k 1 8 then (if (Bs.length : Int) * k ≤ 8 then 0 else 3) else 2) else 1
def repR (A : List (List Int)) (Bs : List Int) (k : Int) : List (List Int) × List Int := if repC A Bs k = 0 then repT (A.map (scl (repFac k))) (scl (repFac k) Bs) (k.toNat - 1) else ([], [])
def IsRep (A : List (List Int)) (Bs : List Int) (k : Int) (RA : List (List Int)) (RB : List Int) (c : Int) : Prop := RA = (repR A Bs k).1 ∧ RB = (repR A Bs k).2 ∧ c = repC A Bs k
theorem IsRep.unique {A : List (List Int)} {Bs : List Int} {k : Int} {RA RA' : List (List Int)} {RB RB' : List Int} {c c' : Int} (h : IsRep A Bs k RA RB c) (h' : IsRep A Bs k RA' RB' c') : RA = RA' ∧ RB = RB' ∧ c = c' := by
  obtain ⟨rfl, rfl, rfl⟩ := h
  obtain ⟨rfl, rfl, rfl⟩ := h'
  exact ⟨rfl, rfl, rfl⟩
theorem repC_ok {A : List (List Int)} {Bs : List Int} {k : Int} (h : repC A Bs k = 0) : tabB A Bs = true ∧ 1 ≤ k ∧ k ≤ 8 ∧ (Bs.length : Int) * k ≤ 8 := by
  unfold repC at h
  cases ht : tabB A Bs with
  | false => rw [ht] at h; simp at h
  | true =>
    rw [ht] at h
    cases hr : inR k 1 8 with
    | false => rw [hr] at h; simp at h
    | true =>
      rw [hr] at h
      by_cases hm : (Bs.length : Int) * k ≤ 8
      · have := inR_iff.1 hr
        exact ⟨rfl, this.1, this.2, hm⟩
      · simp [hm] at h
theorem rep_sq {A : List (List Int)} {Bs : List Int} {k : Int} (h : tabB A Bs = true) (n : Nat) : Sq (repT (A.map (scl (repFac k))) (scl (repFac k) Bs) n).1 (repT (A.map (scl (repFac k))) (scl (repFac k) Bs) n).2 ((n + 1) * Bs.length) :=
  (Sq.scl (isTab_of h).len rfl (fun r hr => ((isTab_of h).row r hr).1) _).rep n
theorem rep_bd {s n : Nat} {k : Int} (h1 : 1 ≤ k) (h : (s : Int) * k ≤ 8) (hn : n + 1 ≤ k.toNat) : (n + 1) * s ≤ 8 := by
  have h2 : ((n + 1 : Nat) : Int) ≤ k := by omega
  have h3 : (s : Int) * ((n + 1 : Nat) : Int) ≤ (s : Int) * k := Int.mul_le_mul_of_nonneg_left h2 (by omega)
  have h4 : (((n + 1) * s : Nat) : Int) = (s : Int) * ((n + 1 : Nat) : Int) := by rw [Int.natCast_mul, Int.mul_comm]
  omega
theorem IsRep.short {A : List (List Int)} {Bs : List Int} {k : Int} {RA : List (List Int)} {RB : List Int} {c : Int} (h : IsRep A Bs k RA RB c) : tot RA ≤ 1000 ∧ RB.length ≤ 1000 := by
  obtain ⟨rfl, rfl, rfl⟩ := h
  unfold repR
  by_cases hc : repC A Bs k = 0
  · obtain ⟨ht, h1, h2, h3⟩ := repC_ok hc
    have hq := rep_sq (k := k) ht (k.toNat - 1)
    have hb := rep_bd (n := k.toNat - 1) h1 h3 (by omega)
    rw [if_pos hc]
    have ht2 := tot_le (n := 8) fun r hr => by rw [(hq.rows r hr).2]; exact hb
    rw [hq.la] at ht2
    rw [hq.lb]
    omega
  · rw [if_neg hc]
    simp [tot]

theorem OT.storeAt {w : World} {B C p : Nat} {v : Value} {A : List (List Int)} {Bs : List Int} {cs : Array Value} (h : OT w B C v A Bs) (hk : Blk w p 37 cs) (i : Nat) (u : Value) : OT (w.setCell ⟨p, i, none⟩ u) B C v A Bs := by
  obtain ⟨va, vb, vs, rfl, h1, h2, h3, h4, h5⟩ := h
  have hh : ∀ b, b ≠ p → (w.setCell ⟨p, i, none⟩ u).heap[b]? = w.heap[b]? := fun b hb => Below.heap_setCell w ⟨p, i, none⟩ u b hb
  refine ⟨va, vb, vs, rfl, h1.of_block fun b hb => hh b (fun e => h1.ne_blk hk (by decide) (e ▸ hb)), h2, ⟨h3.1, fun k u' zs hu hz => ?_, h3.2.2⟩, ⟨⟨h4.1.1.of_block fun b hb => hh b (fun e => h4.1.1.ne_blk hk (by decide) (e ▸ hb)), h4.1.2⟩, h4.2⟩, h5⟩
  have h6 := h3.2.1 k u' zs hu hz
  exact ⟨⟨h6.1.1.of_block fun b hb => hh b (fun e => h6.1.1.ne_blk hk (by decide) (e ▸ hb)), h6.1.2⟩, h6.2⟩
end Go.Proofs.YtofabikjjkapmaaGreat

set_option maxRecDepth 100000
set_option linter.unusedVariables false
set_option linter.unusedSimpArgs false
namespace Go.Proofs.YtofabikjjkapmaaGreat
open Go.RowKit

def okBr (n : Nat) : Bool := match brO (tr n) with
  | some bs => bs.all (fun b => Nat.blt 0 (idxN T6n b) && (Nat.ble (idxN T6n b) n && eqN (tr (idxN T6n b - 1)) b)) && Nat.beq (cmpN (srtZ (bs.map (idxN T6n))) (srtZ (bt (n + 1)))) 0
  | none => false
theorem tj1 : (List.range 37).all okBr = true := by decide +kernel
/-- the branches of the n-th tree -/
theorem br_bt {n : Nat} (hn : n < 37) : ∃ bs, brO (tr n) = some bs ∧ (∀ b ∈ bs, 0 < idxN T6n b ∧ idxN T6n b ≤ n ∧ tr (idxN T6n b - 1) = b) ∧ ∀ f : Nat → Int, pz f (bs.map (idxN T6n)) = pz f (bt (n + 1)) := by
  have h1 := tj1
  rw [List.all_eq_true] at h1
  have h2 := h1 n (List.mem_range.2 hn)
  unfold okBr at h2
  cases hb : brO (tr n) with
  | none => rw [hb] at h2; cases h2
  | some bs =>
    rw [hb] at h2
    simp only [Bool.and_eq_true, List.all_eq_true] at h2
    refine ⟨bs, rfl, fun b hbs => ?_, fun f => ?_⟩
    · obtain ⟨a1, a2, a3⟩ := h2.1 b hbs
      exact ⟨blt_lt a1, Nat.le_of_ble_eq_true a2, eqN_iff.1 a3⟩
    · rw [← srtZ_pz, cmpN_zero (Nat.eq_of_beq_eq_true h2.2), srtZ_pz]
/-- the stage weights of the tree at p -/
def stL (A : List (List Int)) (s p : Nat) : List Int := (List.range s).map fun i => wt s (fT A) zeroV i p % 10007
/-- what they are after some branches -/
def stB (A : List (List Int)) (s : Nat) (qs : List Nat) : List Int := (List.range s).map fun i => pz (uV s (fT A) i) qs % 10007
/-- the matrix times the stage weights -/
def apL (A : List (List Int)) (s p : Nat) : List Int := (List.range s).map fun i => uV s (fT A) i p % 10007
theorem stB_nil (A : List (List Int)) (s : Nat) : stB A s [] = List.replicate s 1 := by
  unfold stB
  refine List.ext_getElem (by simp) fun i h1 h2 => ?_
  simp [pz_nil]
theorem stB_end (A : List (List Int)) (s : Nat) {n : Nat} (hn : n < 37) {bs : List (List Nat)} (h : ∀ f : Nat → Int, pz f (bs.map (idxN T6n)) = pz f (bt (n + 1))) : stB A s (bs.map (idxN T6n)) = stL A s (n + 1) := by
  unfold stB stL
  refine List.map_congr_left fun i _ => ?_
  rw [h, wt_zero s (fT A) i (by omega)]
theorem stB_get (A : List (List Int)) (s : Nat) (qs : List Nat) {i : Nat} (hi : i < s) : (stB A s qs)[i]? = some (pz (uV s (fT A) i) qs % 10007) := by
  unfold stB
  rw [List.getElem?_map, List.getElem?_range hi]
  rfl
theorem apL_get (A : List (List Int)) (s p : Nat) {i : Nat} (hi : i < s) : (apL A s p)[i]? = some (uV s (fT A) i p % 10007) := by
  unfold apL
  rw [List.getElem?_map, List.getElem?_range hi]
  rfl
theorem stL_get (A : List (List Int)) (s p : Nat) {i : Nat} (hi : i < s) : (stL A s p)[i]? = some (wt s (fT A) zeroV i p % 10007) := by
  unfold stL
  rw [List.getElem?_map, List.getElem?_range hi]
  rfl
/-- one branch more -/
theorem stB_step (A : List (List Int)) (s : Nat) (qs : List Nat) (q i : Nat) : (pz (uV s (fT A) i) qs % 10007) * (uV s (fT A) i q % 10007) % 10007 = pz (uV s (fT A) i) (qs ++ [q]) % 10007 := by
  rw [pz_append, pz_cons, pz_nil, Int.mul_one]
  exact mulm (Int.emod_emod_of_dvd _ (Int.dvd_refl _)) (Int.emod_emod_of_dvd _ (Int.dvd_refl _))
/-- a row times the stage weights -/
theorem row_ap (A : List (List Int)) (s i : Nat) {p : Nat} (h0 : 0 < p) : sR s (fun k => fT A i k * (stL A s p).getD k 0) % 10007 = uV s (fT A) i p % 10007 := by
  unfold uV
  rw [if_neg (by omega)]
  refine sR_mod fun k hk => ?_
  rw [List.getD_eq_getElem?_getD, stL_get A s p hk]
  exact mulm rfl (Int.emod_emod_of_dvd _ (Int.dvd_refl _))
/-- the weights times the stage weights -/
theorem b_st (A : List (List Int)) (B : List Int) {p : Nat} (h0 : 0 < p) : sR B.length (fun k => fB B k * (stL A B.length p).getD k 0) % 10007 = wgtT B.length (fT A) (fB B) p % 10007 := by
  rw [wgt_pos _ _ _ h0]
  refine sR_mod fun k hk => ?_
  rw [List.getD_eq_getElem?_getD, stL_get A _ p hk]
  exact mulm rfl (Int.emod_emod_of_dvd _ (Int.dvd_refl _))
end Go.Proofs.YtofabikjjkapmaaGreat

set_option maxRecDepth 100000
set_option linter.unusedVariables false
set_option linter.unusedSimpArgs false
namespace Go.Proofs.YtofabikjjkapmaaGreat
open Go.RowKit

set_option maxHeartbeats 1000000 in
theorem lib_GrowI (w : World) (n : Nat) (hn : n ≤ 4294967296) :
    Calls Tryz.prog 200 #[.slice none 0 0, .int .i64 (n : Int)] w fun e w' => ∃ r, e = .returned r ∧ Own w' w.heap.size tI r [] ∧ Below w.heap.size w w' := by
  by_cases h0 : n = 0
  · subst h0
    go_enter Tryz.func200, Tryz.ntmps200
    go_wp2
    go_ret
    exact ⟨_, rfl, Own.nil _ _ _, Below.refl _ _⟩
  · obtain ⟨i, hi, hz, h1, h2⟩ := info_parts T_int.info
    have hp : (0 : Int) < (n : Int) := by omega
    have hr := Go.Lib.run_append_nil_zeros (P := Tryz.prog) w 27 3 27 tI i (.int .i64 0) .i64 .i64 T_int.under Tryz.underlying3 hi hz n (by omega) (by rw [h1]; omega) (by omega) (by rw [h2]; omega)
    have hge := grownCap_ge w n 0 tI
    have hcm := grownCap_le_maxLen w n 0 tI (by simp only [maxLen]; omega)
    have hO : Own (w.drew.alloc (.cells (Builtin.zeroCells (Value.cells (.int .i64 0)) n ++ Builtin.zeroCells (Value.cells (.int .i64 0)) (grownCap w n 0 tI - n)) tI)) w.heap.size tI (.slice (some ⟨w.heap.size, 0, none⟩) 0 (grownCap w n 0 tI)) [] :=
      World.ownsRow_made (w := w.drew) (base := w.heap.size) (e := tI) (size := 1) _ (grownCap w n 0 tI) (Nat.le_refl _) hcm (by simp [size_zeroCells, Value.cells]; omega)
    have HO := Lib.hid hO
    have HB := Lib.hid ((Below.refl w.heap.size w).drew.alloc (Nat.le_refl _) (.cells (Builtin.zeroCells (Value.cells (.int .i64 0)) n ++ Builtin.zeroCells (Value.cells (.int .i64 0)) (grownCap w n 0 tI - n)) tI))
    have HR := Lib.hid hr
    have hcm' : grownCap w n 0 tI ≤ 9223372036854775807 := by simpa [maxLen] using hcm
    clear hO hr hcm
    generalize grownCap w n 0 tI = cp at hge hcm' HO HB HR
    generalize (w.drew.alloc (.cells (Builtin.zeroCells (Value.cells (.int .i64 0)) n ++ Builtin.zeroCells (Value.cells (.int .i64 0)) (cp - n)) tI)) = w1 at HO HB HR
    go_enter Tryz.func200, Tryz.ntmps200
    go_wp2_with (at_builtin; refine Go.Lib.wpList_append_run w rfl _ _ _ _ (by rfl) _ _ (by rfl) (by rfl) _ _ HR.out ?_)
    go_ret
    exact ⟨_, rfl, HO.out, HB.out⟩

theorem flat_take {xss : List (List Int)} {k : Nat} {zs : List Int} (h : xss[k]? = some zs) : (xss.take (k + 1)).flatten = (xss.take k).flatten ++ zs := by
  rw [List.take_add_one, h]; simp
theorem flat_take_le (xss : List (List Int)) (k : Nat) : (xss.take k).flatten.length ≤ xss.flatten.length := by
  conv => rhs; rw [← List.take_append_drop k xss]
  rw [List.flatten_append, List.length_append]; omega
theorem ints_oneCell' (zs : List Int) : ∀ u ∈ ints zs, u.oneCell' = true := by
  intro u hu
  obtain ⟨_, _, rfl⟩ := List.mem_map.1 hu
  rfl
theorem ints_append (a b : List Int) : ints (a ++ b) = ints a ++ ints b := by simp [ints]

set_option maxHeartbeats 1000000 in
theorem lib_ConcatI (w : World) (v : Value) (xss : List (List Int)) (ha : Rows w v xss) (hn : xss.flatten.length ≤ 4294967296) :
    Calls Tryz.prog 155 #[v] w fun e w' => ∃ r, e = .returned r ∧ OwnInts w' w.heap.size tI r xss.flatten ∧ Below w.heap.size w w' := by
  have HA := Lib.hid ha
  obtain ⟨A, c, rfl, h1, h2, h3⟩ := ha.open_
  have H3 := Lib.hid h3
  clear h3 ha
  have HIN := Lib.hid (show ∀ z ∈ xss.flatten, In64 z from fun z hz => by
    obtain ⟨zs, hzs, hz⟩ := List.mem_flatten.1 hz
    obtain ⟨k, hk, rfl⟩ := List.getElem_of_mem hzs
    obtain ⟨ad, u, zs, _, hz0, hu, _⟩ := H3.out k hk
    rw [List.getElem?_eq_getElem hk] at hz0
    cases hz0
    exact hu.2 z hz)
  go_enter Tryz.func155, Tryz.ntmps155
  go_wp2_with fail
  go_loop [3, 11] (fun s i => ∃ k : Nat, k ≤ xss.length ∧ i = .int .i64 k ∧ s = .int .i64 ((xss.take k).flatten.length : Nat)) (fun _ i => xss.length - (intOf i).toNat)
  case atStart => exact ⟨0, Nat.zero_le _, rfl, rfl⟩
  case round =>
    obtain ⟨k, hk, rfl, rfl⟩ := hrel
    by_cases hlt : k < xss.length
    · obtain ⟨ad, u, zs, rfl, hz, hu, hc⟩ := H3.out k hlt
      obtain ⟨A3, c3, rfl, _, _, -⟩ := hu.open_
      have hle := flat_take_le xss (k + 1)
      have hft := flat_take hz
      have e1 : (xss.take (k + 1)).flatten.length = (xss.take k).flatten.length + zs.length := by rw [hft, List.length_append]
      rw [e1] at hle
      have E1 := Lib.hid e1
      clear e1 hft hz hu
      generalize (xss.take k).flatten.length = m at hle E1 ⊢
      have hge0 : (0 : Int) ≤ (m : Int) + (zs.length : Int) := by omega
      go_wp2_with fail
      go_round
      case rel => exact ⟨k + 1, by omega, by go_num, by rw [E1.out]; go_num⟩
      case measure => simp [intOf]; omega
    · have : k = xss.length := by omega
      subst this
      rw [List.take_length]
      have HN0 := Lib.hid hn
      generalize xss.flatten.length = N at hn ⊢
      go_wp2_with fail
      refine (lib_GrowI _ N hn).mono ?_
      rintro e w1 ⟨r, rfl, hown, hb1⟩
      have HO := Lib.hid hown
      have HB := Lib.hid hb1
      clear hown hb1
      go_wp2_with fail
      go_loopw [6, 27] (fun s i wr => ∃ k : Nat, k ≤ xss.length ∧ i = .int .i64 k ∧ Own wr w.heap.size tI s (ints (xss.take k).flatten) ∧ Below w.heap.size w wr) (fun _ i _ => xss.length - (intOf i).toNat)
      case atStart => exact ⟨0, Nat.zero_le _, rfl, HO.out, HB.out⟩
      case round =>
        obtain ⟨k, hk, rfl, hown, hb⟩ := hrel
        clear HO HB
        have HO := Lib.hid hown
        have HB := Lib.hid hb
        clear hown hb
        by_cases hlt : k < xss.length
        · obtain ⟨ad, u, zs, rfl, hz, hu, hc0⟩ := H3.out k hlt
          have hc : wr.cell? (ad.add k) = some u := by
            rw [HB.out.cell (by rw [block_add]; have := World.block_lt_of_cell? w _ hc0; rwa [block_add] at this)]; exact hc0
          have HU := Lib.hid (hu.below HB.out)
          have hft := flat_take hz
          have hle := flat_take_le xss (k + 1)
          rw [hft, List.length_append] at hle
          have hn0 := HN0.out
          have hlen : (xss.take k).flatten.length + zs.length < 1099511627776 := by omega
          have HLE := Lib.hid hlen
          clear hle hn0 hlen
          have HF := Lib.hid hft
          clear hz hu hc0 hft
          go_wp2_with (at_builtin; refine wpList_appN T_int HO.out HU.out.1 (by rw [ints_len, ints_len]; exact HLE.out) HB.out.size (ints_oneCell' _) rfl (by rfl) (by rfl) (by rfl) ?_; intro v1 w2 hown1 hgr1)
          go_roundw
          case rel =>
            refine ⟨k + 1, by omega, by go_num, ?_, hgr1.below HB.out HB.out.size HO.out.ge⟩
            rw [HF.out, ints_append]
            exact hown1
          case measure => simp [intOf]; omega
        · have : k = xss.length := by omega
          subst this
          go_wp2_with fail
          go_ret
          exact ⟨_, rfl, ⟨by simpa using HO.out, HIN.out⟩, HB.out⟩
end Go.Proofs.YtofabikjjkapmaaGreat

set_option maxRecDepth 100000
set_option linter.unusedVariables false
set_option linter.unusedSimpArgs false
namespace Go.Proofs.YtofabikjjkapmaaGreat
open Go.RowKit

theorem Own.whole {w : World} {B : Nat} {e : TypeId} {g n : Nat} {vs : List Value} (h : Own w B e (.slice (some ⟨g, 0, none⟩) n n) vs) (hl : vs.length = n) : w.heap[g]? = some (.cells vs.toArray e (0, 0)) := by
  rcases h.cases with ⟨h, _⟩ | ⟨g', cap, cur, hv, _, _, hg, hc, _, hs, ht⟩
  · cases h
  · simp only [Value.slice.injEq, Option.some.injEq, Addr.mk.injEq, and_true, true_and] at hv
    obtain ⟨rfl, rfl, rfl⟩ := hv
    rw [hg]
    have : cur.toList = vs := by rw [← ht, hl, List.take_of_length_le (by rw [Array.length_toList, hs]; exact Nat.le_refl _)]
    rw [← this]
theorem Own.of_whole {w : World} {B : Nat} {e : TypeId} {g n : Nat} {vs : List Value} (h : w.heap[g]? = some (.cells vs.toArray e (0, 0))) (hl : vs.length = n) (hB : B ≤ g) (hn : n ≤ maxLen) : Own w B e (.slice (some ⟨g, 0, none⟩) n n) vs := by
  subst hl
  exact ⟨by simp, .inr ⟨g, _, _, rfl, hB, h, Nat.le_refl _, hn, by simp, by simp⟩⟩

set_option maxHeartbeats 1000000 in
theorem lib_Mul1 (w : World) (n : Nat) (h1 : 1 ≤ n) (h8 : n ≤ 8) :
    Calls Tryz.prog 254 #[.int .u64 1, .int .u64 (n : Int)] w fun e w' => e = .returned (.tuple #[.int .u64 0, .int .u64 (n : Int)]) ∧ w = w' := by
  have : n = 1 ∨ n = 2 ∨ n = 3 ∨ n = 4 ∨ n = 5 ∨ n = 6 ∨ n = 7 ∨ n = 8 := by omega
  rcases this with rfl | rfl | rfl | rfl | rfl | rfl | rfl | rfl
  all_goals
    go_enter Tryz.func254, Tryz.ntmps254
    go_wp2
    go_ret2
    exact ⟨rfl, rfl⟩

/-- m times g, then zeros up to n -/
def fillG (g : Int) (m n : Nat) : List Value := List.replicate m (Value.int .i64 g) ++ List.replicate (n - m) (Value.int .i64 0)
theorem fillG_len {g : Int} {m n : Nat} (h : m ≤ n) : (fillG g m n).length = n := by simp [fillG]; omega
theorem fillG_splice {g : Int} {m n c : Nat} (h : m + c ≤ n) : splice (fillG g m n) m (List.replicate c (Value.int .i64 g)) = fillG g (m + c) n := by
  unfold splice fillG
  rw [List.take_left' (by simp), List.length_replicate, List.drop_append]
  simp only [List.length_replicate, List.drop_replicate]
  rw [show m - (m + c) = 0 by omega, show m + c - m = c by omega, show n - m - c = n - (m + c) by omega]
  simp only [List.replicate_zero, List.nil_append]
  rw [← List.append_assoc, List.replicate_append_replicate]
theorem fillG_get {g : Int} {m n j : Nat} (h : j < m) : (fillG g m n)[j]? = some (Value.int .i64 g) := by
  unfold fillG
  rw [List.getElem?_append_left (by simpa using h)]
  simp [h]

theorem size_int : (Tryz.prog.info? tI).map (·.size) = some 1 := by kernel_rfl

theorem copy_src {w w1 : World} {ad : Addr} {g : Int} (hb : Below w.heap.size w w1) (hc : w.cell? (ad.add 0) = some (.int .i64 g)) : ∀ (j : Nat) (u : Value), [Value.int .i64 g][j]? = some u → w1.cell? (ad.add j) = some u := by
  intro j u hj
  cases j with
  | zero =>
    simp at hj; subst hj
    rw [hb.cell (World.block_lt_of_cell? w _ hc)]; exact hc
  | succ j => simp at hj

set_option maxHeartbeats 1000000 in
theorem lib_Repeat1 (w : World) (v : Value) (g : Int) (n : Nat) (ha : Ints w v [g]) (h1 : 1 ≤ n) (h8 : n ≤ 8) :
    Calls Tryz.prog 235 #[v, .int .i64 (n : Int)] w fun e w' => ∃ r, e = .returned r ∧ OwnInts w' w.heap.size tI r (List.replicate n g) ∧ Below w.heap.size w w' := by
  have HA := Lib.hid ha
  obtain ⟨A, c, rfl, l1, l2, l3⟩ := ha.open_
  obtain ⟨ad, z, rfl, hz, hz2, hc⟩ := l3 0 (by simp)
  obtain rfl : g = z := by simpa using hz
  have HC0 := Lib.hid hc
  clear l3 ha hz hc
  have H64 := Lib.hid hz2
  clear hz2
  go_enter Tryz.func235, Tryz.ntmps235
  go_wp2_with fail
  refine (lib_Mul1 _ n h1 h8).mono ?_
  rintro e w' ⟨rfl, rfl⟩
  go_wp2_with (first | (at_make; refine wpList_mk rfl _ _ _ rfl _ _ _ T_int n _ (by rfl) (by rfl) (by rfl) (by omega) _ ?_; intro w1 hown hb hs1; have HOWN := Lib.hid hown; have HB1 := Lib.hid hb; clear hown hb) | (refine wpList_copy_splice rfl (.tmp 31) (.tmp 32) _ _ (by rfl) tI T_int.under size_int (some ⟨w.heap.size, 0, none⟩) (some ad) n n 1 c (by rfl) (by rfl) w.heap.size 0 (fillG g 0 n) tI (by simpa [fillG] using HOWN.out.whole (by simp)) [.int .i64 g] (Nat.min_eq_left h1).symm (fun _ => ⟨rfl, ad, rfl, copy_src HB1.out HC0.out⟩) (by rw [fillG_len (by omega)]; simp; omega) (by simp [Value.oneCell']) w.heap.size w HB1.out (Nat.le_refl _) ?_; intro w2 hg2 hb2; have HB2 := Lib.hid hb2; clear hb2))
  have hg3 : Hid (w2.heap[w.heap.size]? = some (.cells (fillG g 1 n).toArray tI (0, 0))) := by
    have e : splice (fillG g 0 n) 0 [Value.int .i64 g] = fillG g 1 n := by simpa using fillG_splice (g := g) (m := 0) (c := 1) (n := n) (by omega)
    have := hg2.out
    rw [e] at this
    exact this
  clear hg2 HB1 HOWN
  go_loopw [8] (fun i wr => ∃ m : Nat, 1 ≤ m ∧ m ≤ n ∧ i = .int .i64 m ∧ Hid (wr.heap[w.heap.size]? = some (.cells (fillG g m n).toArray tI (0, 0))) ∧ Below w.heap.size w wr) (fun i _ => n - (intOf i).toNat)
  case atStart => exact ⟨1, Nat.le_refl _, h1, rfl, hg3, HB2.out⟩
  case round =>
    obtain ⟨m, hm1, hmn, rfl, hgm, hb⟩ := hrel
    clear hg3 HB2
    have HB := Lib.hid hb
    clear hb
    by_cases hlt : m < n
    · have hlt' : (m : Int) < (n : Int) := by omega
      have hne : ¬ n = m := by omega
      have hm0 : (0 : Int) ≤ (m : Int) := by omega
      have hmle : (m : Int) ≤ (n : Int) := by omega
      have hcm : m + Nat.min m (n - m) ≤ n := by
        have : Nat.min m (n - m) ≤ n - m := Nat.min_le_right _ _
        omega
      have hc1 : 1 ≤ Nat.min m (n - m) := Nat.le_min.2 ⟨hm1, by omega⟩
      have HSP := Lib.hid (fillG_splice (g := g) hcm)
      have HSRC := Lib.hid (show ∀ (j : Nat) (u : Value), (List.replicate (Nat.min m (n - m)) (Value.int .i64 g))[j]? = some u → wr.cell? ((⟨w.heap.size, 0, none⟩ : Addr).add j) = some u from fun j u hj => by
        have hj1 := (List.getElem?_eq_some_iff.1 hj).1
        simp only [List.length_replicate] at hj1
        have hjm : j < m := by have : Nat.min m (n - m) ≤ m := Nat.min_le_left _ _; omega
        have hju : u = .int .i64 g := by
          obtain ⟨_, e⟩ := List.getElem?_eq_some_iff.1 hj
          simp at e
          exact e.symm
        subst hju
        rw [Addr.add_lit, Nat.zero_add, cell_of_row wr _ j _ tI (0, 0) hgm.out]
        simpa using fillG_get hjm)
      generalize hcc : Nat.min m (n - m) = cc at hcm hc1 HSP HSRC
      have HCC := Lib.hid hcc
      clear hcc
      have wcc : IntKind.i64.wrap ((m : Int) + (cc : Int)) = (m : Int) + (cc : Int) := IntWalk.i64_in _ (by omega)
      go_wp2_with fail
      go_region_held3 (fun _ => True) (exact trivial) ((refine step_copy_splice rfl (.tmp 41) (.tmp 44) 27 27 (by rfl) tI T_int.under size_int (some ⟨w.heap.size, m, none⟩) (some ⟨w.heap.size, 0, none⟩) (n - m) (n - m) m n (by rfl) (by rfl) w.heap.size m (fillG g m n) tI hgm.out (List.replicate cc (.int .i64 g)) (by rw [List.length_replicate]; exact HCC.out.symm) (fun _ => ⟨rfl, _, rfl, HSRC.out⟩) (by rw [List.length_replicate, fillG_len hmn]; exact hcm) (by intro v hv; obtain ⟨_, rfl⟩ := List.mem_replicate.1 hv; rfl) w.heap.size w HB.out.drew (Nat.le_refl _) ?_; intro w4 hg4 hb4))
      have HG4 : Hid (w4.heap[w.heap.size]? = some (.cells (fillG g (m + cc) n).toArray tI (0, 0))) := by
        have := hg4.out
        rw [HSP.out] at this
        exact this
      have HB4 := Lib.hid hb4
      clear hg4 hb4
      go_wp2_with fail
      go_roundw
      case rel => exact ⟨m + cc, by omega, hcm, by go_num, HG4, HB4.out⟩
      case measure => simp [intOf]; omega
    · have : m = n := by omega
      subst this
      go_wp2_with fail
      go_ret
      have e : fillG g m m = ints (List.replicate m g) := by simp [fillG, ints]
      have hh := hgm.out
      rw [e] at hh
      refine ⟨_, rfl, ⟨Own.of_whole hh (by simp [ints]) (Nat.le_refl _) (by simp only [maxLen]; omega), fun z hz => ?_⟩, HB.out⟩
      obtain ⟨_, rfl⟩ := List.mem_replicate.1 hz
      exact H64.out
end Go.Proofs.YtofabikjjkapmaaGreat

