/- Walks: IsSymmetric of the program and of the reference. -/
import Derived.Test.YtaielpgijggjgaaRows
import Derived.Test.YtaielpgijggjgaaMem
import Derived.Test.YtaielpgijggjgaaMem2
import Derived.Test.YtaielpgijggjgaaNum
import Derived.Test.YtaielpgijggjgaaA
import Derived.Test.YtaielpgijggjgaaB
import Derived.Test.YtaielpgijggjgaaLR
import Derived.Test.YtaielpgijggjgaaTab
import Derived.WalkLawsBesides
import Derived.BigGuardPart
import Derived.Deep.QuietTactic
import Derived.BigQuiet
set_option linter.unusedVariables false
set_option linter.unusedSimpArgs false
namespace Go.Proofs.Ytaielpgijggjgaa
open Go.RowKit

/-- the number in row i and column k -/
def ent (A : List (List Int)) (i k : Nat) : Int := (A.getD i []).getD k 0
theorem ent_eq {A : List (List Int)} {i k : Nat} {zs : List Int} {z : Int} (h : A[i]? = some zs) (hz : zs[k]? = some z) : ent A i k = z := by simp [ent, List.getD, h, hz]

/-- what the test for a tableau says -/
structure IsTab (A : List (List Int)) (Bs : List Int) : Prop where
  lo : 1 ≤ Bs.length
  hi : Bs.length ≤ 8
  len : A.length = Bs.length
  row : ∀ zs ∈ A, zs.length = Bs.length ∧ nums zs = true
  num : nums Bs = true
theorem isTab_of {A : List (List Int)} {Bs : List Int} (h : tabB A Bs = true) : IsTab A Bs := by
  simp only [tabB, Bool.and_eq_true, decide_eq_true_eq, List.all_eq_true, inR_iff] at h
  obtain ⟨⟨⟨h1, h2⟩, h3⟩, h4⟩ := h
  refine ⟨by omega, by omega, h2, fun zs hz => ?_, h3⟩
  have := h4 zs hz
  simpa [rowB] using this

/-- an entry of a tableau's matrix, in memory -/
theorem Rows.ent {w : World} {B : Option Addr} {c m n : Nat} {A : List (List Int)} (h : Rows w (.slice B m c) A) (hr : ∀ zs ∈ A, zs.length = n ∧ nums zs = true) {i k : Nat} (hi : i < A.length) (hk : k < n) :
    ∃ ad ad' c', B = some ad ∧ w.cell? (ad.add i) = some (.slice (some ad') n c') ∧ w.cell? (ad'.add k) = some (.int .i64 (ent A i k)) ∧ n ≤ c' ∧ c' ≤ 9223372036854775807 ∧ 0 ≤ Proofs.Ytaielpgijggjgaa.ent A i k ∧ Proofs.Ytaielpgijggjgaa.ent A i k ≤ 10006 := by
  obtain ⟨vs, hc, hl, hv⟩ := h
  obtain ⟨zs, hz⟩ : ∃ zs, A[i]? = some zs := ⟨_, List.getElem?_eq_getElem hi⟩
  have hzl := hr zs (List.mem_of_getElem? hz)
  obtain ⟨u, hu⟩ : ∃ u, vs[i]? = some u := ⟨_, List.getElem?_eq_getElem (by omega)⟩
  obtain ⟨ad, n', c0, e0, hcell⟩ := hc.at_ hu
  have hi := hv i u zs hu hz
  obtain ⟨B', c', rfl, h1, h2, h3⟩ := hi.open_
  obtain ⟨ad', z, hB, hzk, hin, hcz⟩ := h3 k (by omega)
  subst hB
  simp only [Value.slice.injEq] at e0
  have he := ent_eq hz hzk
  have hnb := nums_iff.1 hzl.2 z (List.mem_of_getElem? hzk)
  refine ⟨ad, ad', c', e0.1, by rw [hcell, hzl.1], by rw [he]; exact hcz, by omega, h2, ?_⟩
  rw [he]
  exact hnb

def symAt (A : List (List Int)) (Bs : List Int) (n i k : Nat) : Bool := decide ((ent A i k + ent A (n - 1 - i) (n - 1 - k)) % 10007 = Bs.getD k 0)
def symB (A : List (List Int)) (Bs : List Int) : Bool := (List.range Bs.length).all fun i => (List.range Bs.length).all fun k => symAt A Bs Bs.length i k
def symR (A : List (List Int)) (Bs : List Int) : Bool := tabB A Bs && symB A Bs
def tabC (A : List (List Int)) (Bs : List Int) : Int := if tabB A Bs then 0 else 1

set_option maxHeartbeats 400000 in
theorem im_stages (w : World) (v : Value) (A : List (List Int)) (Bs : List Int) (ha : TabArg w v A Bs) :
    Calls Try.prog 39 #[v] w fun e w' => e = .returned (.int .i64 Bs.length) ∧ Below w.heap.size w w' := by
  obtain ⟨va, vb, rfl, ha1, ha2⟩ := ha
  have BB := Lib.hid (below1 w (.cells #[va, vb] 37))
  obtain ⟨A2, c2, rfl, k1, k2, _⟩ := ha2.open_
  clear ha1 ha2
  go_enter Try.func39, Try.ntmps39
  go_wp2
  go_ret
  exact ⟨rfl, BB.out⟩

set_option maxHeartbeats 2000000 in
theorem i_IsSymmetric (w : World) (v : Value) (A : List (List Int)) (Bs : List Int) (ha : TabArg w v A Bs) :
    Calls Try.prog 20 #[v] w fun e w' => e = .returned (.tuple #[.bool (symR A Bs), .int .i64 (tabC A Bs)]) ∧ Below w.heap.size w w' := by
  obtain ⟨va, vb, rfl, ha1, ha2⟩ := ha
  obtain ⟨A1, c1, hva, y1, y2, _⟩ := ha1.open_
  obtain ⟨A2, c2, hvb, y3, y4, _⟩ := ha2.open_
  have BB := Lib.hid (below1 w (.cells #[va, vb] 37))
  have HT := Lib.hid (show TabArg (w.alloc (.cells #[va, vb] 37)) (.agg #[va, vb]) A Bs from ⟨va, vb, rfl, ha1.below BB.out, ha2.below BB.out⟩)
  clear ha1 ha2
  subst hva
  subst hvb
  cases ht : tabB A Bs with
  | false =>
    rw [show symR A Bs = false by simp [symR, ht], show tabC A Bs = 1 by simp [tabC, ht]]
    go_enter Try.func20, Try.ntmps20
    go_wp2_with fail
    refine (i_IsTableau _ _ _ _ HT.out).mono ?_
    rintro e w1 ⟨rfl, hb1⟩
    have B1 := Lib.hid (BB.out.trans (hb1.mono BB.out.size))
    clear hb1
    go_wp2_with fail
    go_ret2
    exact ⟨rfl, B1.out⟩
  | true =>
    rw [show symR A Bs = symB A Bs by simp [symR, ht], show tabC A Bs = 0 by simp [tabC, ht]]
    have hI := isTab_of ht
    have HI := Lib.hid hI
    have hn8 := hI.hi
    go_enter Try.func20, Try.ntmps20
    go_wp2_with fail
    refine (i_IsTableau _ _ _ _ HT.out).mono ?_
    rintro e w1 ⟨rfl, hb1⟩
    have B1 := Lib.hid (BB.out.trans (hb1.mono BB.out.size))
    have HT1 := Lib.hid (HT.out.below hb1)
    have K1 := Lib.hid ((Blk.new w #[_, _] 37).below hb1 (by simp))
    have f0 : w1.cell? ⟨w.heap.size, 0, none⟩ = some (.slice A1 A.length c1) := K1.out.cell 0
    have f1 : w1.cell? ⟨w.heap.size, 1, none⟩ = some (.slice A2 Bs.length c2) := K1.out.cell 1
    clear hb1 hI
    go_wp2_with fail
    refine (im_stages _ _ _ _ HT1.out).mono ?_
    rintro e w2 ⟨rfl, hb2⟩
    have B2 := Lib.hid (B1.out.trans (hb2.mono B1.out.size))
    have HT2 := Lib.hid (HT1.out.below hb2)
    have K2 := Lib.hid (K1.out.below hb2 K1.out.lt)
    have g0 : w2.cell? ⟨w.heap.size, 0, none⟩ = some (.slice A1 A.length c1) := K2.out.cell 0
    have g1 : w2.cell? ⟨w.heap.size, 1, none⟩ = some (.slice A2 Bs.length c2) := K2.out.cell 1
    clear hb2 f0 f1 K1 HT1 B1
    go_wp2_with fail
    go_loopw [13] (fun i wr => ∃ j n : Nat, j ≤ Bs.length ∧ i = .int .i64 j ∧ wr = w2.drewN n ∧ Hid (∀ a b, a < j → b < Bs.length → symAt A Bs Bs.length a b = true)) (fun i _ => Bs.length - (intOf i).toNat)
    case atStart => exact ⟨0, 0, Nat.zero_le _, rfl, rfl, fun a b h => by omega⟩
    case round =>
      obtain ⟨j, n, hj, rfl, rfl, hP⟩ := hrel
      by_cases hlt : j < Bs.length
      · have hlt' : (j : Int) < (Bs.length : Int) := by omega
        go_wp2_with fail
        go_loopw [17] (fun i wr => ∃ k m : Nat, k ≤ Bs.length ∧ i = .int .i64 k ∧ wr = w2.drewN m ∧ Hid (∀ b, b < k → symAt A Bs Bs.length j b = true)) (fun i _ => Bs.length - (intOf i).toNat)
        case atStart => exact ⟨0, n, Nat.zero_le _, rfl, rfl, fun b h => by omega⟩
        case round =>
          obtain ⟨k, m, hk, rfl, rfl, hQ⟩ := hrel
          by_cases hlt2 : k < Bs.length
          · have hTa := HT2.out
            obtain ⟨_, _, e0, hr, hi⟩ := hTa
            simp only [Value.agg.injEq, Array.mk.injEq, List.cons.injEq, and_true] at e0
            obtain ⟨rfl, rfl⟩ := e0
            obtain ⟨ad, ad1, d1, rfl, p1, p2, p3, p4, p5, p6⟩ := hr.ent HI.out.row (i := j) (k := k) (by rw [HI.out.len]; omega) hlt2
            obtain ⟨ad', ad2, d2, e1, q1, q2, q3, q4, q5, q6⟩ := hr.ent HI.out.row (i := Bs.length - 1 - j) (k := Bs.length - 1 - k) (by rw [HI.out.len]; omega) (by omega)
            simp only [Option.some.injEq] at e1
            subst e1
            obtain ⟨_, _, e2, _, _, h3⟩ := hi.open_
            simp only [Value.slice.injEq] at e2
            obtain ⟨rfl, _, rfl⟩ := e2
            obtain ⟨ad3, z, rfl, hz, _, r1⟩ := h3 k hlt2
            have HZ := Lib.hid (show Bs.getD k 0 = z by simp [List.getD, hz])
            have HL := Lib.hid HI.out.len
            have hla : A.length ≤ Bs.length := by rw [HL.out]; omega
            have hlb : Bs.length ≤ A.length := by rw [HL.out]; omega
            have w1' : IntKind.i64.wrap ((Bs.length : Int) - 1) = (Bs.length : Int) - 1 := IntWalk.i64_in _ (by omega)
            have w2' : IntKind.i64.wrap ((Bs.length : Int) - 1 - (j : Int)) = (Bs.length : Int) - 1 - (j : Int) := IntWalk.i64_in _ (by omega)
            have w3' : IntKind.i64.wrap ((Bs.length : Int) - 1 - (k : Int)) = (Bs.length : Int) - 1 - (k : Int) := IntWalk.i64_in _ (by omega)
            have t1 : ((Bs.length : Int) - 1 - (j : Int)).toNat = Bs.length - 1 - j := by omega
            have t2 : ((Bs.length : Int) - 1 - (k : Int)).toNat = Bs.length - 1 - k := by omega
            have i1 : (0 : Int) ≤ (Bs.length : Int) - 1 - (j : Int) := by omega
            have i2 : (0 : Int) ≤ (Bs.length : Int) - 1 - (k : Int) := by omega
            have i3 : (Bs.length : Int) - 1 - (j : Int) < (A.length : Int) := by omega
            have i4 : (Bs.length : Int) - 1 - (k : Int) < (Bs.length : Int) := by omega
            have i5 : (j : Int) < (A.length : Int) := by omega
            have i6 : (k : Int) < (Bs.length : Int) := by omega
            have w4' : IntKind.i64.wrap (Proofs.Ytaielpgijggjgaa.ent A j k + Proofs.Ytaielpgijggjgaa.ent A (Bs.length - 1 - j) (Bs.length - 1 - k)) = Proofs.Ytaielpgijggjgaa.ent A j k + Proofs.Ytaielpgijggjgaa.ent A (Bs.length - 1 - j) (Bs.length - 1 - k) := IntWalk.i64_in _ (by omega)
            clear hr hi h3 hz
            go_wp2_with fail
            go_quiet ((go_at_call 33; exact quiet_same (i_num _ _ (by omega) (by omega))))
            go_wp2_with fail
            · have hne : ((Proofs.Ytaielpgijggjgaa.ent A j k + Proofs.Ytaielpgijggjgaa.ent A (Bs.length - 1 - j) (Bs.length - 1 - k)) % 10007 != z) = true := by assumption
              go_ret2
              refine ⟨?_, below_drewN (below_drewN B2.out _) _⟩
              have hF : symB A Bs = false := by
                unfold symB
                rw [List.all_eq_false]
                refine ⟨j, by simp [hlt], ?_⟩
                rw [Bool.not_eq_true, List.all_eq_false]
                refine ⟨k, by simp [hlt2], ?_⟩
                unfold symAt
                rw [HZ.out]
                simpa using hne
              rw [hF]
              rfl
            · have hne : ((Proofs.Ytaielpgijggjgaa.ent A j k + Proofs.Ytaielpgijggjgaa.ent A (Bs.length - 1 - j) (Bs.length - 1 - k)) % 10007 != z) = false := by assumption
              go_roundw
              case rel =>
                refine ⟨k + 1, _, by omega, by go_num, rfl, fun b hb => ?_⟩
                by_cases e : b = k
                · subst e
                  unfold symAt
                  rw [HZ.out]
                  simpa using hne
                · exact hQ.out b (by omega)
              case measure => simp [intOf]; omega
          · have : k = Bs.length := by omega
            subst this
            go_wp2_with fail
            go_roundw
            case rel =>
              refine ⟨j + 1, _, by omega, by go_num, rfl, fun a b ha hb => ?_⟩
              by_cases e : a = j
              · subst e
                exact hQ.out b hb
              · exact hP.out a b (by omega) hb
            case measure => simp [intOf]; omega
      · have : j = Bs.length := by omega
        subst this
        go_wp2_with fail
        go_ret2
        refine ⟨?_, below_drewN B2.out _⟩
        have hF : symB A Bs = true := by
          unfold symB
          rw [List.all_eq_true]
          intro a ha
          rw [List.all_eq_true]
          intro b hb
          exact hP.out a b (by simpa using ha) (by simpa using hb)
        rw [hF]
        rfl
set_option maxHeartbeats 2000000 in
theorem s_IsSymmetric (w : World) (v : Value) (A : List (List Int)) (Bs : List Int) (ha : TabArg w v A Bs) :
    Calls Try.prog 18 #[v] w fun e w' => e = .returned (.tuple #[.bool (symR A Bs), .int .i64 (tabC A Bs)]) ∧ Below w.heap.size w w' := by
  obtain ⟨va, vb, rfl, ha1, ha2⟩ := ha
  obtain ⟨A1, c1, hva, y1, y2, _⟩ := ha1.open_
  obtain ⟨A2, c2, hvb, y3, y4, _⟩ := ha2.open_
  have BB := Lib.hid (below1 w (.cells #[va, vb] 37))
  have HT := Lib.hid (show TabArg (w.alloc (.cells #[va, vb] 37)) (.agg #[va, vb]) A Bs from ⟨va, vb, rfl, ha1.below BB.out, ha2.below BB.out⟩)
  clear ha1 ha2
  subst hva
  subst hvb
  cases ht : tabB A Bs with
  | false =>
    rw [show symR A Bs = false by simp [symR, ht], show tabC A Bs = 1 by simp [tabC, ht]]
    go_enter Try.func18, Try.ntmps18
    go_wp2_with fail
    refine (s_l09Is _ _ _ _ HT.out).mono ?_
    rintro e w1 ⟨rfl, hb1⟩
    have B1 := Lib.hid (BB.out.trans (hb1.mono BB.out.size))
    clear hb1
    go_wp2_with fail
    go_ret2
    exact ⟨rfl, B1.out⟩
  | true =>
    rw [show symR A Bs = symB A Bs by simp [symR, ht], show tabC A Bs = 0 by simp [tabC, ht]]
    have hI := isTab_of ht
    have HI := Lib.hid hI
    have hn8 := hI.hi
    go_enter Try.func18, Try.ntmps18
    go_wp2_with fail
    refine (s_l09Is _ _ _ _ HT.out).mono ?_
    rintro e w1 ⟨rfl, hb1⟩
    have B1 := Lib.hid (BB.out.trans (hb1.mono BB.out.size))
    have HT1 := Lib.hid (HT.out.below hb1)
    have K1 := Lib.hid ((Blk.new w #[_, _] 37).below hb1 (by simp))
    have g0 : w1.cell? ⟨w.heap.size, 0, none⟩ = some (.slice A1 A.length c1) := K1.out.cell 0
    have g1 : w1.cell? ⟨w.heap.size, 1, none⟩ = some (.slice A2 Bs.length c2) := K1.out.cell 1
    have hn1 : 1 ≤ Bs.length := hI.lo
    clear hb1 hI
    go_wp2_with fail
    go_loopw [5] (fun i wr => ∃ j n : Nat, j ≤ Bs.length ∧ i = .int .i64 j ∧ wr = w1.drewN n ∧ Hid (∀ a b, a < j → b < Bs.length → symAt A Bs Bs.length a b = true)) (fun i _ => Bs.length - (intOf i).toNat)
    case atStart => exact ⟨0, 0, Nat.zero_le _, rfl, rfl, fun a b h => by omega⟩
    case round =>
      obtain ⟨j, n, hj, rfl, rfl, hP⟩ := hrel
      by_cases hlt : j < Bs.length
      · have hlt' : (j : Int) ≤ (Bs.length : Int) - 1 := by omega
        go_wp2_with fail
        go_loopw [6] (fun i wr => ∃ k m : Nat, k ≤ Bs.length ∧ i = .int .i64 k ∧ wr = w1.drewN m ∧ Hid (∀ b, b < k → symAt A Bs Bs.length j b = true)) (fun i _ => Bs.length - (intOf i).toNat)
        case atStart => exact ⟨0, n, Nat.zero_le _, rfl, rfl, fun b h => by omega⟩
        case round =>
          obtain ⟨k, m, hk, rfl, rfl, hQ⟩ := hrel
          by_cases hlt2 : k < Bs.length
          · have hTa := HT1.out
            obtain ⟨_, _, e0, hr, hi⟩ := hTa
            simp only [Value.agg.injEq, Array.mk.injEq, List.cons.injEq, and_true] at e0
            obtain ⟨rfl, rfl⟩ := e0
            obtain ⟨ad, ad1, d1, rfl, p1, p2, p3, p4, p5, p6⟩ := hr.ent HI.out.row (i := j) (k := k) (by rw [HI.out.len]; omega) hlt2
            obtain ⟨ad', ad2, d2, e1, q1, q2, q3, q4, q5, q6⟩ := hr.ent HI.out.row (i := Bs.length - 1 - j) (k := Bs.length - 1 - k) (by rw [HI.out.len]; omega) (by omega)
            simp only [Option.some.injEq] at e1
            subst e1
            obtain ⟨_, _, e2, _, _, h3⟩ := hi.open_
            simp only [Value.slice.injEq] at e2
            obtain ⟨rfl, _, rfl⟩ := e2
            obtain ⟨ad3, z, rfl, hz, _, r1⟩ := h3 k hlt2
            have HZ := Lib.hid (show Bs.getD k 0 = z by simp [List.getD, hz])
            have HL := Lib.hid HI.out.len
            have hla : A.length ≤ Bs.length := by rw [HL.out]; omega
            have hlb : Bs.length ≤ A.length := by rw [HL.out]; omega
            have w1' : IntKind.i64.wrap ((Bs.length : Int) - 1) = (Bs.length : Int) - 1 := IntWalk.i64_in _ (by omega)
            have w2' : IntKind.i64.wrap ((Bs.length : Int) - 1 - (j : Int)) = (Bs.length : Int) - 1 - (j : Int) := IntWalk.i64_in _ (by omega)
            have w3' : IntKind.i64.wrap ((Bs.length : Int) - 1 - (k : Int)) = (Bs.length : Int) - 1 - (k : Int) := IntWalk.i64_in _ (by omega)
            have t1 : ((Bs.length : Int) - 1 - (j : Int)).toNat = Bs.length - 1 - j := by omega
            have t2 : ((Bs.length : Int) - 1 - (k : Int)).toNat = Bs.length - 1 - k := by omega
            have i1 : (0 : Int) ≤ (Bs.length : Int) - 1 - (j : Int) := by omega
            have i2 : (0 : Int) ≤ (Bs.length : Int) - 1 - (k : Int) := by omega
            have i3 : (Bs.length : Int) - 1 - (j : Int) < (A.length : Int) := by omega
            have i4 : (Bs.length : Int) - 1 - (k : Int) < (Bs.length : Int) := by omega
            have i5 : (j : Int) < (A.length : Int) := by omega
            have i6 : (k : Int) < (Bs.length : Int) := by omega
            have w4' : IntKind.i64.wrap (Proofs.Ytaielpgijggjgaa.ent A j k + Proofs.Ytaielpgijggjgaa.ent A (Bs.length - 1 - j) (Bs.length - 1 - k)) = Proofs.Ytaielpgijggjgaa.ent A j k + Proofs.Ytaielpgijggjgaa.ent A (Bs.length - 1 - j) (Bs.length - 1 - k) := IntWalk.i64_in _ (by omega)
            clear hr hi h3 hz
            go_wp2_with fail
            go_quiet ((go_at_call 29; exact quiet_same (s_l01Add _ _ _ (by omega) (by omega) (by omega) (by omega))))
            go_wp2_with fail
            · have hne : ((Proofs.Ytaielpgijggjgaa.ent A j k + Proofs.Ytaielpgijggjgaa.ent A (Bs.length - 1 - j) (Bs.length - 1 - k)) % 10007 != z) = true := by assumption
              go_ret2
              refine ⟨?_, below_drewN (below_drewN B1.out _) _⟩
              have hF : symB A Bs = false := by
                unfold symB
                rw [List.all_eq_false]
                refine ⟨j, by simp [hlt], ?_⟩
                rw [Bool.not_eq_true, List.all_eq_false]
                refine ⟨k, by simp [hlt2], ?_⟩
                unfold symAt
                rw [HZ.out]
                simpa using hne
              rw [hF]
              rfl
            · have hne : ((Proofs.Ytaielpgijggjgaa.ent A j k + Proofs.Ytaielpgijggjgaa.ent A (Bs.length - 1 - j) (Bs.length - 1 - k)) % 10007 != z) = false := by assumption
              go_roundw
              case rel =>
                refine ⟨k + 1, _, by omega, by go_num, rfl, fun b hb => ?_⟩
                by_cases e : b = k
                · subst e
                  unfold symAt
                  rw [HZ.out]
                  simpa using hne
                · exact hQ.out b (by omega)
              case measure => simp [intOf]; omega
          · have : k = Bs.length := by omega
            subst this
            go_wp2_with fail
            go_roundw
            case rel =>
              refine ⟨j + 1, _, by omega, by go_num, rfl, fun a b ha hb => ?_⟩
              by_cases e : a = j
              · subst e
                exact hQ.out b hb
              · exact hP.out a b (by omega) hb
            case measure => simp [intOf]; omega
      · have : j = Bs.length := by omega
        subst this
        go_wp2_with fail
        go_ret2
        refine ⟨?_, below_drewN B1.out _⟩
        have hF : symB A Bs = true := by
          unfold symB
          rw [List.all_eq_true]
          intro a ha
          rw [List.all_eq_true]
          intro b hb
          exact hP.out a b (by simpa using ha) (by simpa using hb)
        rw [hF]
        rfl
end Go.Proofs.Ytaielpgijggjgaa
