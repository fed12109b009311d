/- Plain: numbers read from texts. No walk. | Walk of the reference: l01Text. | A region that draws its order, whose operations yield one value each in every world of a class S, and leave a world of S: one walk in the order of the text. No program in sight. | Walk: IsField of the program. -/
import Derived.Test.YtnnfjjadehgmeaaGreatDoorPz3
import Derived.Test.YtnnfjjadehgmeaaGreatDoorPz2
import Derived.BigQuiet
import Derived.Below
set_option maxRecDepth 100000
set_option linter.unusedVariables false
set_option linter.unusedSimpArgs false
namespace Go.Proofs.YtnnfjjadehgmeaaGreatDoor
open Go.RowKit

def eFer : Nat := 10006
theorem eFer_succ : eFer = 10005 + 1 := rfl
theorem fer_all : (List.range 10006).all (fun a => Nat.beq ((a + 1) ^ eFer % 10007) 1) = true := by decide +kernel
theorem fer {a : Nat} (h0 : 0 < a) (h1 : a < 10007) : a ^ eFer % 10007 = 1 := by
  have h := fer_all
  rw [List.all_eq_true] at h
  obtain ⟨k, rfl⟩ : ∃ k, a = k + 1 := ⟨a - 1, by omega⟩
  exact Nat.eq_of_beq_eq_true (h k (List.mem_range.2 (by omega)))
theorem fer_inv {q k : Nat} (hk : eFer = k + 1) (h0 : 0 < q) (h1 : q < 10007) : q * (q ^ k % 10007) % 10007 = 1 := by
  rw [Nat.mul_mod, Nat.mod_mod, ← Nat.mul_mod, ← Nat.pow_succ', show k.succ = eFer from hk.symm, fer h0 h1]
theorem pw_nat (a k : Nat) : pw (a : Int) k = ((a ^ k % 10007 : Nat) : Int) := by
  unfold pw
  rw [Int.natCast_emod, Int.natCast_pow]
  rfl
theorem invQ {q : Nat} (h0 : 0 < q) (h1 : q < 10007) : (q : Int) * pw (q : Int) 10005 % 10007 = 1 := by
  rw [pw_nat, ← Int.natCast_mul]
  have := fer_inv eFer_succ h0 h1
  omega

/-- the number p / q -/
def nofR (p q : Int) : Int := (p % 10007) * pw (q % 10007) 10005 % 10007
theorem nofR_of {a p : Int} {q : Nat} (ha : 0 ≤ a) (ha' : a ≤ 10006) (h0 : 0 < q) (h1 : q < 10007) (h : (p - a * (q : Int)) % 10007 = 0) : nofR p (q : Int) = a := by
  unfold nofR
  have hq : (q : Int) % 10007 = (q : Int) := by omega
  rw [hq]
  have hi := invQ h0 h1
  generalize pw (q : Int) 10005 = v at hi
  have h2 : p % 10007 = (a * (q : Int)) % 10007 := by omega
  rw [h2, Int.mul_emod, Int.emod_emod_of_dvd _ (Int.dvd_refl _), ← Int.mul_emod, Int.mul_assoc, Int.mul_emod, hi, Int.mul_one, Int.emod_emod_of_dvd _ (Int.dvd_refl _)]
  omega

/-- what ParseNumber of the program answers -/
def pnF (l : List UInt8) : Int × Int :=
  if (rdB (cutB 47 (Lib.trimPrefix l [45])).1).2 = false ∨ (if (cutB 47 (Lib.trimPrefix l [45])).2.2 then rdB (cutB 47 (Lib.trimPrefix l [45])).2.1 else (1, true)).2 = false ∨ (if (cutB 47 (Lib.trimPrefix l [45])).2.2 then rdB (cutB 47 (Lib.trimPrefix l [45])).2.1 else (1, true)).1 < 1 ∨ (Lib.hasPrefix l [45] = true ∧ (rdB (cutB 47 (Lib.trimPrefix l [45])).1).1 = 0) then (0, 6)
  else if (if (cutB 47 (Lib.trimPrefix l [45])).2.2 then rdB (cutB 47 (Lib.trimPrefix l [45])).2.1 else (1, true)).1 % 10007 = 0 then (0, 5)
  else (nofR (if Lib.hasPrefix l [45] = true then -(rdB (cutB 47 (Lib.trimPrefix l [45])).1).1 else (rdB (cutB 47 (Lib.trimPrefix l [45])).1).1) (if (cutB 47 (Lib.trimPrefix l [45])).2.2 then rdB (cutB 47 (Lib.trimPrefix l [45])).2.1 else (1, true)).1, 0)
/-- .. of the reference -/
def pnH (l : List UInt8) : List UInt8 := (splB 47 l).headD []
def pnP (l : List UInt8) : Int := valB (if (pnH l).head? = some 45 then (pnH l).tail else pnH l)
def pnQ (l : List UInt8) : Int := if (splB 47 l).length = 2 then valB ((splB 47 l).getD 1 []) else 1
def pnS (l : List UInt8) : Int := if (pnH l).head? = some 45 then -1 else 1
def pnR (l : List UInt8) : Int × Int :=
  if 2 < (splB 47 l).length ∨ pnP l < 0 ∨ pnQ l < 1 ∨ (pnP l = 0 ∧ pnS l < 0) then (0, 6)
  else if pnQ l % 10007 = 0 then (0, 5)
  else (nofR (pnS l * pnP l) (pnQ l), 0)

/-- the shape of a number's text -/
def numForm (neg : Bool) (P Q : Nat) : List UInt8 := (if neg then [45] else []) ++ (Lib.decDigits P ++ (if Q = 1 then [] else 47 :: Lib.decDigits Q))
def sgn (neg : Bool) (P : Nat) : Int := if neg then -(P : Int) else P
theorem itoa_form (p : Int) : ∃ neg P, Lib.itoa p = (if neg then [45] else []) ++ Lib.decDigits P ∧ sgn neg P = p ∧ P = p.natAbs ∧ (neg = true → 1 ≤ P) := by
  by_cases h : p < 0
  · refine ⟨true, p.natAbs, ?_, ?_, rfl, fun _ => by omega⟩
    · unfold Lib.itoa; rw [if_pos h]; rfl
    · unfold sgn; rw [if_pos rfl]; omega
  · refine ⟨false, p.natAbs, ?_, ?_, rfl, fun h => by cases h⟩
    · rw [itoa_nn' h, show p.toNat = p.natAbs by omega]; rfl
    · unfold sgn; rw [if_neg (by decide)]; omega
theorem numTxF_form {a : Int} (ha : 0 ≤ a) (ha' : a ≤ 10006) : ∀ (k q : Nat), 1 ≤ q → q + k ≤ 71 → ∃ neg P Q, numTxF a k q = numForm neg P Q ∧ P ≤ 10006 ∧ 1 ≤ Q ∧ Q ≤ 70 ∧ (neg = true → 1 ≤ P) ∧ (sgn neg P - a * (Q : Int)) % 10007 = 0
  | 0, q, h1, _ => by
    refine ⟨false, a.toNat, 1, ?_, by omega, by omega, by omega, (fun h => by cases h), ?_⟩
    · rw [numTxF, itoa_nn' (by omega)]
      unfold numForm
      simp
    · unfold sgn
      rw [if_neg (by decide)]
      omega
  | k + 1, q, h1, h2 => by
    rw [numTxF]
    split
    · rename_i hok
      obtain ⟨hb1, hb2⟩ := okQ_bd hok
      obtain ⟨neg, P, e1, e2, e3, e4⟩ := itoa_form (cenP a q)
      refine ⟨neg, P, q, ?_, by omega, h1, by omega, e4, ?_⟩
      · unfold txPQ numForm
        rw [e1]
        by_cases hq : q = 1
        · rw [if_pos hq, if_pos hq]; simp
        · rw [if_neg hq, if_neg hq]; simp
      · rw [e2]
        exact (cen_iff hb1 hb2).2 rfl
    · exact numTxF_form ha ha' k (q + 1) (by omega) (by omega)
theorem numTx_form {a : Int} (ha : 0 ≤ a) (ha' : a ≤ 10006) : ∃ neg P Q, numTx a = numForm neg P Q ∧ P ≤ 10006 ∧ 1 ≤ Q ∧ Q ≤ 70 ∧ (neg = true → 1 ≤ P) ∧ (sgn neg P - a * (Q : Int)) % 10007 = 0 := numTxF_form ha ha' 70 1 (by omega) (by omega)
theorem dig_not {n : Nat} {b : UInt8} (hb : b.toNat < 48 ∨ 57 < b.toNat) : ∀ x ∈ Lib.decDigits n, x ≠ b := fun x hx e => by
  have := dig_chars n x hx
  rw [e] at this; omega
theorem dig_cons (n : Nat) : ∃ c r, Lib.decDigits n = c :: r ∧ c ≠ 45 := by
  have h := dig_len_pos n
  cases hd : Lib.decDigits n with
  | nil => rw [hd] at h; simp at h
  | cons c r => exact ⟨c, r, rfl, dig_not (n := n) (by decide) c (by rw [hd]; simp)⟩
theorem form_pre (neg : Bool) (P Q : Nat) : Lib.hasPrefix (numForm neg P Q) [45] = neg ∧ Lib.trimPrefix (numForm neg P Q) [45] = Lib.decDigits P ++ (if Q = 1 then [] else 47 :: Lib.decDigits Q) := by
  obtain ⟨c, r, hc, hne⟩ := dig_cons P
  have h1 : Lib.hasPrefix (numForm neg P Q) [45] = neg := by
    unfold numForm Lib.hasPrefix
    cases neg with
    | true => simp [List.isPrefixOf]
    | false => rw [hc]; simp [List.isPrefixOf]; exact fun e => hne e.symm
  refine ⟨h1, ?_⟩
  unfold Lib.trimPrefix
  rw [h1]
  unfold numForm
  cases neg <;> simp
theorem pnF_form {neg : Bool} {P Q : Nat} (hP : P ≤ 10006) (h1 : 1 ≤ Q) (h2 : Q ≤ 70) (hn : neg = true → 1 ≤ P) : pnF (numForm neg P Q) = (nofR (sgn neg P) Q, 0) := by
  obtain ⟨e1, e2⟩ := form_pre neg P Q
  unfold pnF
  rw [e1, e2]
  have hPd := rdB_dig (n := P) (by omega)
  have hQd := rdB_dig (n := Q) (by omega)
  have hs : (if neg = true then -(P : Int) else (P : Int)) = sgn neg P := rfl
  by_cases hq : Q = 1
  · subst hq
    rw [if_pos rfl, List.append_nil, cutB_miss (dig_not (by decide))]
    simp only [Bool.false_eq_true, if_false, hPd, hs]
    rw [if_neg (by rintro (h | h | h | h) <;> first | (have h3 := hn h.1; have h4 := h.2; omega) | omega | cases h), if_neg (by decide)]
    rfl
  · rw [if_neg hq, cutB_hit (dig_not (by decide))]
    simp only [if_true, hPd, hQd, hs]
    rw [if_neg (by rintro (h | h | h | h) <;> first | (have h3 := hn h.1; have h4 := h.2; omega) | omega | cases h), if_neg (by omega)]
theorem pnR_form {neg : Bool} {P Q : Nat} (hP : P ≤ 10006) (h1 : 1 ≤ Q) (h2 : Q ≤ 70) (hn : neg = true → 1 ≤ P) : pnR (numForm neg P Q) = (nofR (sgn neg P) Q, 0) := by
  obtain ⟨c, r, hc, hne⟩ := dig_cons P
  have hh : ∀ x ∈ (if neg then [45] else []) ++ Lib.decDigits P, x ≠ (47 : UInt8) := fun x hx => by
    rcases List.mem_append.1 hx with hx | hx
    · cases neg with
      | true => simp at hx; subst hx; decide
      | false => simp at hx
    · exact dig_not (by decide) x hx
  have hsp : splB 47 (numForm neg P Q) = if Q = 1 then [(if neg then [45] else []) ++ Lib.decDigits P] else [(if neg then [45] else []) ++ Lib.decDigits P, Lib.decDigits Q] := by
    unfold numForm
    by_cases hq : Q = 1
    · rw [if_pos hq, if_pos hq, List.append_nil, splB_one hh]
    · rw [if_neg hq, if_neg hq, ← List.append_assoc, splB_cons hh, splB_one (dig_not (by decide))]
  have hH : pnH (numForm neg P Q) = (if neg then [45] else []) ++ Lib.decDigits P := by
    unfold pnH
    rw [hsp]
    split <;> rfl
  have hhd : ((if neg then [45] else []) ++ Lib.decDigits P).head? = some 45 ↔ neg = true := by
    cases neg with
    | true => simp
    | false => rw [hc]; simp; exact hne
  have hpP : pnP (numForm neg P Q) = (P : Int) := by
    unfold pnP
    rw [hH]
    have hv := valB_dig (n := P) (by omega)
    cases neg with
    | true => rw [if_pos (hhd.2 rfl)]; simpa using hv
    | false => rw [if_neg (fun e => by have := hhd.1 e; cases this)]; simpa using hv
  have hpS : pnS (numForm neg P Q) = if neg then -1 else 1 := by
    unfold pnS
    rw [hH]
    cases neg with
    | true => rw [if_pos (hhd.2 rfl)]; rfl
    | false => rw [if_neg (fun e => by have := hhd.1 e; cases this)]; rfl
  have hpQ : pnQ (numForm neg P Q) = (Q : Int) := by
    unfold pnQ
    rw [hsp]
    by_cases hq : Q = 1
    · subst hq; rw [if_pos rfl]; rfl
    · rw [if_neg hq]
      exact valB_dig (n := Q) (by omega)
  have hl : (splB 47 (numForm neg P Q)).length ≤ 2 := by
    rw [hsp]
    split <;> simp
  unfold pnR
  rw [hpP, hpQ, hpS, if_neg, if_neg (by omega)]
  · unfold sgn
    cases neg <;> simp
  · rintro (h | h | h | ⟨h, h'⟩)
    · omega
    · omega
    · omega
    · cases neg with
      | true => have := hn rfl; omega
      | false => simp at h'
theorem pnF_num {a : Int} (ha : 0 ≤ a) (ha' : a ≤ 10006) : pnF (numTx a) = (a, 0) := by
  obtain ⟨neg, P, Q, e, h1, h2, h3, h4, h5⟩ := numTx_form ha ha'
  rw [e, pnF_form h1 h2 h3 h4, nofR_of ha ha' (by omega) (by omega) h5]
theorem pnR_num {a : Int} (ha : 0 ≤ a) (ha' : a ≤ 10006) : pnR (numTx a) = (a, 0) := by
  obtain ⟨neg, P, Q, e, h1, h2, h3, h4, h5⟩ := numTx_form ha ha'
  rw [e, pnR_form h1 h2 h3 h4, nofR_of ha ha' (by omega) (by omega) h5]
end Go.Proofs.YtnnfjjadehgmeaaGreatDoor

set_option maxRecDepth 100000
set_option linter.unusedVariables false
set_option linter.unusedSimpArgs false
namespace Go.Proofs.YtnnfjjadehgmeaaGreatDoor
open Go.RowKit

theorem str_cat (a b : List UInt8) : (⟨a.toArray⟩ : ByteArray) ++ ⟨b.toArray⟩ = ⟨(a ++ b).toArray⟩ := by
  apply ByteArray.ext
  simp
theorem str_cat1 (c : UInt8) (b : List UInt8) : (⟨#[c]⟩ : ByteArray) ++ ⟨b.toArray⟩ = ⟨(c :: b).toArray⟩ := str_cat [c] b
theorem str_cat2 (c : UInt8) (a : List UInt8) : (⟨a.toArray⟩ : ByteArray) ++ ⟨#[c]⟩ = ⟨(a ++ [c]).toArray⟩ := str_cat a [c]
theorem itoa_neg {p : Int} (h : p < 0) : Lib.itoa p = 45 :: Lib.decDigits (-p).toNat := by
  unfold Lib.itoa
  rw [if_pos h, show p.natAbs = (-p).toNat by omega]
theorem itoa_nn {p : Int} (h : ¬ p < 0) : Lib.itoa p = Lib.decDigits p.toNat := by
  unfold Lib.itoa
  rw [if_neg h]
set_option maxHeartbeats 4000000 in
theorem s_l01Text (a : Int) (w : World) (ha : 0 ≤ a) (ha' : a ≤ 10006) :
    Calls Tryz.prog 43 #[.int .i64 a] w fun e w' => e = .returned (strB (numTx a)) ∧ Below w.heap.size w w' := by
  go_enter Tryz.func43, Tryz.ntmps43
  go_wp2_with fail
  go_loopw [3] (fun y wr => ∃ q : Nat, 1 ≤ q ∧ q ≤ 71 ∧ y = .int .i64 q ∧ Hid (numTx a = numTxF a (71 - q) q) ∧ Below w.heap.size w wr) (fun y _ => 71 - (intOf y).toNat)
  case atStart => exact ⟨1, by omega, by omega, rfl, Lib.hid rfl, Below.refl _ _⟩
  case round =>
    obtain ⟨q, h1, h2, rfl, HN, hb⟩ := hrel
    by_cases hq : q ≤ 70
    · have hqi : (q : Int) ≤ 70 := by omega
      have HB := Lib.hid hb
      clear hb
      go_wp2_with fail
      go_loopw [4] (fun z wx => ∃ p : Int, z = .int .i64 p ∧ -70 ≤ p ∧ p ≤ 71 ∧ Hid (∀ p', -70 ≤ p' → p' < p → ¬ (p' = cenP a q ∧ okQ a q = true)) ∧ Below w.heap.size w wx) (fun z _ => (71 - intOf z).toNat)
      case atStart => exact ⟨-70, rfl, by omega, by omega, Lib.hid (fun p' a b => by omega), HB.out⟩
      case round =>
        obtain ⟨p, rfl, p1, p2, HNO, hbx⟩ := hrel
        have HBX := Lib.hid hbx
        clear hbx
        by_cases hp : p ≤ 70
        · have hmul : 0 ≤ a * (q : Int) ∧ a * (q : Int) ≤ 1000000 := ⟨Int.mul_nonneg ha (by omega), by
            have h3 : a * (q : Int) ≤ 10006 * 70 := Int.mul_le_mul ha' hqi (by omega) (by omega)
            omega⟩
          have HMD := Lib.hid (fun W => s_l01Mod (p - a * (q : Int)) W (by omega) (by omega))
          have HCM := Lib.hid (fun W => s_l01Common p (q : Int) W (by omega) (by omega) (by omega) (by omega))
          obtain ⟨c, hc⟩ : ∃ c, c = (p - a * (q : Int)) % 10007 := ⟨_, rfl⟩
          obtain ⟨g, hg⟩ : ∃ g, g = Int.gcd p (q : Int) := ⟨_, rfl⟩
          rw [← hc] at HMD
          rw [← hg] at HCM
          have HCC := Lib.hid hc
          have HGG := Lib.hid hg
          have hgp : 1 ≤ g := by rw [hg]; exact Int.gcd_pos_of_ne_zero_right _ (by omega)
          clear hc hg
          by_cases hc0 : c = 0
          · by_cases hg1 : g = 1
            · have hok := (okQ_ref (a := a) (q := (q : Int)) p1 hp).1 ⟨by rw [← HCC.out]; exact hc0, by rw [← HGG.out]; exact hg1⟩
              have HTX := Lib.hid (show numTx a = txPQ p q by rw [HN.out, show 71 - q = (70 - q) + 1 by omega, numTxF_yes hok.2, ← hok.1])
              clear hok
              have hcb : (c != 0) = false := by simpa using hc0
              have hgi : ¬ ((1 : Int) < (g : Int)) := by omega
              have HD := Lib.hid (show ∀ (W : World) (x : Int), 0 ≤ x → x ≤ 1000000 → Calls Tryz.prog 44 #[.int .i64 x] W fun e w' => e = .returned (strB (Lib.decDigits x.toNat)) ∧ Below W.heap.size W w' from fun W x x0 x1 => by
                have h := s_l01Dec 6 x.toNat W (by omega) (by omega)
                rwa [show ((x.toNat : Nat) : Int) = x by omega] at h)
              have hLq := decDigits_len q
              by_cases hneg : p < 0
              · have hLp := decDigits_len (-p).toNat
                have hl1 : ¬ (9223372036854775807 < 1 + (Lib.decDigits (-p).toNat).length) := by omega
                have hl2 : ¬ (9223372036854775807 < 1 + (Lib.decDigits (-p).toNat).length + 1) := by omega
                have hl3 : ¬ (9223372036854775807 < 1 + (Lib.decDigits (-p).toNat).length + 1 + (Lib.decDigits q).length) := by omega
                clear hLp hLq
                by_cases hq1 : q = 1
                · have hq1i : ¬ ((1 : Int) < (q : Int)) := by omega
                  have HQ1 := Lib.hid hq1
                  clear hq1
                  go_wp2_with (first
                    | (go_at_call 61; refine (HMD.out _).mono ?_; rintro e w2 ⟨rfl, rfl⟩)
                    | (go_at_call 63; refine (HCM.out _).mono ?_; rintro e w3 ⟨rfl, rfl⟩)
                    | (go_at_call 44; refine (HD.out _ _ (by omega) (by omega)).mono ?_; rintro e w4 ⟨rfl, hb4⟩))
                  go_ret
                  refine ⟨?_, HBX.out.trans (hb4.mono HBX.out.size)⟩
                  rw [HTX.out, HQ1.out, str_cat1]
                  unfold txPQ
                  rw [if_pos rfl, itoa_neg hneg]
                  rfl
                · have hq1i : (1 : Int) < (q : Int) := by omega
                  have HQ1 := Lib.hid hq1
                  clear hq1
                  go_wp2_with (first
                    | (go_at_call 61; refine (HMD.out _).mono ?_; rintro e w2 ⟨rfl, rfl⟩)
                    | (go_at_call 63; refine (HCM.out _).mono ?_; rintro e w3 ⟨rfl, rfl⟩)
                    | (go_at_call 44; refine (HD.out _ _ (by omega) (by omega)).mono ?_; rintro e w4 ⟨rfl, hb4⟩))
                  go_ret
                  have hx4 : ∃ wz, Below wr.heap.size wr wz ∧ Below wz.heap.size wz w4 := ⟨_, by assumption, hb4⟩
                  obtain ⟨wz, hz1, hz2⟩ := hx4
                  have hz3 := HBX.out.trans (hz1.mono HBX.out.size)
                  refine ⟨?_, hz3.trans (hz2.mono hz3.size)⟩
                  rw [HTX.out, str_cat1, str_cat2, str_cat]
                  unfold txPQ
                  rw [if_neg HQ1.out, itoa_neg hneg]
                  simp [strB]
              · have hLp := decDigits_len p.toNat
                have hl2 : ¬ (9223372036854775807 < (Lib.decDigits p.toNat).length + 1) := by omega
                have hl3 : ¬ (9223372036854775807 < (Lib.decDigits p.toNat).length + 1 + (Lib.decDigits q).length) := by omega
                clear hLp hLq
                by_cases hq1 : q = 1
                · have hT : numTx a = Lib.decDigits p.toNat := by rw [HTX.out]; unfold txPQ Lib.itoa; rw [if_pos hq1, if_neg (by omega)]
                  have hq1i : ¬ ((1 : Int) < (q : Int)) := by omega
                  clear hq1
                  have HT := Lib.hid hT
                  clear hT
                  go_wp2_with (first
                    | (go_at_call 61; refine (HMD.out _).mono ?_; rintro e w2 ⟨rfl, rfl⟩)
                    | (go_at_call 63; refine (HCM.out _).mono ?_; rintro e w3 ⟨rfl, rfl⟩)
                    | (go_at_call 44; refine (HD.out _ _ (by omega) (by omega)).mono ?_; rintro e w4 ⟨rfl, hb4⟩))
                  go_ret
                  exact ⟨by rw [HT.out]; rfl, HBX.out.trans (hb4.mono HBX.out.size)⟩
                · have hq1i : (1 : Int) < (q : Int) := by omega
                  have HQ1 := Lib.hid hq1
                  clear hq1
                  go_wp2_with (first
                    | (go_at_call 61; refine (HMD.out _).mono ?_; rintro e w2 ⟨rfl, rfl⟩)
                    | (go_at_call 63; refine (HCM.out _).mono ?_; rintro e w3 ⟨rfl, rfl⟩)
                    | (go_at_call 44; refine (HD.out _ _ (by omega) (by omega)).mono ?_; rintro e w4 ⟨rfl, hb4⟩))
                  go_ret
                  have hx4 : ∃ wz, Below wr.heap.size wr wz ∧ Below wz.heap.size wz w4 := ⟨_, by assumption, hb4⟩
                  obtain ⟨wz, hz1, hz2⟩ := hx4
                  have hz3 := HBX.out.trans (hz1.mono HBX.out.size)
                  refine ⟨?_, hz3.trans (hz2.mono hz3.size)⟩
                  rw [HTX.out, str_cat2, str_cat]
                  unfold txPQ
                  rw [if_neg HQ1.out, itoa_nn (by omega)]
                  simp [strB]
            · have hn : ∀ p', -70 ≤ p' → p' < p + 1 → ¬ (p' = cenP a q ∧ okQ a q = true) := fun p' a1 a2 h => by
                by_cases he : p' = p
                · subst he
                  exact hg1 (by rw [HGG.out]; exact ((okQ_ref p1 hp).2 h).2)
                · exact HNO.out p' a1 (by omega) h
              have HN2 := Lib.hid hn
              have hcb : (c != 0) = false := by simpa using hc0
              have hgi : (1 : Int) < (g : Int) := by omega
              clear hn
              go_wp2_with (first
                | (go_at_call 61; refine (HMD.out _).mono ?_; rintro e w2 ⟨rfl, rfl⟩)
                | (go_at_call 63; refine (HCM.out _).mono ?_; rintro e w3 ⟨rfl, rfl⟩))
              go_roundw
              case rel => exact ⟨p + 1, rfl, by omega, by omega, HN2, HBX.out⟩
              case measure => simp [intOf]; omega
          · have hn : ∀ p', -70 ≤ p' → p' < p + 1 → ¬ (p' = cenP a q ∧ okQ a q = true) := fun p' a1 a2 h => by
              by_cases he : p' = p
              · subst he
                exact hc0 (by rw [HCC.out]; exact ((okQ_ref p1 hp).2 h).1)
              · exact HNO.out p' a1 (by omega) h
            have HN2 := Lib.hid hn
            have hcb : (c != 0) = true := by simpa using hc0
            clear hn
            go_wp2_with (first
              | (go_at_call 61; refine (HMD.out _).mono ?_; rintro e w2 ⟨rfl, rfl⟩)
              | (go_at_call 63; refine (HCM.out _).mono ?_; rintro e w3 ⟨rfl, rfl⟩))
            go_roundw
            case rel => exact ⟨p + 1, rfl, by omega, by omega, HN2, HBX.out⟩
            case measure => simp [intOf]; omega
        · have hp71 : p = 71 := by omega
          subst hp71
          have hno : okQ a q = false := by
            cases hk : okQ a q with
            | false => rfl
            | true =>
              have hk' := hk
              unfold okQ at hk'
              simp only [Bool.and_eq_true, decide_eq_true_eq] at hk'
              exact absurd ⟨rfl, hk⟩ (HNO.out (cenP a q) hk'.1.1 (by omega))
          have HNX := Lib.hid (show numTx a = numTxF a (71 - (q + 1)) (q + 1) by
            rw [HN.out, show 71 - q = (71 - (q + 1)) + 1 by omega, numTxF_no hno])
          clear hno
          go_wp2_with fail
          go_roundw
          case rel => exact ⟨q + 1, by omega, by omega, by go_num, HNX, HBX.out⟩
          case measure => simp [intOf]; omega
    · have hqe : q = 71 := by omega
      subst hqe
      have hfin : numTx a = Lib.decDigits a.toNat := by
        rw [HN.out]
        show Lib.itoa a = _
        unfold Lib.itoa
        rw [if_neg (by omega)]
      have HFI := Lib.hid hfin
      have e : a = ((a.toNat : Nat) : Int) := by omega
      have HD := Lib.hid (fun W => s_l01Dec 6 a.toNat W (by omega) (by omega))
      rw [← e] at HD
      clear hfin e
      go_wp2_with (go_at_call 44; refine (HD.out _).mono ?_; rintro e w2 ⟨rfl, hb2⟩)
      go_ret
      exact ⟨by rw [HFI.out]; rfl, hb.trans (hb2.mono hb.size)⟩
end Go.Proofs.YtnnfjjadehgmeaaGreatDoor

set_option linter.unusedVariables false
set_option linter.unusedSimpArgs false
namespace Go.Proofs.YtnnfjjadehgmeaaGreatDoor
open Go Go.RowKit

/-- a world of the class -/
structure GW (S : World → Prop) where
  w : World
  h : S w

theorem wp_region_grow {P : Program} {id : Nat} {Q : Exit → Act → World → Prop} {a : Act} {w : World} {l : List Oper} (S : World → Prop) (hm : P.follows .mixedOrders = true) (hB : Region.lexB .any l.toArray = true) (hC : S w.drew)
    (h : Nonempty (GW S) → wpQuiet P l.toArray (fun w' => ∃ x : GW S, w' = x.w) (fun a' => ∀ w', (∃ x : GW S, w' = x.w) → Q .normal a' w') l a) : (Code.region id l.toArray true).wp P Q a w :=
  wp_region_quiet (C := fun w' => ∃ x : GW S, w' = x.w) hm hB ⟨⟨_, hC⟩, rfl⟩ (by simpa using h ⟨⟨_, hC⟩⟩)

/-- a callee that leaves a world of the class -/
theorem grow_call {P : Program} {f : FuncId} {args : Array Value} {w : World} {v : Value} {S : World → Prop} (h : Calls P f args w fun e w' => e = .returned v ∧ S w') : Calls P f args w fun e w'' => e = .returned v ∧ ∃ x : GW S, w'' = x.w :=
  h.mono fun _ w' ⟨he, hw⟩ => ⟨he, ⟨w', hw⟩, rfl⟩
end Go.Proofs.YtnnfjjadehgmeaaGreatDoor

set_option maxRecDepth 100000
set_option linter.unusedVariables false
set_option linter.unusedSimpArgs false
namespace Go.Proofs.YtnnfjjadehgmeaaGreatDoor
open Go.RowKit

set_option maxHeartbeats 400000 in
theorem lib_lengthM (w : World) (v : Value) (pss : List (List Mono)) (ha : MRows w v pss) : Calls Tryz.prog 31 #[v] w fun e w' => e = .returned (.int .i64 pss.length) ∧ w = w' := by
  obtain ⟨A, c, rfl, h1, h2, -⟩ := ha.open_
  go_enter Tryz.func31, Tryz.ntmps31
  go_wp2
  go_ret
  exact ⟨rfl, rfl⟩

set_option maxHeartbeats 8000000 in
theorem i_IsField (w : World) (v : Value) (n : Int) (pss : List (List Mono)) (ha : FieldArg w v n pss) (hs : ∀ ms ∈ pss, ∀ m ∈ ms, m.2.length ≤ 4294967296) :
    Calls Tryz.prog 14 #[v] w fun e w' => e = .returned (.bool (fieldB n pss)) ∧ Below w.heap.size w w' := by
  obtain ⟨vp, rfl, hn64, hP⟩ := ha
  have HP := Lib.hid hP
  obtain ⟨A, c, rfl, l1, l2, h3⟩ := hP.open_
  have H3 := Lib.hid h3
  have HS := Lib.hid hs
  clear hP h3 hs
  have B0 := Lib.hid (below1 w (.cells #[.int .i64 n, .slice A pss.length c] 24))
  have K0 := Lib.hid (Blk.new w #[.int .i64 n, .slice A pss.length c] 24)
  go_enter Tryz.func14, Tryz.ntmps14
  go_wp2_with fail
  generalize (w.alloc (.cells #[.int .i64 n, .slice A pss.length c] 24)) = w1 at B0 K0 ⊢
  have g0 : w1.cell? ⟨w.heap.size, 0, none⟩ = some (.int .i64 n) := K0.out.cell 0
  have g1 : w1.cell? ⟨w.heap.size, 1, none⟩ = some (.slice A pss.length c) := K0.out.cell 1
  cases hr : inR n 1 3 with
  | false =>
    have HF := Lib.hid (show fieldB n pss = false by simp [fieldB, hr])
    have HIR : ∀ W, Calls Tryz.prog 30 #[.int .i64 n, .int .i64 1, .int .i64 3] W (fun e w' => e = .returned (.bool false) ∧ W = w') := fun W => by have h := i_inRange n 1 3 W; rwa [hr] at h
    go_quiet ((go_at_call 30; first | exact quiet_same0 (HIR _) | exact quiet_same (HIR _)))
    go_wp2_with fail
    go_ret
    exact ⟨ret_bool HF.out.symm, below_drewN B0.out _⟩
  | true =>
    have HIR : ∀ W, Calls Tryz.prog 30 #[.int .i64 n, .int .i64 1, .int .i64 3] W (fun e w' => e = .returned (.bool true) ∧ W = w') := fun W => by have h := i_inRange n 1 3 W; rwa [hr] at h
    have hnb := inR_iff.1 hr
    have HR := Lib.hid hr
    clear hr
    have HLN : ∀ W, Below w.heap.size w W → Calls Tryz.prog 31 #[.slice A pss.length c] W (fun e w' => e = .returned (.int .i64 pss.length) ∧ W = w') := fun W hW => lib_lengthM W _ pss (HP.out.below hW)
    by_cases hl : (pss.length : Int) = n
    · have hlb : ((pss.length : Int) != n) = false := by simp [hl]
      have HL := Lib.hid hl
      clear hl
      go_quiet ((first | (go_at_call 30; first | exact quiet_same0 (HIR _) | exact quiet_same (HIR _)) | (go_at_call 31; first | exact quiet_same0 (HLN _ (below_drewN B0.out _)) | exact quiet_same (HLN _ (below_drewN B0.out _)))))
      go_wp2_with fail
      clear g0 g1 HIR HLN hlb
      have hcb : c ≤ 9223372036854775807 := l2
      go_loopw [22] (fun i wr => ∃ j : Nat, j ≤ pss.length ∧ i = .int .i64 j ∧ Hid (∀ i ms, i < j → pss[i]? = some ms → partB n ms = true) ∧ Blk wr w.heap.size 24 #[.int .i64 n, .slice A pss.length c] ∧ Below w.heap.size w wr) (fun i _ => pss.length - (intOf i).toNat)
      case atStart => exact ⟨0, Nat.zero_le _, rfl, fun i ms h => by omega, K0.out.drewN _, below_drewN B0.out _⟩
      case round =>
        obtain ⟨j, hj, rfl, hI, hk0, hb⟩ := hrel
        clear K0 B0
        have KW := Lib.hid hk0
        have BW := Lib.hid hb
        clear hk0 hb
        by_cases hlt : j < pss.length
        · obtain ⟨ad, u, ms, rfl, hm, hu, hc0⟩ := H3.out j hlt
          obtain ⟨A5, c5, rfl, p1, p2, hu3⟩ := hu.open_
          have HU := Lib.hid hu3
          have HM := Lib.hid hm
          have HSM := Lib.hid (HS.out ms (List.mem_of_getElem? hm))
          have hc : wr.cell? (ad.add j) = some (.slice A5 ms.length c5) := by
            rw [BW.out.cell (by rw [block_add]; have := World.block_lt_of_cell? w _ hc0; rwa [block_add] at this)]; exact hc0
          clear hm hu hc0 hu3
          go_wp2_with fail
          clear hc
          obtain ⟨wo, rfl⟩ : ∃ wo : World, wo = wr := ⟨_, rfl⟩
          go_loopw [28] (fun i wi => ∃ k : Nat, k ≤ ms.length ∧ i = .int .i64 k ∧ Hid (∀ q, q < k → badAt n ms q = false) ∧ Blk wi w.heap.size 24 #[.int .i64 n, .slice (some ad) pss.length c] ∧ Below w.heap.size w wi) (fun i _ => ms.length - (intOf i).toNat)
          case atStart => exact ⟨0, Nat.zero_le _, rfl, fun q h => by omega, KW.out, BW.out⟩
          case round =>
            obtain ⟨k, hk, rfl, hJ, hk0, hb⟩ := hrel
            clear KW BW
            have KW := Lib.hid hk0
            have BW := Lib.hid hb
            clear hk0 hb
            by_cases hlt2 : k < ms.length
            · obtain ⟨bm, om, m, um, rfl, hmk, hf64, hum, hcf, hcu⟩ := HU.out k hlt2
              obtain ⟨f, ps⟩ := m
              have hab : bm < w.heap.size := World.block_lt_of_cell? w _ hcf
              have q0 : wr.cell? ⟨bm, om + k * 2, none⟩ = some (.int .i64 f) := by rw [BW.out.cell (by exact hab)]; exact hcf
              have q1 : wr.cell? ⟨bm, om + k * 2 + 1, none⟩ = some um := by rw [BW.out.cell (by exact hab)]; exact hcu
              obtain ⟨Ap, cp, rfl, hp1, hp2, -⟩ := hum.open_
              simp only at hcu hum q1 hp1
              have HMA := Lib.hid (show MonoArg w (.agg #[.int .i64 f, .slice Ap ps.length cp]) (f, ps) from ⟨_, rfl, hf64, hum⟩)
              have HPP := Lib.hid hum
              have HGK := Lib.hid (show ms.getD k (0, []) = (f, ps) by simp [List.getD, hmk])
              have HPL := Lib.hid (HSM.out (f, ps) (List.mem_of_getElem? hmk))
              clear hmk hf64 hum hcf hcu
              go_wp2_with fail
              clear q0 q1
              have KM := Lib.hid (Blk.new wr #[.int .i64 f, .slice Ap ps.length cp] 44)
              have K2 := Lib.hid (KW.out.alloc (.cells #[.int .i64 f, .slice Ap ps.length cp] 44))
              have B2 := Lib.hid (BW.out.alloc BW.out.size (.cells #[.int .i64 f, .slice Ap ps.length cp] 44))
              generalize (wr.alloc (.cells #[.int .i64 f, .slice Ap ps.length cp] 44)) = w3 at KM K2 B2 ⊢
              generalize wr.heap.size = pm at KM ⊢
              obtain ⟨S, hSd⟩ : ∃ S : World → Prop, S = fun w' => Below w.heap.size w w' ∧ Blk w' w.heap.size 24 #[.int .i64 n, .slice (some ad) pss.length c] ∧ Blk w' pm 44 #[.int .i64 f, .slice Ap ps.length cp] := ⟨_, rfl⟩
              have hSe : ∀ w', S w' ↔ (Below w.heap.size w w' ∧ Blk w' w.heap.size 24 #[.int .i64 n, .slice (some ad) pss.length c] ∧ Blk w' pm 44 #[.int .i64 f, .slice Ap ps.length cp]) := fun w' => by rw [hSd]
              have HSI := Lib.hid (show S w3.drew from (hSe _).2 ⟨B2.out.drew, K2.out.drewN 1, KM.out.drewN 1⟩)
              have HSE := Lib.hid (show ∀ x : GW S, Below w.heap.size w x.w ∧ Blk x.w w.heap.size 24 #[.int .i64 n, .slice (some ad) pss.length c] ∧ Blk x.w pm 44 #[.int .i64 f, .slice Ap ps.length cp] from fun x => (hSe x.w).1 x.h)
              have HSB := Lib.hid (show ∀ (x : GW S) (w' : World), Below x.w.heap.size x.w w' → S w' from fun x w' hb => by
                have h := HSE.out x
                exact (hSe w').2 ⟨h.1.trans (hb.mono h.1.size), h.2.1.below hb h.2.1.lt, h.2.2.below hb h.2.2.lt⟩)
              clear hSe hSd
              have k0 : ∀ x : GW S, x.w.cell? ⟨w.heap.size, 0, none⟩ = some (.int .i64 n) := fun x => (HSE.out x).2.1.cell 0
              have m0 : ∀ x : GW S, x.w.cell? ⟨pm, 0, none⟩ = some (.int .i64 f) := fun x => (HSE.out x).2.2.cell 0
              have m1 : ∀ x : GW S, x.w.cell? ⟨pm, 1, none⟩ = some (.slice Ap ps.length cp) := fun x => (HSE.out x).2.2.cell 1
              cases hmb : monoB n (f, ps) with
              | false =>
                have HBD := Lib.hid (show partB n ms = false from partB_no hlt2 (by unfold badAt; rw [HGK.out, hmb]; rfl))
                have HFB := Lib.hid (show fieldB n pss = false by simp [fieldB, parts_no HM.out HBD.out])
                have HIM := Lib.hid (show ∀ x : GW S, Calls Tryz.prog 32 #[.agg #[.int .i64 f, .slice Ap ps.length cp], .int .i64 n] x.w (fun e w' => e = .returned (.bool false) ∧ S w') from fun x => (i_isMonomial _ _ (f, ps) n (HMA.out.below (HSE.out x).1) HPL.out).mono (by rintro e w5 ⟨rfl, hb5⟩; rw [hmb]; exact ⟨rfl, HSB.out x _ hb5⟩))
                clear hmb
                refine wp_region_grow S (by kernel_rfl) (by kernel_rfl) HSI.out (fun hne => ?_)
                repeat (go_big_quiet_step ((go_at_call 32; exact grow_call (HIM.out _))))
                refine wpQuiet_nil ?_
                rintro _ ⟨xq, rfl⟩
                clear k0 m0 m1
                go_wp2_with fail
                go_ret
                exact ⟨ret_bool HFB.out.symm, (HSE.out xq).1⟩
              | true =>
                have HIM := Lib.hid (show ∀ x : GW S, Calls Tryz.prog 32 #[.agg #[.int .i64 f, .slice Ap ps.length cp], .int .i64 n] x.w (fun e w' => e = .returned (.bool true) ∧ S w') from fun x => (i_isMonomial _ _ (f, ps) n (HMA.out.below (HSE.out x).1) HPL.out).mono (by rintro e w5 ⟨rfl, hb5⟩; rw [hmb]; exact ⟨rfl, HSB.out x _ hb5⟩))
                have HMB := Lib.hid hmb
                clear hmb
                by_cases hk0 : k = 0
                · subst hk0
                  have HGD := Lib.hid (show badAt n ms 0 = false by unfold badAt; rw [HGK.out, HMB.out]; simp)
                  refine wp_region_grow S (by kernel_rfl) (by kernel_rfl) HSI.out (fun hne => ?_)
                  repeat (go_big_quiet_step ((go_at_call 32; exact grow_call (HIM.out _))))
                  refine wpQuiet_nil ?_
                  rintro _ ⟨xq, rfl⟩
                  clear k0 m0 m1
                  go_wp2_with fail
                  go_roundw
                  case rel =>
                    refine ⟨1, by omega, by go_num, fun q hq => ?_, (HSE.out xq).2.1, (HSE.out xq).1⟩
                    have : q = 0 := by omega
                    subst this
                    exact HGD.out
                  case measure => simp [intOf]; omega
                · obtain ⟨bq, oq, mq, uq, he, hmq, -, huq, -, hcq⟩ := HU.out (k - 1) (by omega)
                  simp only [Option.some.injEq, Addr.mk.injEq, and_true] at he
                  obtain ⟨rfl, rfl⟩ := he
                  obtain ⟨fq, qs⟩ := mq
                  obtain ⟨Aq, cq, rfl, -, -, -⟩ := huq.open_
                  simp only at hcq huq
                  have HPQ := Lib.hid huq
                  have HGQ := Lib.hid (show ms.getD (k - 1) (0, []) = (fq, qs) by simp [List.getD, hmq])
                  have m2 : ∀ x : GW S, x.w.cell? ⟨bm, om + (k - 1) * 2 + 1, none⟩ = some (.slice Aq qs.length cq) := fun x => by rw [(HSE.out x).1.cell (by exact hab)]; exact hcq
                  have HBE := Lib.hid (show badAt n ms k = !lessL qs ps by unfold badAt; rw [HGK.out, HGQ.out, HMB.out]; simp; omega)
                  have hkn : 0 < k := by omega
                  have hkn2 : decide (0 < k) = true := by simp; omega
                  have hkp : (0 : Int) < (k : Int) := by omega
                  have hkw : IntKind.i64.wrap ((k : Int) - 1) = (k : Int) - 1 := IntWalk.i64_in _ (by omega)
                  have hk1 : ((k : Int) - 1).toNat = k - 1 := by omega
                  have hk2 : (0 : Int) ≤ (k : Int) - 1 := by omega
                  have hk3 : (k : Int) - 1 < (ms.length : Int) := by omega
                  clear hmq huq hcq
                  have HCP := Lib.hid (show ∀ x : GW S, Calls Tryz.prog 33 #[.slice Aq qs.length cq, .slice Ap ps.length cp] x.w (fun e w' => e = .returned (.int .i64 (cmpL qs ps)) ∧ S w') from fun x => (lib_Compare _ _ _ qs ps (HPQ.out.below (HSE.out x).1) (HPP.out.below (HSE.out x).1)).mono (by rintro e w5 ⟨rfl, rfl⟩; exact ⟨rfl, x.h⟩))
                  refine wp_region_grow S (by kernel_rfl) (by kernel_rfl) HSI.out (fun hne => ?_)
                  cases hless : lessL qs ps with
                  | true =>
                    have hcz : ¬ 0 ≤ cmpL qs ps := by simp [lessL] at hless; omega
                    have hcz2 : cmpL qs ps < 0 := by omega
                    have HGD := Lib.hid (show badAt n ms k = false by rw [HBE.out, hless]; rfl)
                    clear hless
                    generalize cmpL qs ps = cz at HCP hcz hcz2
                    repeat (go_big_quiet_step (first | (go_at_call 32; exact grow_call (HIM.out _)) | (go_at_call 33; exact grow_call (HCP.out _))))
                    refine wpQuiet_nil ?_
                    rintro _ ⟨xq, rfl⟩
                    clear k0 m0 m1 m2
                    go_wp2_with fail
                    go_roundw
                    case rel =>
                      refine ⟨k + 1, by omega, by go_num, fun q hq => ?_, (HSE.out xq).2.1, (HSE.out xq).1⟩
                      by_cases hqk : q = k
                      · subst hqk; exact HGD.out
                      · exact hJ.out q (by omega)
                    case measure => simp [intOf]; omega
                  | false =>
                    have hcz : 0 ≤ cmpL qs ps := by simp [lessL] at hless; omega
                    have HBD := Lib.hid (show partB n ms = false from partB_no hlt2 (by rw [HBE.out, hless]; rfl))
                    have HFB := Lib.hid (show fieldB n pss = false by simp [fieldB, parts_no HM.out HBD.out])
                    clear hless
                    generalize cmpL qs ps = cz at HCP hcz
                    repeat (go_big_quiet_step (first | (go_at_call 32; exact grow_call (HIM.out _)) | (go_at_call 33; exact grow_call (HCP.out _))))
                    refine wpQuiet_nil ?_
                    rintro _ ⟨xq, rfl⟩
                    clear k0 m0 m1 m2
                    go_wp2_with fail
                    go_ret
                    exact ⟨ret_bool HFB.out.symm, (HSE.out xq).1⟩
            · have : k = ms.length := by omega
              subst this
              have HPT := Lib.hid (partB_all hJ.out)
              have HM2 := HM
              go_wp2_with fail
              go_roundw
              case rel =>
                refine ⟨j + 1, by omega, by go_num, fun i ms' hi hms => ?_, KW.out, BW.out⟩
                by_cases hij : i = j
                · subst hij
                  have e := HM2.out.symm.trans hms
                  injection e with e
                  subst e
                  exact HPT.out
                · exact hI.out i ms' (by omega) hms
              case measure => simp [intOf]; omega
        · have : j = pss.length := by omega
          subst this
          have HF := Lib.hid (show fieldB n pss = true by simp [fieldB, HR.out, HL.out, parts_all hI.out])
          go_wp2_with fail
          go_ret
          exact ⟨ret_bool HF.out.symm, BW.out⟩
    · have hlb : ((pss.length : Int) != n) = true := by simp [hl]
      have HF := Lib.hid (show fieldB n pss = false by simp [fieldB, hl])
      go_quiet ((first | (go_at_call 30; first | exact quiet_same0 (HIR _) | exact quiet_same (HIR _)) | (go_at_call 31; first | exact quiet_same0 (HLN _ (below_drewN B0.out _)) | exact quiet_same (HLN _ (below_drewN B0.out _)))))
      go_wp2_with fail
      go_ret
      exact ⟨ret_bool HF.out.symm, below_drewN B0.out _⟩
end Go.Proofs.YtnnfjjadehgmeaaGreatDoor

