/- The walks of the arithmetic of the program and of the reference: num, pow, inv and their like. | Plain: numbers read from texts. No walk. | Walk of the reference: l01Text. | A region that draws its order, whose operations yield one value each in every world of a class S, and leave a world of S: one walk in the order of the text. No program in sight. -/
import Derived.Test.YtnnfjjadehgmeaaGreatDoorRows
import Derived.Test.YtnnfjjadehgmeaaGreatDoorFt1
import Derived.Test.YtnnfjjadehgmeaaGreatDoorFt2
import Derived.WalkLawsBesides
import Derived.Test.YtnnfjjadehgmeaaGreatDoorFt3
import Derived.BigQuiet
import Derived.Below
set_option linter.unusedVariables false
set_option linter.unusedSimpArgs false
namespace Go.Proofs.YtnnfjjadehgmeaaGreatDoor
open Go.RowKit

set_option maxHeartbeats 400000 in
theorem i_num (n : Int) (w : World) (h0 : -4000000000000000000 ≤ n) (h1 : n ≤ 4000000000000000000) :
    Calls Tryz.prog 71 #[.int .i64 n] w fun e w' => e = .returned (.int .i64 (n % 10007)) ∧ w = w' := by
  have h2 : -10007 < n.tmod 10007 := by rw [Int.tmod_eq_emod]; split <;> omega
  have h3 : n.tmod 10007 < 10007 := by rw [Int.tmod_eq_emod]; split <;> omega
  have HT := Lib.hid (tmod_num n)
  go_enter Tryz.func71, Tryz.ntmps71
  go_wp2
  go_ret
  exact ⟨ret_int HT.out, rfl⟩

set_option maxHeartbeats 400000 in
theorem s_l01Mod (n : Int) (w : World) (h0 : -4000000000000000000 ≤ n) (h1 : n ≤ 4000000000000000000) :
    Calls Tryz.prog 61 #[.int .i64 n] w fun e w' => e = .returned (.int .i64 (n % 10007)) ∧ w = w' := by
  have h2 : -10007 < n.tmod 10007 := by rw [Int.tmod_eq_emod]; split <;> omega
  have h3 : n.tmod 10007 < 10007 := by rw [Int.tmod_eq_emod]; split <;> omega
  have HT := Lib.hid (tmod_num n)
  go_enter Tryz.func61, Tryz.ntmps61
  go_wp2
  go_ret
  exact ⟨ret_int HT.out, rfl⟩

set_option maxHeartbeats 400000 in
theorem s_l01Mul (a b : Int) (w : World) (h0 : 0 ≤ a) (h1 : a ≤ 2000000000) (g0 : 0 ≤ b) (g1 : b ≤ 2000000000) :
    Calls Tryz.prog 60 #[.int .i64 a, .int .i64 b] w fun e w' => e = .returned (.int .i64 (a * b % 10007)) ∧ w = w' := by
  obtain ⟨p1, p2⟩ := mul_bd 2000000000 2000000000 h0 h1 g0 g1
  go_enter Tryz.func60, Tryz.ntmps60
  go_wp2_with (go_at_call 61; refine (s_l01Mod _ _ (by omega) (by omega)).mono ?_; rintro e w' ⟨rfl, rfl⟩)
  go_ret
  exact ⟨rfl, rfl⟩

set_option maxHeartbeats 400000 in
theorem s_l01Add (a b : Int) (w : World) (h0 : -2000000000000000000 ≤ a) (h1 : a ≤ 2000000000000000000) (g0 : -2000000000000000000 ≤ b) (g1 : b ≤ 2000000000000000000) :
    Calls Tryz.prog 83 #[.int .i64 a, .int .i64 b] w fun e w' => e = .returned (.int .i64 ((a + b) % 10007)) ∧ w = w' := by
  go_enter Tryz.func83, Tryz.ntmps83
  go_wp2_with (go_at_call 61; refine (s_l01Mod _ _ (by omega) (by omega)).mono ?_; rintro e w' ⟨rfl, rfl⟩)
  go_ret
  exact ⟨rfl, rfl⟩

set_option maxHeartbeats 400000 in
theorem i_pow (a k : Int) (w : World) (h0 : 0 ≤ a) (h1 : a ≤ 2000000000) (g0 : 0 ≤ k) (g1 : k ≤ 2000000000) :
    Calls Tryz.prog 104 #[.int .i64 a, .int .i64 k] w fun e w' => e = .returned (.int .i64 (pw a k.toNat)) ∧ w = w' := by
  go_enter Tryz.func104, Tryz.ntmps104
  go_wp2
  go_loop [0, 1, 5] (fun x y z => ∃ (b out : Int) (j : Nat), x = .int .i64 b ∧ y = .int .i64 j ∧ z = .int .i64 out ∧ 0 ≤ b ∧ b ≤ 2000000000 ∧ j ≤ 2000000000 ∧ 0 ≤ out ∧ out ≤ 10006 ∧ Hid ((out * b ^ j) % 10007 = pw a k.toNat)) (fun _ y _ => (intOf y).toNat)
  case atStart => exact ⟨a, 1, k.toNat, rfl, by rw [Int.toNat_of_nonneg g0], rfl, h0, h1, by omega, by omega, by omega, by unfold Hid pw; rw [Int.one_mul]⟩
  case round =>
    obtain ⟨b, out, j, rfl, rfl, rfl, b0, b1, j1, o0, o1, hI⟩ := hrel
    clear h0 h1 g0 g1
    by_cases hj : 0 < j
    · obtain ⟨p1, p2⟩ := mul_bd 10006 2000000000 o0 o1 b0 b1
      obtain ⟨q1, q2⟩ := mul_bd 2000000000 2000000000 b0 b1 b0 b1
      have hst := Lib.hid (pw_step out b _ j hj hI.out)
      by_cases hodd : j % 2 = 1
      · have hb : (((j : Int) % 2) == 1) = true := by simp; omega
        clear hodd
        go_wp2_with (go_at_call 71; refine (i_num _ _ (by omega) (by omega)).mono ?_; rintro e w' ⟨rfl, rfl⟩)
        go_round
        case rel => exact ⟨_, _, j / 2, rfl, by go_num, rfl, by omega, by omega, by omega, by omega, by omega, hst.out.1 (by simp at hb; omega)⟩
        case measure => simp [intOf]; omega
      · have hb : (((j : Int) % 2) == 1) = false := by simp; omega
        clear hodd
        go_wp2_with (go_at_call 71; refine (i_num _ _ (by omega) (by omega)).mono ?_; rintro e w' ⟨rfl, rfl⟩)
        go_round
        case rel => exact ⟨_, _, j / 2, rfl, by go_num, rfl, by omega, by omega, by omega, by omega, by omega, hst.out.2 (by simp at hb; omega)⟩
        case measure => simp [intOf]; omega
    · obtain rfl : j = 0 := by omega
      go_wp2
      go_ret
      refine ⟨ret_int ?_, rfl⟩
      have := hI.out
      rw [← this]
      simp
      omega

set_option maxHeartbeats 400000 in
theorem s_l01Pow (a k : Int) (w : World) (h0 : 0 ≤ a) (h1 : a ≤ 2000000000) (g0 : 0 ≤ k) (g1 : k ≤ 2000000000) :
    Calls Tryz.prog 84 #[.int .i64 a, .int .i64 k] w fun e w' => e = .returned (.int .i64 (pw a k.toNat)) ∧ w = w' := by
  go_enter Tryz.func84, Tryz.ntmps84
  go_wp2
  go_loop [0, 1, 5] (fun x y z => ∃ (b out : Int) (j : Nat), x = .int .i64 b ∧ y = .int .i64 j ∧ z = .int .i64 out ∧ 0 ≤ b ∧ b ≤ 2000000000 ∧ j ≤ 2000000000 ∧ 0 ≤ out ∧ out ≤ 10006 ∧ Hid ((out * b ^ j) % 10007 = pw a k.toNat)) (fun _ y _ => (intOf y).toNat)
  case atStart => exact ⟨a, 1, k.toNat, rfl, by rw [Int.toNat_of_nonneg g0], rfl, h0, h1, by omega, by omega, by omega, by unfold Hid pw; rw [Int.one_mul]⟩
  case round =>
    obtain ⟨b, out, j, rfl, rfl, rfl, b0, b1, j1, o0, o1, hI⟩ := hrel
    clear h0 h1 g0 g1
    by_cases hj : 0 < j
    · have hst := Lib.hid (pw_step out b _ j hj hI.out)
      by_cases hodd : j % 2 = 1
      · have hb : (((j : Int) % 2) == 1) = true := by simp; omega
        clear hodd
        go_wp2_with (go_at_call 60; refine (s_l01Mul _ _ _ (by omega) (by omega) (by omega) (by omega)).mono ?_; rintro e w' ⟨rfl, rfl⟩)
        go_round
        case rel => exact ⟨_, _, j / 2, rfl, by go_num, rfl, by omega, by omega, by omega, by omega, by omega, hst.out.1 (by simp at hb; omega)⟩
        case measure => simp [intOf]; omega
      · have hb : (((j : Int) % 2) == 1) = false := by simp; omega
        clear hodd
        go_wp2_with (go_at_call 60; refine (s_l01Mul _ _ _ (by omega) (by omega) (by omega) (by omega)).mono ?_; rintro e w' ⟨rfl, rfl⟩)
        go_round
        case rel => exact ⟨_, _, j / 2, rfl, by go_num, rfl, by omega, by omega, by omega, by omega, by omega, hst.out.2 (by simp at hb; omega)⟩
        case measure => simp [intOf]; omega
    · obtain rfl : j = 0 := by omega
      go_wp2
      go_ret
      refine ⟨ret_int ?_, rfl⟩
      have := hI.out
      rw [← this]
      simp
      omega

set_option maxHeartbeats 400000 in
theorem i_inv (a : Int) (w : World) (h0 : 0 ≤ a) (h1 : a ≤ 2000000000) :
    Calls Tryz.prog 91 #[.int .i64 a] w fun e w' => e = .returned (.int .i64 (pw a 10005)) ∧ w = w' := by
  go_enter Tryz.func91, Tryz.ntmps91
  go_wp2_with (go_at_call 104; refine (i_pow _ _ _ (by omega) (by omega) (by omega) (by omega)).mono ?_; rintro e w' ⟨rfl, rfl⟩)
  go_ret
  exact ⟨rfl, rfl⟩

set_option maxHeartbeats 400000 in
theorem s_l01Inv (a : Int) (w : World) (h0 : 0 ≤ a) (h1 : a ≤ 2000000000) :
    Calls Tryz.prog 62 #[.int .i64 a] w fun e w' => e = .returned (.int .i64 (pw a 10005)) ∧ w = w' := by
  go_enter Tryz.func62, Tryz.ntmps62
  go_wp2_with (go_at_call 84; refine (s_l01Pow _ _ _ (by omega) (by omega) (by omega) (by omega)).mono ?_; rintro e w' ⟨rfl, rfl⟩)
  go_ret
  exact ⟨rfl, rfl⟩

end Go.Proofs.YtnnfjjadehgmeaaGreatDoor

set_option maxRecDepth 100000
set_option linter.unusedVariables false
set_option linter.unusedSimpArgs false
namespace Go.Proofs.YtnnfjjadehgmeaaGreatDoor
open Go.RowKit

def eFer : Nat := 10006
theorem eFer_succ : eFer = 10005 + 1 := rfl
theorem fer_all : (List.range 10006).all (fun a => Nat.beq ((a + 1) ^ eFer % 10007) 1) = true := by decide +kernel
theorem fer {a : Nat} (h0 : 0 < a) (h1 : a < 10007) : a ^ eFer % 10007 = 1 := by
  have h := fer_all
  rw [List.all_eq_true] at h
  obtain ⟨k, rfl⟩ : ∃ k, a = k + 1 := ⟨a - 1, by omega⟩
  exact Nat.eq_of_beq_eq_true (h k (List.mem_range.2 (by omega)))
theorem fer_inv {q k : Nat} (hk : eFer = k + 1) (h0 : 0 < q) (h1 : q < 10007) : q * (q ^ k % 10007) % 10007 = 1 := by
  rw [Nat.mul_mod, Nat.mod_mod, ← Nat.mul_mod, ← Nat.pow_succ', show k.succ = eFer from hk.symm, fer h0 h1]
theorem pw_nat (a k : Nat) : pw (a : Int) k = ((a ^ k % 10007 : Nat) : Int) := by
  unfold pw
  rw [Int.natCast_emod, Int.natCast_pow]
  rfl
theorem invQ {q : Nat} (h0 : 0 < q) (h1 : q < 10007) : (q : Int) * pw (q : Int) 10005 % 10007 = 1 := by
  rw [pw_nat, ← Int.natCast_mul]
  have := fer_inv eFer_succ h0 h1
  omega

/-- the number p / q -/
def nofR (p q : Int) : Int := (p % 10007) * pw (q % 10007) 10005 % 10007
theorem nofR_of {a p : Int} {q : Nat} (ha : 0 ≤ a) (ha' : a ≤ 10006) (h0 : 0 < q) (h1 : q < 10007) (h : (p - a * (q : Int)) % 10007 = 0) : nofR p (q : Int) = a := by
  unfold nofR
  have hq : (q : Int) % 10007 = (q : Int) := by omega
  rw [hq]
  have hi := invQ h0 h1
  generalize pw (q : Int) 10005 = v at hi
  have h2 : p % 10007 = (a * (q : Int)) % 10007 := by omega
  rw [h2, Int.mul_emod, Int.emod_emod_of_dvd _ (Int.dvd_refl _), ← Int.mul_emod, Int.mul_assoc, Int.mul_emod, hi, Int.mul_one, Int.emod_emod_of_dvd _ (Int.dvd_refl _)]
  omega

/-- what ParseNumber of the program answers -/
def pnF (l : List UInt8) : Int × Int :=
  if (rdB (cutB 47 (Lib.trimPrefix l [45])).1).2 = false ∨ (if (cutB 47 (Lib.trimPrefix l [45])).2.2 then rdB (cutB 47 (Lib.trimPrefix l [45])).2.1 else (1, true)).2 = false ∨ (if (cutB 47 (Lib.trimPrefix l [45])).2.2 then rdB (cutB 47 (Lib.trimPrefix l [45])).2.1 else (1, true)).1 < 1 ∨ (Lib.hasPrefix l [45] = true ∧ (rdB (cutB 47 (Lib.trimPrefix l [45])).1).1 = 0) then (0, 6)
  else if (if (cutB 47 (Lib.trimPrefix l [45])).2.2 then rdB (cutB 47 (Lib.trimPrefix l [45])).2.1 else (1, true)).1 % 10007 = 0 then (0, 5)
  else (nofR (if Lib.hasPrefix l [45] = true then -(rdB (cutB 47 (Lib.trimPrefix l [45])).1).1 else (rdB (cutB 47 (Lib.trimPrefix l [45])).1).1) (if (cutB 47 (Lib.trimPrefix l [45])).2.2 then rdB (cutB 47 (Lib.trimPrefix l [45])).2.1 else (1, true)).1, 0)
/-- .. of the reference -/
def pnH (l : List UInt8) : List UInt8 := (splB 47 l).headD []
def pnP (l : List UInt8) : Int := valB (if (pnH l).head? = some 45 then (pnH l).tail else pnH l)
def pnQ (l : List UInt8) : Int := if (splB 47 l).length = 2 then valB ((splB 47 l).getD 1 []) else 1
def pnS (l : List UInt8) : Int := if (pnH l).head? = some 45 then -1 else 1
def pnR (l : List UInt8) : Int × Int :=
  if 2 < (splB 47 l).length ∨ pnP l < 0 ∨ pnQ l < 1 ∨ (pnP l = 0 ∧ pnS l < 0) then (0, 6)
  else if pnQ l % 10007 = 0 then (0, 5)
  else (nofR (pnS l * pnP l) (pnQ l), 0)

/-- the shape of a number's text -/
def numForm (neg : Bool) (P Q : Nat) : List UInt8 := (if neg then [45] else []) ++ (Lib.decDigits P ++ (if Q = 1 then [] else 47 :: Lib.decDigits Q))
def sgn (neg : Bool) (P : Nat) : Int := if neg then -(P : Int) else P
theorem itoa_form (p : Int) : ∃ neg P, Lib.itoa p = (if neg then [45] else []) ++ Lib.decDigits P ∧ sgn neg P = p ∧ P = p.natAbs ∧ (neg = true → 1 ≤ P) := by
  by_cases h : p < 0
  · refine ⟨true, p.natAbs, ?_, ?_, rfl, fun _ => by omega⟩
    · unfold Lib.itoa; rw [if_pos h]; rfl
    · unfold sgn; rw [if_pos rfl]; omega
  · refine ⟨false, p.natAbs, ?_, ?_, rfl, fun h => by cases h⟩
    · rw [itoa_nn' h, show p.toNat = p.natAbs by omega]; rfl
    · unfold sgn; rw [if_neg (by decide)]; omega
theorem numTxF_form {a : Int} (ha : 0 ≤ a) (ha' : a ≤ 10006) : ∀ (k q : Nat), 1 ≤ q → q + k ≤ 71 → ∃ neg P Q, numTxF a k q = numForm neg P Q ∧ P ≤ 10006 ∧ 1 ≤ Q ∧ Q ≤ 70 ∧ (neg = true → 1 ≤ P) ∧ (sgn neg P - a * (Q : Int)) % 10007 = 0
  | 0, q, h1, _ => by
    refine ⟨false, a.toNat, 1, ?_, by omega, by omega, by omega, (fun h => by cases h), ?_⟩
    · rw [numTxF, itoa_nn' (by omega)]
      unfold numForm
      simp
    · unfold sgn
      rw [if_neg (by decide)]
      omega
  | k + 1, q, h1, h2 => by
    rw [numTxF]
    split
    · rename_i hok
      obtain ⟨hb1, hb2⟩ := okQ_bd hok
      obtain ⟨neg, P, e1, e2, e3, e4⟩ := itoa_form (cenP a q)
      refine ⟨neg, P, q, ?_, by omega, h1, by omega, e4, ?_⟩
      · unfold txPQ numForm
        rw [e1]
        by_cases hq : q = 1
        · rw [if_pos hq, if_pos hq]; simp
        · rw [if_neg hq, if_neg hq]; simp
      · rw [e2]
        exact (cen_iff hb1 hb2).2 rfl
    · exact numTxF_form ha ha' k (q + 1) (by omega) (by omega)
theorem numTx_form {a : Int} (ha : 0 ≤ a) (ha' : a ≤ 10006) : ∃ neg P Q, numTx a = numForm neg P Q ∧ P ≤ 10006 ∧ 1 ≤ Q ∧ Q ≤ 70 ∧ (neg = true → 1 ≤ P) ∧ (sgn neg P - a * (Q : Int)) % 10007 = 0 := numTxF_form ha ha' 70 1 (by omega) (by omega)
theorem dig_not {n : Nat} {b : UInt8} (hb : b.toNat < 48 ∨ 57 < b.toNat) : ∀ x ∈ Lib.decDigits n, x ≠ b := fun x hx e => by
  have := dig_chars n x hx
  rw [e] at this; omega
theorem dig_cons (n : Nat) : ∃ c r, Lib.decDigits n = c :: r ∧ c ≠ 45 := by
  have h := dig_len_pos n
  cases hd : Lib.decDigits n with
  | nil => rw [hd] at h; simp at h
  | cons c r => exact ⟨c, r, rfl, dig_not (n := n) (by decide) c (by rw [hd]; simp)⟩
theorem form_pre (neg : Bool) (P Q : Nat) : Lib.hasPrefix (numForm neg P Q) [45] = neg ∧ Lib.trimPrefix (numForm neg P Q) [45] = Lib.decDigits P ++ (if Q = 1 then [] else 47 :: Lib.decDigits Q) := by
  obtain ⟨c, r, hc, hne⟩ := dig_cons P
  have h1 : Lib.hasPrefix (numForm neg P Q) [45] = neg := by
    unfold numForm Lib.hasPrefix
    cases neg with
    | true => simp [List.isPrefixOf]
    | false => rw [hc]; simp [List.isPrefixOf]; exact fun e => hne e.symm
  refine ⟨h1, ?_⟩
  unfold Lib.trimPrefix
  rw [h1]
  unfold numForm
  cases neg <;> simp
theorem pnF_form {neg : Bool} {P Q : Nat} (hP : P ≤ 10006) (h1 : 1 ≤ Q) (h2 : Q ≤ 70) (hn : neg = true → 1 ≤ P) : pnF (numForm neg P Q) = (nofR (sgn neg P) Q, 0) := by
  obtain ⟨e1, e2⟩ := form_pre neg P Q
  unfold pnF
  rw [e1, e2]
  have hPd := rdB_dig (n := P) (by omega)
  have hQd := rdB_dig (n := Q) (by omega)
  have hs : (if neg = true then -(P : Int) else (P : Int)) = sgn neg P := rfl
  by_cases hq : Q = 1
  · subst hq
    rw [if_pos rfl, List.append_nil, cutB_miss (dig_not (by decide))]
    simp only [Bool.false_eq_true, if_false, hPd, hs]
    rw [if_neg (by rintro (h | h | h | h) <;> first | (have h3 := hn h.1; have h4 := h.2; omega) | omega | cases h), if_neg (by decide)]
    rfl
  · rw [if_neg hq, cutB_hit (dig_not (by decide))]
    simp only [if_true, hPd, hQd, hs]
    rw [if_neg (by rintro (h | h | h | h) <;> first | (have h3 := hn h.1; have h4 := h.2; omega) | omega | cases h), if_neg (by omega)]
theorem pnR_form {neg : Bool} {P Q : Nat} (hP : P ≤ 10006) (h1 : 1 ≤ Q) (h2 : Q ≤ 70) (hn : neg = true → 1 ≤ P) : pnR (numForm neg P Q) = (nofR (sgn neg P) Q, 0) := by
  obtain ⟨c, r, hc, hne⟩ := dig_cons P
  have hh : ∀ x ∈ (if neg then [45] else []) ++ Lib.decDigits P, x ≠ (47 : UInt8) := fun x hx => by
    rcases List.mem_append.1 hx with hx | hx
    · cases neg with
      | true => simp at hx; subst hx; decide
      | false => simp at hx
    · exact dig_not (by decide) x hx
  have hsp : splB 47 (numForm neg P Q) = if Q = 1 then [(if neg then [45] else []) ++ Lib.decDigits P] else [(if neg then [45] else []) ++ Lib.decDigits P, Lib.decDigits Q] := by
    unfold numForm
    by_cases hq : Q = 1
    · rw [if_pos hq, if_pos hq, List.append_nil, splB_one hh]
    · rw [if_neg hq, if_neg hq, ← List.append_assoc, splB_cons hh, splB_one (dig_not (by decide))]
  have hH : pnH (numForm neg P Q) = (if neg then [45] else []) ++ Lib.decDigits P := by
    unfold pnH
    rw [hsp]
    split <;> rfl
  have hhd : ((if neg then [45] else []) ++ Lib.decDigits P).head? = some 45 ↔ neg = true := by
    cases neg with
    | true => simp
    | false => rw [hc]; simp; exact hne
  have hpP : pnP (numForm neg P Q) = (P : Int) := by
    unfold pnP
    rw [hH]
    have hv := valB_dig (n := P) (by omega)
    cases neg with
    | true => rw [if_pos (hhd.2 rfl)]; simpa using hv
    | false => rw [if_neg (fun e => by have := hhd.1 e; cases this)]; simpa using hv
  have hpS : pnS (numForm neg P Q) = if neg then -1 else 1 := by
    unfold pnS
    rw [hH]
    cases neg with
    | true => rw [if_pos (hhd.2 rfl)]; rfl
    | false => rw [if_neg (fun e => by have := hhd.1 e; cases this)]; rfl
  have hpQ : pnQ (numForm neg P Q) = (Q : Int) := by
    unfold pnQ
    rw [hsp]
    by_cases hq : Q = 1
    · subst hq; rw [if_pos rfl]; rfl
    · rw [if_neg hq]
      exact valB_dig (n := Q) (by omega)
  have hl : (splB 47 (numForm neg P Q)).length ≤ 2 := by
    rw [hsp]
    split <;> simp
  unfold pnR
  rw [hpP, hpQ, hpS, if_neg, if_neg (by omega)]
  · unfold sgn
    cases neg <;> simp
  · rintro (h | h | h | ⟨h, h'⟩)
    · omega
    · omega
    · omega
    · cases neg with
      | true => have := hn rfl; omega
      | false => simp at h'
theorem pnF_num {a : Int} (ha : 0 ≤ a) (ha' : a ≤ 10006) : pnF (numTx a) = (a, 0) := by
  obtain ⟨neg, P, Q, e, h1, h2, h3, h4, h5⟩ := numTx_form ha ha'
  rw [e, pnF_form h1 h2 h3 h4, nofR_of ha ha' (by omega) (by omega) h5]
theorem pnR_num {a : Int} (ha : 0 ≤ a) (ha' : a ≤ 10006) : pnR (numTx a) = (a, 0) := by
  obtain ⟨neg, P, Q, e, h1, h2, h3, h4, h5⟩ := numTx_form ha ha'
  rw [e, pnR_form h1 h2 h3 h4, nofR_of ha ha' (by omega) (by omega) h5]
end Go.Proofs.YtnnfjjadehgmeaaGreatDoor

set_option maxRecDepth 100000
set_option linter.unusedVariables false
set_option linter.unusedSimpArgs false
namespace Go.Proofs.YtnnfjjadehgmeaaGreatDoor
open Go.RowKit

theorem str_cat (a b : List UInt8) : (⟨a.toArray⟩ : ByteArray) ++ ⟨b.toArray⟩ = ⟨(a ++ b).toArray⟩ := by
  apply ByteArray.ext
  simp
theorem str_cat1 (c : UInt8) (b : List UInt8) : (⟨#[c]⟩ : ByteArray) ++ ⟨b.toArray⟩ = ⟨(c :: b).toArray⟩ := str_cat [c] b
theorem str_cat2 (c : UInt8) (a : List UInt8) : (⟨a.toArray⟩ : ByteArray) ++ ⟨#[c]⟩ = ⟨(a ++ [c]).toArray⟩ := str_cat a [c]
theorem itoa_neg {p : Int} (h : p < 0) : Lib.itoa p = 45 :: Lib.decDigits (-p).toNat := by
  unfold Lib.itoa
  rw [if_pos h, show p.natAbs = (-p).toNat by omega]
theorem itoa_nn {p : Int} (h : ¬ p < 0) : Lib.itoa p = Lib.decDigits p.toNat := by
  unfold Lib.itoa
  rw [if_neg h]
set_option maxHeartbeats 4000000 in
theorem s_l01Text (a : Int) (w : World) (ha : 0 ≤ a) (ha' : a ≤ 10006) :
    Calls Tryz.prog 43 #[.int .i64 a] w fun e w' => e = .returned (strB (numTx a)) ∧ Below w.heap.size w w' := by
  go_enter Tryz.func43, Tryz.ntmps43
  go_wp2_with fail
  go_loopw [3] (fun y wr => ∃ q : Nat, 1 ≤ q ∧ q ≤ 71 ∧ y = .int .i64 q ∧ Hid (numTx a = numTxF a (71 - q) q) ∧ Below w.heap.size w wr) (fun y _ => 71 - (intOf y).toNat)
  case atStart => exact ⟨1, by omega, by omega, rfl, Lib.hid rfl, Below.refl _ _⟩
  case round =>
    obtain ⟨q, h1, h2, rfl, HN, hb⟩ := hrel
    by_cases hq : q ≤ 70
    · have hqi : (q : Int) ≤ 70 := by omega
      have HB := Lib.hid hb
      clear hb
      go_wp2_with fail
      go_loopw [4] (fun z wx => ∃ p : Int, z = .int .i64 p ∧ -70 ≤ p ∧ p ≤ 71 ∧ Hid (∀ p', -70 ≤ p' → p' < p → ¬ (p' = cenP a q ∧ okQ a q = true)) ∧ Below w.heap.size w wx) (fun z _ => (71 - intOf z).toNat)
      case atStart => exact ⟨-70, rfl, by omega, by omega, Lib.hid (fun p' a b => by omega), HB.out⟩
      case round =>
        obtain ⟨p, rfl, p1, p2, HNO, hbx⟩ := hrel
        have HBX := Lib.hid hbx
        clear hbx
        by_cases hp : p ≤ 70
        · have hmul : 0 ≤ a * (q : Int) ∧ a * (q : Int) ≤ 1000000 := ⟨Int.mul_nonneg ha (by omega), by
            have h3 : a * (q : Int) ≤ 10006 * 70 := Int.mul_le_mul ha' hqi (by omega) (by omega)
            omega⟩
          have HMD := Lib.hid (fun W => s_l01Mod (p - a * (q : Int)) W (by omega) (by omega))
          have HCM := Lib.hid (fun W => s_l01Common p (q : Int) W (by omega) (by omega) (by omega) (by omega))
          obtain ⟨c, hc⟩ : ∃ c, c = (p - a * (q : Int)) % 10007 := ⟨_, rfl⟩
          obtain ⟨g, hg⟩ : ∃ g, g = Int.gcd p (q : Int) := ⟨_, rfl⟩
          rw [← hc] at HMD
          rw [← hg] at HCM
          have HCC := Lib.hid hc
          have HGG := Lib.hid hg
          have hgp : 1 ≤ g := by rw [hg]; exact Int.gcd_pos_of_ne_zero_right _ (by omega)
          clear hc hg
          by_cases hc0 : c = 0
          · by_cases hg1 : g = 1
            · have hok := (okQ_ref (a := a) (q := (q : Int)) p1 hp).1 ⟨by rw [← HCC.out]; exact hc0, by rw [← HGG.out]; exact hg1⟩
              have HTX := Lib.hid (show numTx a = txPQ p q by rw [HN.out, show 71 - q = (70 - q) + 1 by omega, numTxF_yes hok.2, ← hok.1])
              clear hok
              have hcb : (c != 0) = false := by simpa using hc0
              have hgi : ¬ ((1 : Int) < (g : Int)) := by omega
              have HD := Lib.hid (show ∀ (W : World) (x : Int), 0 ≤ x → x ≤ 1000000 → Calls Tryz.prog 44 #[.int .i64 x] W fun e w' => e = .returned (strB (Lib.decDigits x.toNat)) ∧ Below W.heap.size W w' from fun W x x0 x1 => by
                have h := s_l01Dec 6 x.toNat W (by omega) (by omega)
                rwa [show ((x.toNat : Nat) : Int) = x by omega] at h)
              have hLq := decDigits_len q
              by_cases hneg : p < 0
              · have hLp := decDigits_len (-p).toNat
                have hl1 : ¬ (9223372036854775807 < 1 + (Lib.decDigits (-p).toNat).length) := by omega
                have hl2 : ¬ (9223372036854775807 < 1 + (Lib.decDigits (-p).toNat).length + 1) := by omega
                have hl3 : ¬ (9223372036854775807 < 1 + (Lib.decDigits (-p).toNat).length + 1 + (Lib.decDigits q).length) := by omega
                clear hLp hLq
                by_cases hq1 : q = 1
                · have hq1i : ¬ ((1 : Int) < (q : Int)) := by omega
                  have HQ1 := Lib.hid hq1
                  clear hq1
                  go_wp2_with (first
                    | (go_at_call 61; refine (HMD.out _).mono ?_; rintro e w2 ⟨rfl, rfl⟩)
                    | (go_at_call 63; refine (HCM.out _).mono ?_; rintro e w3 ⟨rfl, rfl⟩)
                    | (go_at_call 44; refine (HD.out _ _ (by omega) (by omega)).mono ?_; rintro e w4 ⟨rfl, hb4⟩))
                  go_ret
                  refine ⟨?_, HBX.out.trans (hb4.mono HBX.out.size)⟩
                  rw [HTX.out, HQ1.out, str_cat1]
                  unfold txPQ
                  rw [if_pos rfl, itoa_neg hneg]
                  rfl
                · have hq1i : (1 : Int) < (q : Int) := by omega
                  have HQ1 := Lib.hid hq1
                  clear hq1
                  go_wp2_with (first
                    | (go_at_call 61; refine (HMD.out _).mono ?_; rintro e w2 ⟨rfl, rfl⟩)
                    | (go_at_call 63; refine (HCM.out _).mono ?_; rintro e w3 ⟨rfl, rfl⟩)
                    | (go_at_call 44; refine (HD.out _ _ (by omega) (by omega)).mono ?_; rintro e w4 ⟨rfl, hb4⟩))
                  go_ret
                  have hx4 : ∃ wz, Below wr.heap.size wr wz ∧ Below wz.heap.size wz w4 := ⟨_, by assumption, hb4⟩
                  obtain ⟨wz, hz1, hz2⟩ := hx4
                  have hz3 := HBX.out.trans (hz1.mono HBX.out.size)
                  refine ⟨?_, hz3.trans (hz2.mono hz3.size)⟩
                  rw [HTX.out, str_cat1, str_cat2, str_cat]
                  unfold txPQ
                  rw [if_neg HQ1.out, itoa_neg hneg]
                  simp [strB]
              · have hLp := decDigits_len p.toNat
                have hl2 : ¬ (9223372036854775807 < (Lib.decDigits p.toNat).length + 1) := by omega
                have hl3 : ¬ (9223372036854775807 < (Lib.decDigits p.toNat).length + 1 + (Lib.decDigits q).length) := by omega
                clear hLp hLq
                by_cases hq1 : q = 1
                · have hT : numTx a = Lib.decDigits p.toNat := by rw [HTX.out]; unfold txPQ Lib.itoa; rw [if_pos hq1, if_neg (by omega)]
                  have hq1i : ¬ ((1 : Int) < (q : Int)) := by omega
                  clear hq1
                  have HT := Lib.hid hT
                  clear hT
                  go_wp2_with (first
                    | (go_at_call 61; refine (HMD.out _).mono ?_; rintro e w2 ⟨rfl, rfl⟩)
                    | (go_at_call 63; refine (HCM.out _).mono ?_; rintro e w3 ⟨rfl, rfl⟩)
                    | (go_at_call 44; refine (HD.out _ _ (by omega) (by omega)).mono ?_; rintro e w4 ⟨rfl, hb4⟩))
                  go_ret
                  exact ⟨by rw [HT.out]; rfl, HBX.out.trans (hb4.mono HBX.out.size)⟩
                · have hq1i : (1 : Int) < (q : Int) := by omega
                  have HQ1 := Lib.hid hq1
                  clear hq1
                  go_wp2_with (first
                    | (go_at_call 61; refine (HMD.out _).mono ?_; rintro e w2 ⟨rfl, rfl⟩)
                    | (go_at_call 63; refine (HCM.out _).mono ?_; rintro e w3 ⟨rfl, rfl⟩)
                    | (go_at_call 44; refine (HD.out _ _ (by omega) (by omega)).mono ?_; rintro e w4 ⟨rfl, hb4⟩))
                  go_ret
                  have hx4 : ∃ wz, Below wr.heap.size wr wz ∧ Below wz.heap.size wz w4 := ⟨_, by assumption, hb4⟩
                  obtain ⟨wz, hz1, hz2⟩ := hx4
                  have hz3 := HBX.out.trans (hz1.mono HBX.out.size)
                  refine ⟨?_, hz3.trans (hz2.mono hz3.size)⟩
                  rw [HTX.out, str_cat2, str_cat]
                  unfold txPQ
                  rw [if_neg HQ1.out, itoa_nn (by omega)]
                  simp [strB]
            · have hn : ∀ p', -70 ≤ p' → p' < p + 1 → ¬ (p' = cenP a q ∧ okQ a q = true) := fun p' a1 a2 h => by
                by_cases he : p' = p
                · subst he
                  exact hg1 (by rw [HGG.out]; exact ((okQ_ref p1 hp).2 h).2)
                · exact HNO.out p' a1 (by omega) h
              have HN2 := Lib.hid hn
              have hcb : (c != 0) = false := by simpa using hc0
              have hgi : (1 : Int) < (g : Int) := by omega
              clear hn
              go_wp2_with (first
                | (go_at_call 61; refine (HMD.out _).mono ?_; rintro e w2 ⟨rfl, rfl⟩)
                | (go_at_call 63; refine (HCM.out _).mono ?_; rintro e w3 ⟨rfl, rfl⟩))
              go_roundw
              case rel => exact ⟨p + 1, rfl, by omega, by omega, HN2, HBX.out⟩
              case measure => simp [intOf]; omega
          · have hn : ∀ p', -70 ≤ p' → p' < p + 1 → ¬ (p' = cenP a q ∧ okQ a q = true) := fun p' a1 a2 h => by
              by_cases he : p' = p
              · subst he
                exact hc0 (by rw [HCC.out]; exact ((okQ_ref p1 hp).2 h).1)
              · exact HNO.out p' a1 (by omega) h
            have HN2 := Lib.hid hn
            have hcb : (c != 0) = true := by simpa using hc0
            clear hn
            go_wp2_with (first
              | (go_at_call 61; refine (HMD.out _).mono ?_; rintro e w2 ⟨rfl, rfl⟩)
              | (go_at_call 63; refine (HCM.out _).mono ?_; rintro e w3 ⟨rfl, rfl⟩))
            go_roundw
            case rel => exact ⟨p + 1, rfl, by omega, by omega, HN2, HBX.out⟩
            case measure => simp [intOf]; omega
        · have hp71 : p = 71 := by omega
          subst hp71
          have hno : okQ a q = false := by
            cases hk : okQ a q with
            | false => rfl
            | true =>
              have hk' := hk
              unfold okQ at hk'
              simp only [Bool.and_eq_true, decide_eq_true_eq] at hk'
              exact absurd ⟨rfl, hk⟩ (HNO.out (cenP a q) hk'.1.1 (by omega))
          have HNX := Lib.hid (show numTx a = numTxF a (71 - (q + 1)) (q + 1) by
            rw [HN.out, show 71 - q = (71 - (q + 1)) + 1 by omega, numTxF_no hno])
          clear hno
          go_wp2_with fail
          go_roundw
          case rel => exact ⟨q + 1, by omega, by omega, by go_num, HNX, HBX.out⟩
          case measure => simp [intOf]; omega
    · have hqe : q = 71 := by omega
      subst hqe
      have hfin : numTx a = Lib.decDigits a.toNat := by
        rw [HN.out]
        show Lib.itoa a = _
        unfold Lib.itoa
        rw [if_neg (by omega)]
      have HFI := Lib.hid hfin
      have e : a = ((a.toNat : Nat) : Int) := by omega
      have HD := Lib.hid (fun W => s_l01Dec 6 a.toNat W (by omega) (by omega))
      rw [← e] at HD
      clear hfin e
      go_wp2_with (go_at_call 44; refine (HD.out _).mono ?_; rintro e w2 ⟨rfl, hb2⟩)
      go_ret
      exact ⟨by rw [HFI.out]; rfl, hb.trans (hb2.mono hb.size)⟩
end Go.Proofs.YtnnfjjadehgmeaaGreatDoor

set_option linter.unusedVariables false
set_option linter.unusedSimpArgs false
namespace Go.Proofs.YtnnfjjadehgmeaaGreatDoor
open Go Go.RowKit

/-- a world of the class -/
structure GW (S : World → Prop) where
  w : World
  h : S w

theorem wp_region_grow {P : Program} {id : Nat} {Q : Exit → Act → World → Prop} {a : Act} {w : World} {l : List Oper} (S : World → Prop) (hm : P.follows .mixedOrders = true) (hB : Region.lexB .any l.toArray = true) (hC : S w.drew)
    (h : Nonempty (GW S) → wpQuiet P l.toArray (fun w' => ∃ x : GW S, w' = x.w) (fun a' => ∀ w', (∃ x : GW S, w' = x.w) → Q .normal a' w') l a) : (Code.region id l.toArray true).wp P Q a w :=
  wp_region_quiet (C := fun w' => ∃ x : GW S, w' = x.w) hm hB ⟨⟨_, hC⟩, rfl⟩ (by simpa using h ⟨⟨_, hC⟩⟩)

/-- a callee that leaves a world of the class -/
theorem grow_call {P : Program} {f : FuncId} {args : Array Value} {w : World} {v : Value} {S : World → Prop} (h : Calls P f args w fun e w' => e = .returned v ∧ S w') : Calls P f args w fun e w'' => e = .returned v ∧ ∃ x : GW S, w'' = x.w :=
  h.mono fun _ w' ⟨he, hw⟩ => ⟨he, ⟨w', hw⟩, rfl⟩
end Go.Proofs.YtnnfjjadehgmeaaGreatDoor

