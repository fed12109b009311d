/- Walk of the reference: l01Dec. | Plain: the text of a number. No walk. | Arithmetic modulo 10007, plain. No program in sight. | The walks of the small functions of the laws: copies, comparisons, marks. | Walks: comparing lists, of the library and of the reference. | Walks of tests: in a range, a number, all numbers. | The walk of the program's length at lists of numbers. | Monomials: words of memory; walks of isMonomial of the program and l13Degree of the reference. -/
import Derived.Test.YtnnfjjadehgmeaaGreatDoorPz1
import Derived.Laws.IdiomStrings
import Derived.Lib.ItoaNum
import Derived.Deep.RegionLaw
import Derived.Test.YtnnfjjadehgmeaaGreatDoorRows
import Derived.WalkLawsBesides
import Derived.Deep.QuietTactic
import Derived.BigQuiet
import Derived.BigGuardPart
set_option maxRecDepth 100000
set_option linter.unusedVariables false
set_option linter.unusedSimpArgs false
namespace Go.Proofs.YtnnfjjadehgmeaaGreatDoor
open Go.RowKit

theorem byteStrAt (d : Nat) (hd : d < 256) (W : World) (g : Nat) (hc : W.cell? ⟨g, 0, none⟩ = some (.int .u8 (d : Int))) : (convert 30 9 (.slice (some ⟨g, 0, none⟩) 1 1)).run Tryz.prog W = .ok (.string ⟨#[UInt8.ofNat d]⟩) W := by
  have h := run_convert_bytes_back (P := Tryz.prog) W 30 9 5 ⟨g, 0, none⟩ 1 [UInt8.ofNat d] (by kernel_rfl) (by kernel_rfl) (by kernel_rfl) (fun j hj => by
    have : j = 0 := by simpa using hj
    subst this
    rw [addr_add, hc]
    simp [Nat.mod_eq_of_lt hd])
  exact h
theorem byteStr (d : Nat) (hd : d < 256) (W : World) : (convert 30 9 (.slice (some ⟨W.heap.size, 0, none⟩) 1 1)).run Tryz.prog (W.alloc (.cells #[.int .u8 (d : Int)] 5)) = .ok (.string ⟨#[UInt8.ofNat d]⟩) (W.alloc (.cells #[.int .u8 (d : Int)] 5)) :=
  byteStrAt d hd _ _ (by rw [(Blk.new W _ _).cell]; rfl)
abbrev strB (l : List UInt8) : Value := .string ⟨l.toArray⟩
theorem strB_snoc (l : List UInt8) (b : UInt8) : Value.string ((⟨l.toArray⟩ : ByteArray) ++ ⟨#[b]⟩) = strB (l ++ [b]) := by
  unfold strB
  congr 1
theorem decDigits_len : ∀ (n : Nat), (Lib.decDigits n).length ≤ n + 1 := by
  intro n
  induction n using Nat.strongRecOn with
  | ind n ih =>
    rw [Lib.decDigits]
    split
    · simp
    · have := ih (n / 10) (by omega)
      simp
      omega
set_option maxHeartbeats 2000000 in
theorem s_l01Dec_small (n : Nat) (w : World) (hn : n < 10) :
    Calls Tryz.prog 44 #[.int .i64 (n : Nat)] w fun e w' => e = .returned (strB (Lib.decDigits n)) ∧ Below w.heap.size w w' := by
  have h1 : (n : Int) < 10 := by omega
  have hc := byteStr (48 + n) (by omega)
  push_cast at hc
  have hdd : Lib.decDigits n = [UInt8.ofNat (48 + n)] := by rw [Lib.decDigits, dif_pos hn]
  go_enter Tryz.func44, Tryz.ntmps44
  go_wp2_with fail
  go_ret
  refine ⟨?_, below1 _ _⟩
  rw [hdd]
  simp [strB]
set_option maxHeartbeats 2000000 in
theorem s_l01Dec : ∀ (k n : Nat) (w : World), n < 10 ^ (k + 1) → n ≤ 1000000 →
    Calls Tryz.prog 44 #[.int .i64 (n : Nat)] w fun e w' => e = .returned (strB (Lib.decDigits n)) ∧ Below w.heap.size w w'
  | 0, n, w, h, _ => s_l01Dec_small n w (by simpa using h)
  | k + 1, n, w, h, h6 => by
    by_cases hn : n < 10
    · exact s_l01Dec_small n w hn
    · have h1 : ¬ ((n : Int) < 10) := by omega
      have ih := fun W => s_l01Dec k (n / 10) W (by rw [Nat.pow_succ] at h; omega) (by omega)
      have IH := Lib.hid (show ∀ (W : World) (x : Int), x = ((n / 10 : Nat) : Int) → Calls Tryz.prog 44 #[.int .i64 x] W fun e w' => e = .returned (strB (Lib.decDigits (n / 10))) ∧ Below W.heap.size W w' from fun W x hx => by rw [hx]; exact ih W)
      clear ih
      have hw0 : IntKind.i64.wrap ((n : Int) / 10) = ((n / 10 : Nat) : Int) := by rw [IntWalk.i64_in _ (by omega)]; omega
      have HW0 := Lib.hid hw0
      have hnl : ¬ (9223372036854775807 < (Lib.decDigits (n / 10)).length + 1) := by have := decDigits_len (n / 10); omega
      clear hw0
      have hdd : Lib.decDigits n = Lib.decDigits (n / 10) ++ [UInt8.ofNat (48 + n % 10)] := by rw [Lib.decDigits, dif_neg hn]
      have e0 : (n : Int).tmod 10 = ((n % 10 : Nat) : Int) := by rw [Int.tmod_eq_emod_of_nonneg (by omega)]; omega
      have e1 : IntKind.u8.wrap (IntKind.i64.wrap (48 + (n : Int).tmod 10)) = ((48 + n % 10 : Nat) : Int) := by
        rw [e0, IntWalk.i64_in _ (by omega), IntWalk.u8_in _ (by omega)]; omega
      have hc : ∀ W : World, (convert 30 9 (.slice (some ⟨W.heap.size, 0, none⟩) 1 1)).run Tryz.prog (W.alloc (.cells #[.int .u8 (IntKind.u8.wrap (IntKind.i64.wrap (48 + (n : Int).tmod 10)))] 5)) = .ok (.string ⟨#[UInt8.ofNat (48 + n % 10)]⟩) (W.alloc (.cells #[.int .u8 (IntKind.u8.wrap (IntKind.i64.wrap (48 + (n : Int).tmod 10)))] 5)) := fun W => by rw [e1]; exact byteStr (48 + n % 10) (by omega) W
      have HCA := Lib.hid (fun W g (h : World.cell? W ⟨g, 0, none⟩ = some (.int .u8 (IntKind.u8.wrap (IntKind.i64.wrap (48 + (n : Int).tmod 10))))) => byteStrAt (48 + n % 10) (by omega) W g (by rw [h, e1]))
      have hcd : ∀ W : World, (convert 30 9 (.slice (some ⟨W.heap.size, 0, none⟩) 1 1)).run Tryz.prog (W.alloc (.cells #[.int .u8 (IntKind.u8.wrap (IntKind.i64.wrap (48 + (n : Int).tmod 10)))] 5)).drew = .ok (.string ⟨#[UInt8.ofNat (48 + n % 10)]⟩) (W.alloc (.cells #[.int .u8 (IntKind.u8.wrap (IntKind.i64.wrap (48 + (n : Int).tmod 10)))] 5)).drew := fun W => HCA.out _ W.heap.size ((Blk.new W _ _).cell 0)
      clear e0 e1
      go_enter Tryz.func44, Tryz.ntmps44
      go_wp2_with fail
      go_region_law ((go_simp; go_at_call 44; refine (IH.out _ _ (by exact HW0.out)).mono ?_; rintro e w5 ⟨rfl, hb5⟩; (first | (have hc5 := HCA.out w5 w.heap.size (by rw [hb5.cell (by simp)]; exact (Blk.new w _ _).cell 0)) | skip)))
      all_goals
        go_wp2_with fail
        go_ret
        refine ⟨?_, ?_⟩
        · rw [hdd, ← strB_snoc]
          have e8 : UInt8.ofNat (48 + n % 10) = 48 + UInt8.ofNat (n % 10) := by simp
          rw [e8]
          rfl
        · first
          | exact (below_of_drew hb5).trans ((below1 w5 _).mono (below_of_drew hb5).size)
          | exact (below1 w _).trans ((below_of_drew hb5).mono (by simp))
end Go.Proofs.YtnnfjjadehgmeaaGreatDoor

set_option maxRecDepth 100000
set_option linter.unusedVariables false
set_option linter.unusedSimpArgs false
namespace Go.Proofs.YtnnfjjadehgmeaaGreatDoor
open Go.RowKit

/-- the residue of least size -/
def cenP (a q : Int) : Int := if 5003 < (a * q) % 10007 then (a * q) % 10007 - 10007 else (a * q) % 10007
theorem cen_iff {a q p : Int} (h1 : -70 ≤ p) (h2 : p ≤ 70) : (p - a * q) % 10007 = 0 ↔ p = cenP a q := by
  unfold cenP
  generalize a * q = x
  split <;> omega
/-- does q serve? -/
def okQ (a q : Int) : Bool := decide (-70 ≤ cenP a q) && decide (cenP a q ≤ 70) && decide (Int.gcd (cenP a q) q = 1)
theorem okQ_ref {a q p : Int} (h1 : -70 ≤ p) (h2 : p ≤ 70) : ((p - a * q) % 10007 = 0 ∧ Int.gcd p q = 1) ↔ (p = cenP a q ∧ okQ a q = true) := by
  rw [cen_iff h1 h2]
  constructor
  · rintro ⟨rfl, h⟩
    exact ⟨rfl, by unfold okQ; rw [decide_eq_true h1, decide_eq_true h2, decide_eq_true h]; rfl⟩
  · rintro ⟨rfl, h⟩
    unfold okQ at h
    simp only [Bool.and_eq_true, decide_eq_true_eq] at h
    exact ⟨rfl, h.2⟩
def txPQ (p : Int) (q : Nat) : List UInt8 := if q = 1 then Lib.itoa p else Lib.itoa p ++ (47 :: Lib.decDigits q)
/-- the text, from q on, with k tries left -/
def numTxF (a : Int) : Nat → Nat → List UInt8
  | 0, _ => Lib.itoa a
  | k + 1, q => if okQ a q then txPQ (cenP a q) q else numTxF a k (q + 1)
def numTx (a : Int) : List UInt8 := numTxF a 70 1
theorem numTxF_yes {a : Int} {k q : Nat} (h : okQ a q = true) : numTxF a (k + 1) q = txPQ (cenP a q) q := by rw [numTxF, if_pos h]
theorem numTxF_no {a : Int} {k q : Nat} (h : okQ a q = false) : numTxF a (k + 1) q = numTxF a k (q + 1) := by rw [numTxF, if_neg (by rw [h]; decide)]
end Go.Proofs.YtnnfjjadehgmeaaGreatDoor

set_option linter.unusedVariables false
set_option linter.unusedSimpArgs false
namespace Go.Proofs.YtnnfjjadehgmeaaGreatDoor

theorem tmod_num (n : Int) : (n.tmod 10007 + 10007) % 10007 = n % 10007 := by
  rw [Int.tmod_eq_emod (a := n)]
  split <;> omega

/-- a to the k-th, modulo 10007 -/
def pw (a : Int) (k : Nat) : Int := a ^ k % 10007

theorem pw_step (out a k0 : Int) (k : Nat) (hk : 0 < k) (h : (out * a ^ k) % 10007 = k0) :
    (k % 2 = 1 → ((out * a % 10007) * (a * a % 10007) ^ (k / 2)) % 10007 = k0) ∧ (k % 2 = 0 → (out * (a * a % 10007) ^ (k / 2)) % 10007 = k0) := by
  have hs : ∀ (x : Int) (n : Nat), ((x % 10007) ^ n) % 10007 = (x ^ n) % 10007 := by
    intro x n
    rw [Int.emod_emod_of_dvd _ (Int.dvd_refl _) |>.symm]
    induction n with
    | zero => simp
    | succ n ih =>
      rw [Int.pow_succ, Int.pow_succ, Int.mul_emod, Int.emod_emod_of_dvd _ (Int.dvd_refl _), Int.mul_emod (x ^ n)]
      simp only [Int.emod_emod_of_dvd _ (Int.dvd_refl _)] at ih ⊢
      rw [ih]
  have hsq : ∀ n : Nat, (a * a) ^ n = a ^ (2 * n) := by
    intro n
    induction n with
    | zero => simp
    | succ n ih => rw [Int.pow_succ, ih, show 2 * (n + 1) = 2 * n + 1 + 1 from by omega, Int.pow_succ, Int.pow_succ, Int.mul_assoc]
  constructor
  · intro hodd
    rw [Int.mul_emod, hs, Int.emod_emod_of_dvd _ (Int.dvd_refl _), ← Int.mul_emod, hsq, Int.mul_assoc, ← h]
    congr 2
    rw [show k = 2 * (k / 2) + 1 from by omega, Int.pow_succ, Int.mul_comm a]
    rw [show (2 * (k / 2) + 1) / 2 = k / 2 from by omega]
  · intro hev
    rw [Int.mul_emod, hs, ← Int.mul_emod, hsq, ← h]
    congr 3
    omega

theorem mul_bd {x y : Int} (A B : Int) (h0 : 0 ≤ x) (h1 : x ≤ A) (g0 : 0 ≤ y) (g1 : y ≤ B) : 0 ≤ x * y ∧ x * y ≤ A * B :=
  ⟨Int.mul_nonneg h0 g0, Int.mul_le_mul h1 g1 g0 (Int.le_trans h0 h1)⟩

/-- lo ≤ n ≤ hi, as a test -/
def inR (n lo hi : Int) : Bool := decide (lo ≤ n) && decide (n ≤ hi)
theorem inR_iff {n lo hi : Int} : inR n lo hi = true ↔ lo ≤ n ∧ n ≤ hi := by simp [inR]
theorem inR_not {n lo hi : Int} : inR n lo hi = false ↔ n < lo ∨ hi < n := by
  rw [← Bool.not_eq_true, inR_iff]; omega
def isNum (z : Int) : Bool := inR z 0 10006
/-- the sum of a function over a list -/
def sumF {α : Type} (f : α → Int) : List α → Int
  | [] => 0
  | x :: xs => f x + sumF f xs
theorem sumF_snoc {α : Type} (f : α → Int) (l : List α) (x : α) : sumF f (l ++ [x]) = sumF f l + f x := by
  induction l with
  | nil => simp [sumF]
  | cons y l ih => simp only [List.cons_append, sumF, ih]; omega
theorem sumF_take {α : Type} (f : α → Int) {l : List α} {k : Nat} {x : α} (h : l[k]? = some x) : sumF f (l.take (k + 1)) = sumF f (l.take k) + f x := by
  rw [List.take_add_one, h]
  exact sumF_snoc f _ x
theorem sumF_bd {α : Type} (f : α → Int) (M : Int) (l : List α) (h : ∀ x ∈ l, 0 ≤ f x ∧ f x ≤ M) : 0 ≤ sumF f l ∧ sumF f l ≤ l.length * M := by
  induction l with
  | nil => simp [sumF]
  | cons y l ih =>
    have h1 := h y (by simp)
    have h2 := ih fun x hx => h x (by simp [hx])
    simp only [sumF, List.length_cons]
    rw [show ((l.length + 1 : Nat) : Int) * M = l.length * M + M by rw [Int.natCast_add, Int.add_mul]; simp]
    omega
end Go.Proofs.YtnnfjjadehgmeaaGreatDoor

set_option linter.unusedVariables false
set_option linter.unusedSimpArgs false
namespace Go.Proofs.YtnnfjjadehgmeaaGreatDoor
open Go.RowKit

theorem take_eq_succ {xs ys : List Int} {k : Nat} {x y : Int} (h : xs.take k = ys.take k) (hx : xs[k]? = some x) (hy : ys[k]? = some y) (e : x = y) : xs.take (k + 1) = ys.take (k + 1) := by
  rw [List.take_add_one, List.take_add_one, h, hx, hy, e]

set_option maxHeartbeats 400000 in
theorem l_eqInt64S (w : World) (a b : Value) (xs ys : List Int) (ha : Ints w a xs) (hb : Ints w b ys) :
    Calls Tryz.prog 95 #[a, b] w fun e w' => e = .returned (.bool (decide (xs = ys))) ∧ ∃ n, w' = w.drewN n := by
  obtain ⟨A, c, rfl, h1, h2, h3⟩ := ha.open_
  obtain ⟨B, d, rfl, g1, g2, g3⟩ := hb.open_
  clear ha hb
  have H3 := Lib.hid h3
  have G3 := Lib.hid g3
  clear h3 g3
  by_cases hl : xs.length = ys.length
  · have hl' : (((xs.length : Nat) : Int) != ((ys.length : Nat) : Int)) = false := by simp [hl]
    have HL := Lib.hid hl
    clear hl
    have g4 : ys.length ≤ xs.length := by rw [HL.out]; omega
    have g5 : xs.length ≤ ys.length := by rw [HL.out]; omega
    go_enter Tryz.func95, Tryz.ntmps95
    go_wp2
    go_loopw [5] (fun i wr => ∃ k n : Nat, k ≤ xs.length ∧ i = .int .i64 k ∧ xs.take k = ys.take k ∧ wr = w.drewN n) (fun i _ => xs.length - (intOf i).toNat)
    case atStart => exact ⟨0, 0, Nat.zero_le _, rfl, rfl, rfl⟩
    case round =>
      obtain ⟨k, n, hk, rfl, ht, rfl⟩ := hrel
      have HT := Lib.hid ht
      clear ht
      by_cases hlt : k < xs.length
      · obtain ⟨ad, z, rfl, hz, hz2, hc⟩ := H3.out k hlt
        obtain ⟨ad', y, rfl, hy, hy2, hc'⟩ := G3.out k (by omega)
        have HZ := Lib.hid hz
        have HY := Lib.hid hy
        clear hz hy hz2 hy2
        go_wp2
        go_quiet (fail)
        go_wp2
        · have hne : (z != y) = true := by assumption
          go_ret
          refine ⟨ret_bool ?_, _, World.drewN_drewN _ _ _⟩
          symm
          simp only [decide_eq_false_iff_not]
          rintro rfl
          have := HZ.out.symm.trans HY.out
          simp at this hne
          exact hne this
        · have hne : (z != y) = false := by assumption
          go_roundw
          case rel => exact ⟨k + 1, _, by omega, by go_num, take_eq_succ HT.out HZ.out HY.out (by simpa using hne), rfl⟩
          case measure => simp [intOf]; omega
      · have : k = xs.length := by omega
        subst this
        go_wp2
        go_ret
        refine ⟨ret_bool ?_, _, rfl⟩
        have e := HT.out
        rw [List.take_length, List.take_of_length_le (by omega)] at e
        simp [e]
  · have hl' : (((xs.length : Nat) : Int) != ((ys.length : Nat) : Int)) = true := by simp; omega
    have HL := Lib.hid hl
    clear hl
    go_enter Tryz.func95, Tryz.ntmps95
    go_wp2
    go_ret
    refine ⟨ret_bool ?_, 0, rfl⟩
    have := HL.out
    symm
    simp only [decide_eq_false_iff_not]
    rintro rfl
    exact this rfl

/-- the marks k, k + 1, .. -/
def marks (k : Int) (n : Nat) : List Int := (List.range n).map fun (i : Nat) => k + (i : Int)
theorem marks_len (k : Int) (n : Nat) : (marks k n).length = n := by simp [marks]
theorem marks_get {k : Int} {n i : Nat} (h : i < n) : (marks k n)[i]? = some (k + (i : Int)) := by simp [marks, h]
theorem marks_in (k : Int) (n : Nat) (h0 : 0 ≤ k) (h1 : k ≤ 1099511627776) (h2 : n ≤ 1099511627776) : ∀ z ∈ marks k n, In64 z := by
  intro z hz
  obtain ⟨i, hi, rfl⟩ := List.mem_map.1 hz
  have := List.mem_range.1 hi
  unfold In64
  omega

theorem set_mark {zs : List Int} {k : Int} {i : Nat} (hi : i < zs.length) :
    (ints (marks k i ++ zs.drop i)).set i (Value.int .i64 (k + (i : Int))) = ints (marks k (i + 1) ++ zs.drop (i + 1)) := by
  apply List.ext_getElem?
  intro j
  rw [List.getElem?_set]
  by_cases h1 : i = j
  · subst h1
    rw [if_pos rfl, if_pos (by simp [ints, marks]; omega)]
    simp only [ints, List.map_append]
    rw [List.getElem?_append_left (by simp [marks])]
    simp [marks]
  · rw [if_neg h1]
    simp only [ints, List.map_append]
    rcases Nat.lt_or_ge j i with h2 | h2
    · rw [List.getElem?_append_left (by simp [marks]; omega), List.getElem?_append_left (by simp [marks]; omega)]
      simp [marks, h2, show j < i + 1 by omega]
    · rw [List.getElem?_append_right (by simp [marks]; omega), List.getElem?_append_right (by simp [marks]; omega)]
      simp only [marks, List.length_map, List.length_range, List.getElem?_map, List.getElem?_drop]
      rw [show i + (j - i) = i + 1 + (j - (i + 1)) by omega]

set_option maxHeartbeats 400000 in
theorem l_markInt64S (w : World) (B : Nat) (v : Value) (zs : List Int) (k : Int) (ho : OwnInts w B 2 v zs) (hn : zs.length ≤ 4294967296) (h0 : 0 ≤ k) (h1 : k ≤ 1099511627776) :
    Calls Tryz.prog 78 #[v, .int .i64 k] w fun e w' => e = .returned (.int .i64 (k + (zs.length : Int))) ∧ OwnInts w' B 2 v (marks k zs.length) ∧ w.grownBy w' v.ownBlock ∧ w'.heap.size = w.heap.size := by
  obtain ⟨ho1, ho2⟩ := ho
  rcases ho1.cases with ⟨rfl, hz⟩ | ⟨g, cap, cur, rfl, hB, hg, _, hcap, hcm, _⟩
  · obtain rfl : zs = [] := by simpa [ints] using hz
    clear hz
    go_enter Tryz.func78, Tryz.ntmps78
    go_wp2
    go_loop [1, 5] (fun x i => x = .int .i64 k ∧ i = .int .i64 0) (fun _ _ => 0)
    case atStart => exact ⟨rfl, rfl⟩
    case round =>
      obtain ⟨rfl, rfl⟩ := hrel
      go_wp2
      go_ret
      exact ⟨by simp, ⟨ho1, by simp [marks]⟩, World.grownBy.refl _ _, rfl⟩
  · rw [ints_len] at ho1 hcap
    have hcap' : zs.length ≤ 9223372036854775807 := by omega
    have hcap2 : cap ≤ 9223372036854775807 := by simpa [maxLen] using hcm
    have HO1 := Lib.hid ho1
    have HO2 := Lib.hid ho2
    clear ho1 ho2 hcm
    simp only [ints_len]
    go_enter Tryz.func78, Tryz.ntmps78
    go_wp2
    go_loopw [1, 5] (fun x i wr => ∃ j : Nat, j ≤ zs.length ∧ i = .int .i64 j ∧ x = .int .i64 (k + (j : Int)) ∧ Own wr B 2 (.slice (some ⟨g, 0, none⟩) zs.length cap) (ints (marks k j ++ zs.drop j)) ∧ w.grownBy wr (some g) ∧ wr.heap.size = w.heap.size) (fun _ i _ => zs.length - (intOf i).toNat)
    case atStart => exact ⟨0, Nat.zero_le _, rfl, by simp, by simpa [marks] using HO1.out, World.grownBy.refl _ _, rfl⟩
    case round =>
      obtain ⟨j, hj, rfl, rfl, hown, hgr, hsz⟩ := hrel
      by_cases hlt : j < zs.length
      · obtain ⟨u0, hu0, hcg, hfg, hg2, hg1, hown', hgr'⟩ := hown.storeAt (k := j) (by simp [ints, marks]; omega) (.int .i64 (k + (j : Int)))
        rw [set_mark hlt] at hown'
        have HO := Lib.hid hown'
        have HG := Lib.hid hgr
        have HS := Lib.hid hsz
        clear hown hown' hgr hgr' hu0 hg1 hsz
        go_wp2
        go_roundw
        case rel =>
          refine ⟨j + 1, by omega, by go_num, by go_num, HO.out, ?_, by simpa [World.setCell] using HS.out⟩
          exact ⟨HG.out.os, HG.out.tape, HG.out.output, by simpa [World.setCell] using HG.out.size, fun i hi hne => (Below.heap_setCell _ _ _ i (by rintro rfl; exact hne rfl)).trans (HG.out.block i hi hne)⟩
        case measure => simp [intOf]; omega
      · have : j = zs.length := by omega
        subst this
        have HO := Lib.hid hown
        have HG := Lib.hid hgr
        have HS := Lib.hid hsz
        clear hown hgr hsz
        go_wp2
        go_ret
        refine ⟨rfl, ⟨by simpa using HO.out, marks_in _ _ h0 h1 (by omega)⟩, HG.out, HS.out⟩

set_option maxHeartbeats 400000 in
theorem l_heldInt64S (w : World) (v : Value) (n : Nat) (k : Int) (ho : Ints w v (marks k n)) (hn : n ≤ 4294967296) (h0 : 0 ≤ k) (h1 : k ≤ 1099511627776) :
    Calls Tryz.prog 79 #[v, .int .i64 k] w fun e w' => e = .returned (.int .i64 (k + (n : Int))) ∧ w = w' := by
  obtain ⟨A, c, rfl, g1, g2, g3⟩ := ho.open_
  rw [marks_len] at g1 g3 ⊢
  have G3 := Lib.hid g3
  clear g3 ho
  go_enter Tryz.func79, Tryz.ntmps79
  go_wp2
  go_loop [1, 5] (fun x i => ∃ j : Nat, j ≤ n ∧ i = .int .i64 j ∧ x = .int .i64 (k + (j : Int))) (fun _ i => n - (intOf i).toNat)
  case atStart => exact ⟨0, Nat.zero_le _, rfl, by simp⟩
  case round =>
    obtain ⟨j, hj, rfl, rfl⟩ := hrel
    by_cases hlt : j < n
    · obtain ⟨ad, z, rfl, hz, hz2, hc⟩ := G3.out j hlt
      rw [marks_get hlt] at hz
      obtain rfl : k + (j : Int) = z := by simpa using hz
      clear hz hz2
      go_wp2
      go_round
      case rel => exact ⟨j + 1, by omega, by go_num, by go_num⟩
      case measure => simp [intOf]; omega
    · have : j = n := by omega
      subst this
      go_wp2
      go_ret
      exact ⟨rfl, rfl⟩
end Go.Proofs.YtnnfjjadehgmeaaGreatDoor

set_option maxRecDepth 100000
set_option linter.unusedVariables false
set_option linter.unusedSimpArgs false
namespace Go.Proofs.YtnnfjjadehgmeaaGreatDoor
open Go.RowKit

def cmpZ (x y : Int) : Int := if x < y then -1 else if y < x then 1 else 0
/-- the comparison of two lists -/
def cmpL : List Int → List Int → Int
  | [], [] => 0
  | [], _ :: _ => -1
  | _ :: _, [] => 1
  | x :: xs, y :: ys => if x < y then -1 else if y < x then 1 else cmpL xs ys
def lessL (a b : List Int) : Bool := decide (cmpL a b < 0)
theorem cmpL_nil_left {b : List Int} : cmpL [] b = if 0 < b.length then -1 else 0 := by cases b <;> simp [cmpL]
theorem cmpL_nil_right {a : List Int} (h : 0 < a.length) : cmpL a [] = 1 := by
  cases a with
  | nil => simp at h
  | cons x xs => rfl
theorem cmpL_step {a b : List Int} {k : Nat} {x y : Int} (hx : a[k]? = some x) (hy : b[k]? = some y) : cmpL (a.drop k) (b.drop k) = if x < y then -1 else if y < x then 1 else cmpL (a.drop (k + 1)) (b.drop (k + 1)) := by
  have ha := (List.getElem?_eq_some_iff.1 hx).1
  have hb := (List.getElem?_eq_some_iff.1 hy).1
  rw [List.drop_eq_getElem_cons ha, List.drop_eq_getElem_cons hb]
  have e1 : a[k] = x := by rw [List.getElem?_eq_getElem ha] at hx; simpa using hx
  have e2 : b[k] = y := by rw [List.getElem?_eq_getElem hb] at hy; simpa using hy
  rw [e1, e2, cmpL]

set_option maxHeartbeats 400000 in
theorem lib_isNaN (x : Int) (w : World) : Calls Tryz.prog 80 #[.int .i64 x] w fun e w' => e = .returned (.bool false) ∧ w = w' := by
  go_enter Tryz.func80, Tryz.ntmps80
  go_wp2
  go_ret
  exact ⟨ret_bool (by simp), rfl⟩

set_option maxHeartbeats 400000 in
theorem lib_cmp (x y : Int) (w : World) : Calls Tryz.prog 57 #[.int .i64 x, .int .i64 y] w fun e w' => e = .returned (.int .i64 (cmpZ x y)) ∧ w = w' := by
  go_enter Tryz.func57, Tryz.ntmps57
  by_cases h1 : x < y
  · have h2 : ¬ y < x := by omega
    go_wp2_with (go_at_call 80; refine (lib_isNaN _ _).mono ?_; rintro e w' ⟨rfl, rfl⟩)
    go_ret
    exact ⟨ret_int (by simp [cmpZ, h1]), rfl⟩
  · by_cases h2 : y < x
    · go_wp2_with (go_at_call 80; refine (lib_isNaN _ _).mono ?_; rintro e w' ⟨rfl, rfl⟩)
      go_ret
      exact ⟨ret_int (by simp [cmpZ, h1, h2]), rfl⟩
    · go_wp2_with (go_at_call 80; refine (lib_isNaN _ _).mono ?_; rintro e w' ⟨rfl, rfl⟩)
      go_ret
      exact ⟨ret_int (by unfold cmpZ; rw [if_neg (by omega), if_neg (by omega)]), rfl⟩

set_option maxHeartbeats 1000000 in
theorem lib_Compare (w : World) (v v' : Value) (a b : List Int) (ha : Ints w v a) (hb : Ints w v' b) :
    Calls Tryz.prog 33 #[v, v'] w fun e w' => e = .returned (.int .i64 (cmpL a b)) ∧ w = w' := by
  obtain ⟨A, c, rfl, l1, l2, h3⟩ := ha.open_
  obtain ⟨B, d, rfl, m1, m2, g3⟩ := hb.open_
  have H3 := Lib.hid h3
  have G3 := Lib.hid g3
  clear ha hb h3 g3
  go_enter Tryz.func33, Tryz.ntmps33
  go_wp2_with fail
  go_loop [11] (fun i => ∃ k : Nat, k ≤ a.length ∧ k ≤ b.length ∧ i = .int .i64 k ∧ Hid (cmpL a b = cmpL (a.drop k) (b.drop k))) (fun i => a.length - (intOf i).toNat)
  case atStart => exact ⟨0, Nat.zero_le _, Nat.zero_le _, rfl, (rfl : cmpL a b = cmpL (a.drop 0) (b.drop 0))⟩
  case round =>
    obtain ⟨k, hk, hkb, rfl, hI⟩ := hrel
    by_cases hlt : k < a.length
    · obtain ⟨ad, x, rfl, hx, -, hcx⟩ := H3.out k hlt
      by_cases hlb : k < b.length
      · obtain ⟨ad', y, rfl, hy, -, hcy⟩ := G3.out k hlb
        have HS := Lib.hid (hI.out.trans (cmpL_step hx hy))
        have hng : ¬ (b.length : Int) ≤ (k : Int) := by omega
        clear hx hy
        by_cases h1 : x < y
        · have hz : cmpZ x y = -1 := by simp [cmpZ, h1]
          have HR := Lib.hid (show cmpL a b = -1 by rw [HS.out, if_pos h1])
          go_wp2_with (go_at_call 57; refine (lib_cmp _ _ _).mono ?_; rintro e w' ⟨rfl, rfl⟩; rw [hz])
          go_ret
          exact ⟨ret_int HR.out.symm, rfl⟩
        · by_cases h2 : y < x
          · have hz : cmpZ x y = 1 := by simp [cmpZ, h1, h2]
            have HR := Lib.hid (show cmpL a b = 1 by rw [HS.out, if_neg h1, if_pos h2])
            go_wp2_with (go_at_call 57; refine (lib_cmp _ _ _).mono ?_; rintro e w' ⟨rfl, rfl⟩; rw [hz])
            go_ret
            exact ⟨ret_int HR.out.symm, rfl⟩
          · have hz : cmpZ x y = 0 := by simp [cmpZ, h1, h2]
            have HR := Lib.hid (show cmpL a b = cmpL (a.drop (k + 1)) (b.drop (k + 1)) by rw [HS.out, if_neg h1, if_neg h2])
            go_wp2_with (go_at_call 57; refine (lib_cmp _ _ _).mono ?_; rintro e w' ⟨rfl, rfl⟩; rw [hz])
            go_round
            case rel => exact ⟨k + 1, by omega, by omega, by go_num, HR.out⟩
            case measure => simp [intOf]; omega
      · have hkb2 : k = b.length := by omega
        have HR := Lib.hid (show cmpL a b = 1 by rw [hI.out, hkb2, List.drop_length, cmpL_nil_right (by simp; omega)])
        have hng : (b.length : Int) ≤ (k : Int) := by omega
        clear hkb2 hx
        go_wp2_with fail
        go_ret
        exact ⟨ret_int HR.out.symm, rfl⟩
    · have hka : k = a.length := by omega
      have HR := Lib.hid (show cmpL a b = if 0 < (b.drop k).length then -1 else 0 by rw [hI.out, hka, List.drop_length, cmpL_nil_left])
      have hna : ¬ (k : Int) < (a.length : Int) := by omega
      by_cases hlb : (a.length : Int) < (b.length : Int)
      · have HR2 := Lib.hid (show cmpL a b = -1 by rw [HR.out, if_pos (by simp; omega)])
        clear hka
        go_wp2_with fail
        go_ret
        exact ⟨ret_int HR2.out.symm, rfl⟩
      · have HR2 := Lib.hid (show cmpL a b = 0 by rw [HR.out, if_neg (by simp; omega)])
        clear hka
        go_wp2_with fail
        go_ret
        exact ⟨ret_int HR2.out.symm, rfl⟩

set_option maxHeartbeats 1000000 in
theorem s_l01Less (w : World) (v v' : Value) (a b : List Int) (ha : Ints w v a) (hb : Ints w v' b) :
    Calls Tryz.prog 42 #[v, v'] w fun e w' => e = .returned (.bool (lessL a b)) ∧ ∃ n, w' = w.drewN n := by
  obtain ⟨A, c, rfl, l1, l2, h3⟩ := ha.open_
  obtain ⟨B, d, rfl, m1, m2, g3⟩ := hb.open_
  have H3 := Lib.hid h3
  have G3 := Lib.hid g3
  clear ha hb h3 g3
  go_enter Tryz.func42, Tryz.ntmps42
  go_wp2_with fail
  go_loopw [5] (fun i wr => ∃ k n : Nat, k ≤ a.length ∧ k ≤ b.length ∧ i = .int .i64 k ∧ Hid (cmpL a b = cmpL (a.drop k) (b.drop k)) ∧ wr = w.drewN n) (fun i _ => a.length - (intOf i).toNat)
  case atStart => exact ⟨0, 0, Nat.zero_le _, Nat.zero_le _, rfl, (rfl : cmpL a b = cmpL (a.drop 0) (b.drop 0)), rfl⟩
  case round =>
    obtain ⟨k, n, hk, hkb, rfl, hI, rfl⟩ := hrel
    by_cases hlt : k < a.length
    · obtain ⟨ad, x, rfl, hx, -, hcx⟩ := H3.out k hlt
      by_cases hlb : k < b.length
      · obtain ⟨ad', y, rfl, hy, -, hcy⟩ := G3.out k hlb
        have HS := Lib.hid (hI.out.trans (cmpL_step hx hy))
        have hka' : (k : Int) < (a.length : Int) := by omega
        have hkb' : (k : Int) < (b.length : Int) := by omega
        clear hx hy
        by_cases h0 : x = y
        · have HR := Lib.hid (show cmpL a b = cmpL (a.drop (k + 1)) (b.drop (k + 1)) by rw [HS.out, if_neg (by omega), if_neg (by omega)])
          subst h0
          go_wp2_with fail
          go_quiet (fail)
          go_wp2_with fail
          go_roundw
          case rel => exact ⟨k + 1, _, by omega, by omega, by go_num, HR.out, rfl⟩
          case measure => simp [intOf]; omega
        · have HR := Lib.hid (show lessL a b = decide (x < y) by
            unfold lessL
            rw [HS.out]
            by_cases h1 : x < y
            · rw [if_pos h1]; simp [h1]
            · rw [if_neg h1, if_pos (by omega)]; simp [h1])
          go_wp2_with fail
          go_quiet (fail)
          go_wp2_with fail
          go_quiet (fail)
          go_wp2_with fail
          go_ret
          exact ⟨ret_bool HR.out.symm, _, by rw [World.drewN_drewN, World.drewN_drewN]⟩
      · have HR := Lib.hid (show lessL a b = decide (a.length < b.length) by
          unfold lessL
          rw [hI.out, show k = b.length by omega, List.drop_length, cmpL_nil_right (by simp; omega)]
          simp
          omega)
        have hng : ¬ (k : Int) < (b.length : Int) := by omega
        have hka' : (k : Int) < (a.length : Int) := by omega
        clear hx
        go_wp2_with fail
        go_ret
        exact ⟨ret_bool HR.out.symm, _, rfl⟩
    · have HR := Lib.hid (show lessL a b = decide (a.length < b.length) by
        unfold lessL
        rw [hI.out, show k = a.length by omega, List.drop_length, cmpL_nil_left]
        by_cases h : a.length < b.length
        · rw [if_pos (by simp; omega)]; simp [h]
        · rw [if_neg (by simp; omega)]; simp; omega)
      have hna : ¬ (k : Int) < (a.length : Int) := by omega
      go_wp2_with fail
      go_ret
      exact ⟨ret_bool HR.out.symm, _, rfl⟩
end Go.Proofs.YtnnfjjadehgmeaaGreatDoor

set_option linter.unusedVariables false
set_option linter.unusedSimpArgs false
namespace Go.Proofs.YtnnfjjadehgmeaaGreatDoor
open Go.RowKit

set_option maxHeartbeats 400000 in
theorem i_inRange (n lo hi : Int) (w : World) :
    Calls Tryz.prog 30 #[.int .i64 n, .int .i64 lo, .int .i64 hi] w fun e w' => e = .returned (.bool (inR n lo hi)) ∧ w = w' := by
  by_cases h1 : lo ≤ n
  · by_cases h2 : n ≤ hi
    · go_enter Tryz.func30, Tryz.ntmps30
      go_wp2
      go_ret
      exact ⟨ret_bool (by simp [inR, h1, h2]), rfl⟩
    · go_enter Tryz.func30, Tryz.ntmps30
      go_wp2
      go_ret
      exact ⟨ret_bool (by simp [inR, h1, h2]), rfl⟩
  · go_enter Tryz.func30, Tryz.ntmps30
    go_wp2
    go_ret
    exact ⟨ret_bool (by simp [inR]; omega), rfl⟩

set_option maxHeartbeats 400000 in
theorem s_l01In (n lo hi : Int) (w : World) :
    Calls Tryz.prog 40 #[.int .i64 n, .int .i64 lo, .int .i64 hi] w fun e w' => e = .returned (.bool (inR n lo hi)) ∧ w = w' := by
  by_cases h1 : lo ≤ n
  · by_cases h2 : n ≤ hi
    · go_enter Tryz.func40, Tryz.ntmps40
      go_wp2
      go_ret
      exact ⟨ret_bool (by simp [inR, h1, h2]), rfl⟩
    · go_enter Tryz.func40, Tryz.ntmps40
      go_wp2
      go_ret
      exact ⟨ret_bool (by simp [inR, h1, h2]), rfl⟩
  · go_enter Tryz.func40, Tryz.ntmps40
    go_wp2
    go_ret
    exact ⟨ret_bool (by simp [inR]; omega), rfl⟩

set_option maxHeartbeats 400000 in
theorem i_IsNumber (n : Int) (w : World) : Calls Tryz.prog 55 #[.int .i64 n] w fun e w' => e = .returned (.bool (isNum n)) ∧ w = w' := by
  go_enter Tryz.func55, Tryz.ntmps55
  go_wp2_with (go_at_call 30; refine (i_inRange _ _ _ _).mono ?_; rintro e w' ⟨rfl, rfl⟩)
  go_ret
  exact ⟨rfl, rfl⟩

end Go.Proofs.YtnnfjjadehgmeaaGreatDoor

set_option linter.unusedVariables false
set_option linter.unusedSimpArgs false
namespace Go.Proofs.YtnnfjjadehgmeaaGreatDoor
open Go.RowKit

set_option maxHeartbeats 400000 in
theorem lib_lengthI (w : World) (v : Value) (zs : List Int) (ha : Ints w v zs) : Calls Tryz.prog 56 #[v] w fun e w' => e = .returned (.int .i64 zs.length) ∧ w = w' := by
  obtain ⟨A, c, rfl, h1, h2, h3⟩ := ha.open_
  clear ha h3
  go_enter Tryz.func56, Tryz.ntmps56
  go_wp2
  go_ret
  exact ⟨rfl, rfl⟩

end Go.Proofs.YtnnfjjadehgmeaaGreatDoor

set_option maxRecDepth 100000
set_option linter.unusedVariables false
set_option linter.unusedSimpArgs false
namespace Go.Proofs.YtnnfjjadehgmeaaGreatDoor
open Go.RowKit

/-- a monomial: the factor and the powers -/
abbrev Mono := Int × List Int
/-- a monomial that can be read -/
def MonoArg (w : World) (v : Value) (m : Mono) : Prop := ∃ u, v = .agg #[.int .i64 m.1, u] ∧ In64 m.1 ∧ Ints w u m.2
theorem MonoArg.below {w w' : World} {v : Value} {m : Mono} (h : MonoArg w v m) (hb : Below w.heap.size w w') : MonoArg w' v m := by
  obtain ⟨u, rfl, h1, h2⟩ := h
  exact ⟨u, rfl, h1, h2.below hb⟩

def powOk (ps : List Int) : Bool := ps.all fun e => inR e 0 3
def degOk (ps : List Int) : Bool := powOk ps && decide (sumF id ps ≤ 3)
/-- is m a monomial of n variables? -/
def monoB (n : Int) (m : Mono) : Bool := degOk m.2 && (!decide (m.1 = 0) && (isNum m.1 && decide ((m.2.length : Int) = n)))
theorem powOk_take {ps : List Int} {j : Nat} (h : ∀ i y, i < j → ps[i]? = some y → inR y 0 3 = true) : ∀ x ∈ ps.take j, 0 ≤ x ∧ x ≤ 3 := by
  intro x hx
  obtain ⟨i, hi, rfl⟩ := List.getElem_of_mem hx
  have hl : i < j ∧ i < ps.length := by simp at hi; omega
  have := h i _ hl.1 (by rw [List.getElem?_eq_getElem hl.2])
  rw [List.getElem_take]
  exact inR_iff.1 this
theorem powOk_all {ps : List Int} (h : ∀ i y, i < ps.length → ps[i]? = some y → inR y 0 3 = true) : powOk ps = true := by
  unfold powOk
  rw [List.all_eq_true]
  intro x hx
  obtain ⟨i, hi, rfl⟩ := List.getElem_of_mem hx
  exact h i _ hi (List.getElem?_eq_getElem hi)
theorem powOk_no {ps : List Int} {j : Nat} {x : Int} (hx : ps[j]? = some x) (h : inR x 0 3 = false) : powOk ps = false := by
  unfold powOk
  rw [List.all_eq_false]
  exact ⟨x, List.mem_of_getElem? hx, by rw [h]; simp⟩

set_option maxHeartbeats 2000000 in
theorem i_isMonomial (w : World) (v : Value) (m : Mono) (n : Int) (ha : MonoArg w v m) (hn : m.2.length ≤ 4294967296) :
    Calls Tryz.prog 32 #[v, .int .i64 n] w fun e w' => e = .returned (.bool (monoB n m)) ∧ Below w.heap.size w w' := by
  obtain ⟨f, ps⟩ := m
  obtain ⟨u, rfl, hf64, hu⟩ := ha
  obtain ⟨A, c, rfl, l1, l2, h3⟩ := hu.open_
  have HU := Lib.hid hu
  simp only at hn l1 h3 HU ⊢
  have H3 := Lib.hid h3
  clear hu h3 hf64
  have B0 := Lib.hid (below1 w (.cells #[.int .i64 f, .slice A ps.length c] 44))
  have K0 := Lib.hid (Blk.new w #[.int .i64 f, .slice A ps.length c] 44)
  go_enter Tryz.func32, Tryz.ntmps32
  go_wp2_with fail
  generalize (w.alloc (.cells #[.int .i64 f, .slice A ps.length c] 44)) = w1 at B0 K0 ⊢
  go_loopw [5, 11] (fun s i wr => ∃ j : Nat, j ≤ ps.length ∧ i = .int .i64 j ∧ s = .int .i64 (sumF id (ps.take j)) ∧ wr = w1 ∧ Hid (∀ i y, i < j → ps[i]? = some y → inR y 0 3 = true)) (fun _ i _ => ps.length - (intOf i).toNat)
  case atStart => exact ⟨0, Nat.zero_le _, rfl, rfl, rfl, fun i y h => by omega⟩
  case round =>
    obtain ⟨j, hj, rfl, rfl, rfl, hI⟩ := hrel
    have hsb := sumF_bd id 3 (ps.take j) (fun x hx => powOk_take hI.out x hx)
    have hsl : ((ps.take j).length : Int) ≤ 4294967296 := by rw [List.length_take]; omega
    by_cases hlt : j < ps.length
    · obtain ⟨ad, x, rfl, hx, -, hc0⟩ := H3.out j hlt
      have hc : wr.cell? (ad.add j) = some (.int .i64 x) := by
        rw [B0.out.cell (by rw [block_add]; have := World.block_lt_of_cell? w _ hc0; rwa [block_add] at this)]; exact hc0
      have HX := Lib.hid hx
      have HS := Lib.hid (sumF_take id hx)
      clear hx hc0
      cases hr : inR x 0 3 with
      | false =>
        have HP := Lib.hid (powOk_no HX.out hr)
        go_wp2_with (go_at_call 30; refine (i_inRange _ _ _ _).mono ?_; rintro e w' ⟨rfl, rfl⟩; rw [hr])
        go_ret
        exact ⟨ret_bool (by simp [monoB, degOk, HP.out]), B0.out⟩
      | true =>
        have hxb := inR_iff.1 hr
        have HR := Lib.hid hr
        generalize sumF id (ps.take j) = s at hsb HS
        generalize (ps.take j).length = q at hsb hsl
        go_wp2_with (go_at_call 30; refine (i_inRange _ _ _ _).mono ?_; rintro e w' ⟨rfl, rfl⟩; rw [hr])
        go_roundw
        case rel =>
          refine ⟨j + 1, by omega, by go_num, by rw [HS.out]; rfl, trivial, fun i y hi hy => ?_⟩
          by_cases e : i = j
          · subst e
            rw [HX.out] at hy
            cases hy
            exact HR.out
          · exact hI.out i y (by omega) hy
        case measure => simp [intOf]; omega
    · have : j = ps.length := by omega
      subst this
      have HP := Lib.hid (powOk_all hI.out)
      rw [List.take_length]
      have k0 : wr.cell? ⟨w.heap.size, 0, none⟩ = some (.int .i64 f) := K0.out.cell 0
      have k1 : wr.cell? ⟨w.heap.size, 1, none⟩ = some (.slice A ps.length c) := K0.out.cell 1
      have HSM := Lib.hid (show degOk ps = decide (sumF id ps ≤ 3) by simp [degOk, HP.out])
      have HUW := Lib.hid (HU.out.below B0.out)
      clear hsb hsl
      generalize sumF id ps = s at HSM
      by_cases h0 : f = 0
      · subst h0
        go_wp2_with fail
        go_ret
        exact ⟨ret_bool (by simp [monoB]), B0.out⟩
      · cases hnum : isNum f with
        | false =>
          go_wp2_with (go_at_call 55; refine (i_IsNumber _ _).mono ?_; rintro e w' ⟨rfl, rfl⟩; rw [hnum])
          go_ret
          exact ⟨ret_bool (by simp [monoB, hnum]), B0.out⟩
        | true =>
          by_cases hl : (ps.length : Int) = n
          · subst hl
            by_cases hd : s ≤ 3
            · have HD := Lib.hid (show degOk ps = true by rw [HSM.out]; simpa using hd)
              have HM := Lib.hid (show monoB (ps.length : Int) (f, ps) = true by simp [monoB, HD.out, h0, hnum])
              go_wp2_with (first | (go_at_call 55; refine (i_IsNumber _ _).mono ?_; rintro e w' ⟨rfl, rfl⟩; rw [hnum]) | (go_at_call 56; refine (lib_lengthI _ _ _ HUW.out).mono ?_; rintro e w' ⟨rfl, rfl⟩))
              go_ret
              exact ⟨ret_bool HM.out.symm, B0.out⟩
            · have HD := Lib.hid (show degOk ps = false by rw [HSM.out]; simpa using hd)
              have HM := Lib.hid (show monoB (ps.length : Int) (f, ps) = false by simp [monoB, HD.out])
              go_wp2_with (first | (go_at_call 55; refine (i_IsNumber _ _).mono ?_; rintro e w' ⟨rfl, rfl⟩; rw [hnum]) | (go_at_call 56; refine (lib_lengthI _ _ _ HUW.out).mono ?_; rintro e w' ⟨rfl, rfl⟩))
              go_ret
              exact ⟨ret_bool (by rw [HM.out]; simpa using hd), B0.out⟩
          · have HM := Lib.hid (show monoB n (f, ps) = false by simp [monoB, hl])
            go_wp2_with (first | (go_at_call 55; refine (i_IsNumber _ _).mono ?_; rintro e w' ⟨rfl, rfl⟩; rw [hnum]) | (go_at_call 56; refine (lib_lengthI _ _ _ HUW.out).mono ?_; rintro e w' ⟨rfl, rfl⟩))
            go_ret
            exact ⟨ret_bool HM.out.symm, B0.out⟩

/-- the degree that the reference reckons -/
def degV (ps : List Int) : Int := if ps.all (fun e => inR e 0 100) then sumF id ps else 1000
theorem sumF_nonneg {ps : List Int} (h : ∀ x ∈ ps, 0 ≤ x) : 0 ≤ sumF id ps ∧ ∀ x ∈ ps, x ≤ sumF id ps := by
  induction ps with
  | nil => simp [sumF]
  | cons y r ih =>
    have h1 := ih (fun x hx => h x (List.mem_cons_of_mem _ hx))
    have h2 := h y List.mem_cons_self
    have e : sumF id (y :: r) = y + sumF id r := by simp [sumF]
    rw [e]
    refine ⟨by omega, fun x hx => ?_⟩
    rcases List.mem_cons.1 hx with rfl | hx
    · omega
    · have := h1.2 x hx; omega
theorem degV_ok (ps : List Int) : decide (degV ps ≤ 3) = degOk ps := by
  unfold degV degOk
  cases ha : ps.all (fun e => inR e 0 100) with
  | true =>
    rw [if_pos rfl]
    have h0 : ∀ x ∈ ps, 0 ≤ x := fun x hx => (inR_iff.1 (List.all_eq_true.1 ha x hx)).1
    have h1 := sumF_nonneg h0
    by_cases hs : sumF id ps ≤ 3
    · have hp : powOk ps = true := by
        unfold powOk
        rw [List.all_eq_true]
        intro x hx
        exact inR_iff.2 ⟨h0 x hx, by have := h1.2 x hx; omega⟩
      simp [hs, hp]
    · simp [hs]
  | false =>
    rw [if_neg (by simp)]
    have hp : powOk ps = false := by
      rw [List.all_eq_false] at ha
      obtain ⟨x, hx, hn⟩ := ha
      unfold powOk
      rw [List.all_eq_false]
      refine ⟨x, hx, ?_⟩
      simp only [Bool.not_eq_true] at hn ⊢
      have := inR_not.1 hn
      exact inR_not.2 (by omega)
    simp [hp]
theorem cent_no {ps : List Int} {j : Nat} {x : Int} (hx : ps[j]? = some x) (h : x < 0 ∨ 100 < x) : degV ps = 1000 := by
  unfold degV
  rw [if_neg]
  rw [Bool.not_eq_true, List.all_eq_false]
  exact ⟨x, List.mem_of_getElem? hx, by rw [Bool.not_eq_true]; exact inR_not.2 h⟩
theorem cent_all {ps : List Int} (h : ∀ i y, i < ps.length → ps[i]? = some y → 0 ≤ y ∧ y ≤ 100) : degV ps = sumF id ps := by
  unfold degV
  rw [if_pos]
  rw [List.all_eq_true]
  intro x hx
  obtain ⟨i, hi, rfl⟩ := List.getElem_of_mem hx
  exact inR_iff.2 (h i _ hi (List.getElem?_eq_getElem hi))

set_option maxHeartbeats 1000000 in
theorem s_l13Degree (w : World) (v : Value) (ps : List Int) (ha : Ints w v ps) (hn : ps.length ≤ 4294967296) :
    Calls Tryz.prog 41 #[v] w fun e w' => e = .returned (.int .i64 (degV ps)) ∧ w = w' := by
  obtain ⟨A, c, rfl, l1, l2, h3⟩ := ha.open_
  have H3 := Lib.hid h3
  clear ha h3
  go_enter Tryz.func41, Tryz.ntmps41
  go_wp2_with fail
  go_loop [3, 4] (fun s i => ∃ j : Nat, j ≤ ps.length ∧ i = .int .i64 j ∧ s = .int .i64 (sumF id (ps.take j)) ∧ Hid (∀ i y, i < j → ps[i]? = some y → 0 ≤ y ∧ y ≤ 100)) (fun _ i => ps.length - (intOf i).toNat)
  case atStart => exact ⟨0, Nat.zero_le _, rfl, rfl, fun i y h => by omega⟩
  case round =>
    obtain ⟨j, hj, rfl, rfl, hI⟩ := hrel
    have hsb := sumF_bd id 100 (ps.take j) (fun x hx => by
      obtain ⟨i, hi, rfl⟩ := List.getElem_of_mem hx
      have hl : i < j ∧ i < ps.length := by simp at hi; omega
      have := hI.out i _ hl.1 (List.getElem?_eq_getElem hl.2)
      rw [List.getElem_take]
      exact this)
    have hsl : ((ps.take j).length : Int) ≤ 4294967296 := by rw [List.length_take]; omega
    by_cases hlt : j < ps.length
    · obtain ⟨ad, x, rfl, hx, -, hc⟩ := H3.out j hlt
      have HX := Lib.hid hx
      have HS := Lib.hid (sumF_take id hx)
      have hji : (j : Int) < (ps.length : Int) := by omega
      clear hx
      by_cases h0 : x < 0
      · have HP := Lib.hid (cent_no HX.out (.inl h0))
        go_wp2_with fail
        go_ret
        exact ⟨ret_int HP.out.symm, rfl⟩
      · by_cases h1 : 100 < x
        · have HP := Lib.hid (cent_no HX.out (.inr h1))
          go_wp2_with fail
          go_ret
          exact ⟨ret_int HP.out.symm, rfl⟩
        · generalize sumF id (ps.take j) = s at hsb HS
          generalize (ps.take j).length = q at hsb hsl
          go_wp2_with fail
          go_round
          case rel =>
            refine ⟨j + 1, by omega, by go_num, by rw [HS.out]; rfl, fun i y hi hy => ?_⟩
            by_cases e : i = j
            · subst e
              rw [HX.out] at hy
              cases hy
              omega
            · exact hI.out i y (by omega) hy
          case measure => simp [intOf]; omega
    · have : j = ps.length := by omega
      subst this
      have HP := Lib.hid (cent_all hI.out)
      rw [List.take_length]
      go_wp2_with fail
      go_ret
      exact ⟨ret_int HP.out.symm, rfl⟩
end Go.Proofs.YtnnfjjadehgmeaaGreatDoor

