/- Walk of the reference: l01Dec. | Plain: the text of a number. No walk. | Arithmetic modulo 10007, plain. No program in sight. | The walks of the arithmetic of the program and of the reference: num, pow, inv and their like. | Walk of the reference: l01Text. | The walks of the small functions of the laws: copies, comparisons, marks. | Walks: comparing lists, of the library and of the reference. | Walks of tests: in a range, a number, all numbers. | The walk of the program's length at lists of numbers. -/
import Derived.Test.YtnnfjjadehgmeaaDoorFx1
import Derived.Laws.IdiomStrings
import Derived.Lib.ItoaNum
import Derived.Deep.RegionLaw
import Derived.Test.YtnnfjjadehgmeaaDoorRows
import Derived.WalkLawsBesides
import Derived.Deep.QuietTactic
import Derived.BigQuiet
import Derived.BigGuardPart
set_option maxRecDepth 100000
set_option linter.unusedVariables false
set_option linter.unusedSimpArgs false
namespace Go.Proofs.YtnnfjjadehgmeaaDoor
open Go.RowKit

theorem byteStrAt (d : Nat) (hd : d < 256) (W : World) (g : Nat) (hc : W.cell? ⟨g, 0, none⟩ = some (.int .u8 (d : Int))) : (convert 60 9 (.slice (some ⟨g, 0, none⟩) 1 1)).run Tryd.prog W = .ok (.string ⟨#[UInt8.ofNat d]⟩) W := by
  have h := run_convert_bytes_back (P := Tryd.prog) W 60 9 5 ⟨g, 0, none⟩ 1 [UInt8.ofNat d] (by kernel_rfl) (by kernel_rfl) (by kernel_rfl) (fun j hj => by
    have : j = 0 := by simpa using hj
    subst this
    rw [addr_add, hc]
    simp [Nat.mod_eq_of_lt hd])
  exact h
theorem byteStr (d : Nat) (hd : d < 256) (W : World) : (convert 60 9 (.slice (some ⟨W.heap.size, 0, none⟩) 1 1)).run Tryd.prog (W.alloc (.cells #[.int .u8 (d : Int)] 5)) = .ok (.string ⟨#[UInt8.ofNat d]⟩) (W.alloc (.cells #[.int .u8 (d : Int)] 5)) :=
  byteStrAt d hd _ _ (by rw [(Blk.new W _ _).cell]; rfl)
abbrev strB (l : List UInt8) : Value := .string ⟨l.toArray⟩
theorem strB_snoc (l : List UInt8) (b : UInt8) : Value.string ((⟨l.toArray⟩ : ByteArray) ++ ⟨#[b]⟩) = strB (l ++ [b]) := by
  unfold strB
  congr 1
theorem decDigits_len : ∀ (n : Nat), (Lib.decDigits n).length ≤ n + 1 := by
  intro n
  induction n using Nat.strongRecOn with
  | ind n ih =>
    rw [Lib.decDigits]
    split
    · simp
    · have := ih (n / 10) (by omega)
      simp
      omega
set_option maxHeartbeats 2000000 in
theorem s_l01Dec_small (n : Nat) (w : World) (hn : n < 10) :
    Calls Tryd.prog 21 #[.int .i64 (n : Nat)] w fun e w' => e = .returned (strB (Lib.decDigits n)) ∧ Below w.heap.size w w' := by
  have h1 : (n : Int) < 10 := by omega
  have hc := byteStr (48 + n) (by omega)
  push_cast at hc
  have hdd : Lib.decDigits n = [UInt8.ofNat (48 + n)] := by rw [Lib.decDigits, dif_pos hn]
  go_enter Tryd.func21, Tryd.ntmps21
  go_wp2_with fail
  go_ret
  refine ⟨?_, below1 _ _⟩
  rw [hdd]
  simp [strB]
set_option maxHeartbeats 2000000 in
theorem s_l01Dec : ∀ (k n : Nat) (w : World), n < 10 ^ (k + 1) → n ≤ 1000000 →
    Calls Tryd.prog 21 #[.int .i64 (n : Nat)] w fun e w' => e = .returned (strB (Lib.decDigits n)) ∧ Below w.heap.size w w'
  | 0, n, w, h, _ => s_l01Dec_small n w (by simpa using h)
  | k + 1, n, w, h, h6 => by
    by_cases hn : n < 10
    · exact s_l01Dec_small n w hn
    · have h1 : ¬ ((n : Int) < 10) := by omega
      have ih := fun W => s_l01Dec k (n / 10) W (by rw [Nat.pow_succ] at h; omega) (by omega)
      have IH := Lib.hid (show ∀ (W : World) (x : Int), x = ((n / 10 : Nat) : Int) → Calls Tryd.prog 21 #[.int .i64 x] W fun e w' => e = .returned (strB (Lib.decDigits (n / 10))) ∧ Below W.heap.size W w' from fun W x hx => by rw [hx]; exact ih W)
      clear ih
      have hw0 : IntKind.i64.wrap ((n : Int) / 10) = ((n / 10 : Nat) : Int) := by rw [IntWalk.i64_in _ (by omega)]; omega
      have HW0 := Lib.hid hw0
      have hnl : ¬ (9223372036854775807 < (Lib.decDigits (n / 10)).length + 1) := by have := decDigits_len (n / 10); omega
      clear hw0
      have hdd : Lib.decDigits n = Lib.decDigits (n / 10) ++ [UInt8.ofNat (48 + n % 10)] := by rw [Lib.decDigits, dif_neg hn]
      have e0 : (n : Int).tmod 10 = ((n % 10 : Nat) : Int) := by rw [Int.tmod_eq_emod_of_nonneg (by omega)]; omega
      have e1 : IntKind.u8.wrap (IntKind.i64.wrap (48 + (n : Int).tmod 10)) = ((48 + n % 10 : Nat) : Int) := by
        rw [e0, IntWalk.i64_in _ (by omega), IntWalk.u8_in _ (by omega)]; omega
      have hc : ∀ W : World, (convert 60 9 (.slice (some ⟨W.heap.size, 0, none⟩) 1 1)).run Tryd.prog (W.alloc (.cells #[.int .u8 (IntKind.u8.wrap (IntKind.i64.wrap (48 + (n : Int).tmod 10)))] 5)) = .ok (.string ⟨#[UInt8.ofNat (48 + n % 10)]⟩) (W.alloc (.cells #[.int .u8 (IntKind.u8.wrap (IntKind.i64.wrap (48 + (n : Int).tmod 10)))] 5)) := fun W => by rw [e1]; exact byteStr (48 + n % 10) (by omega) W
      have HCA := Lib.hid (fun W g (h : World.cell? W ⟨g, 0, none⟩ = some (.int .u8 (IntKind.u8.wrap (IntKind.i64.wrap (48 + (n : Int).tmod 10))))) => byteStrAt (48 + n % 10) (by omega) W g (by rw [h, e1]))
      have hcd : ∀ W : World, (convert 60 9 (.slice (some ⟨W.heap.size, 0, none⟩) 1 1)).run Tryd.prog (W.alloc (.cells #[.int .u8 (IntKind.u8.wrap (IntKind.i64.wrap (48 + (n : Int).tmod 10)))] 5)).drew = .ok (.string ⟨#[UInt8.ofNat (48 + n % 10)]⟩) (W.alloc (.cells #[.int .u8 (IntKind.u8.wrap (IntKind.i64.wrap (48 + (n : Int).tmod 10)))] 5)).drew := fun W => HCA.out _ W.heap.size ((Blk.new W _ _).cell 0)
      clear e0 e1
      go_enter Tryd.func21, Tryd.ntmps21
      go_wp2_with fail
      go_region_law ((go_simp; go_at_call 21; refine (IH.out _ _ (by exact HW0.out)).mono ?_; rintro e w5 ⟨rfl, hb5⟩; (first | (have hc5 := HCA.out w5 w.heap.size (by rw [hb5.cell (by simp)]; exact (Blk.new w _ _).cell 0)) | skip)))
      all_goals
        go_wp2_with fail
        go_ret
        refine ⟨?_, ?_⟩
        · rw [hdd, ← strB_snoc]
          have e8 : UInt8.ofNat (48 + n % 10) = 48 + UInt8.ofNat (n % 10) := by simp
          rw [e8]
          rfl
        · first
          | exact (below_of_drew hb5).trans ((below1 w5 _).mono (below_of_drew hb5).size)
          | exact (below1 w _).trans ((below_of_drew hb5).mono (by simp))
end Go.Proofs.YtnnfjjadehgmeaaDoor

set_option maxRecDepth 100000
set_option linter.unusedVariables false
set_option linter.unusedSimpArgs false
namespace Go.Proofs.YtnnfjjadehgmeaaDoor
open Go.RowKit

/-- the residue of least size -/
def cenP (a q : Int) : Int := if 5003 < (a * q) % 10007 then (a * q) % 10007 - 10007 else (a * q) % 10007
theorem cen_iff {a q p : Int} (h1 : -70 ≤ p) (h2 : p ≤ 70) : (p - a * q) % 10007 = 0 ↔ p = cenP a q := by
  unfold cenP
  generalize a * q = x
  split <;> omega
/-- does q serve? -/
def okQ (a q : Int) : Bool := decide (-70 ≤ cenP a q) && decide (cenP a q ≤ 70) && decide (Int.gcd (cenP a q) q = 1)
theorem okQ_ref {a q p : Int} (h1 : -70 ≤ p) (h2 : p ≤ 70) : ((p - a * q) % 10007 = 0 ∧ Int.gcd p q = 1) ↔ (p = cenP a q ∧ okQ a q = true) := by
  rw [cen_iff h1 h2]
  constructor
  · rintro ⟨rfl, h⟩
    exact ⟨rfl, by unfold okQ; rw [decide_eq_true h1, decide_eq_true h2, decide_eq_true h]; rfl⟩
  · rintro ⟨rfl, h⟩
    unfold okQ at h
    simp only [Bool.and_eq_true, decide_eq_true_eq] at h
    exact ⟨rfl, h.2⟩
def txPQ (p : Int) (q : Nat) : List UInt8 := if q = 1 then Lib.itoa p else Lib.itoa p ++ (47 :: Lib.decDigits q)
/-- the text, from q on, with k tries left -/
def numTxF (a : Int) : Nat → Nat → List UInt8
  | 0, _ => Lib.itoa a
  | k + 1, q => if okQ a q then txPQ (cenP a q) q else numTxF a k (q + 1)
def numTx (a : Int) : List UInt8 := numTxF a 70 1
theorem numTxF_yes {a : Int} {k q : Nat} (h : okQ a q = true) : numTxF a (k + 1) q = txPQ (cenP a q) q := by rw [numTxF, if_pos h]
theorem numTxF_no {a : Int} {k q : Nat} (h : okQ a q = false) : numTxF a (k + 1) q = numTxF a k (q + 1) := by rw [numTxF, if_neg (by rw [h]; decide)]
end Go.Proofs.YtnnfjjadehgmeaaDoor

set_option linter.unusedVariables false
set_option linter.unusedSimpArgs false
namespace Go.Proofs.YtnnfjjadehgmeaaDoor

theorem tmod_num (n : Int) : (n.tmod 10007 + 10007) % 10007 = n % 10007 := by
  rw [Int.tmod_eq_emod (a := n)]
  split <;> omega

/-- lo ≤ n ≤ hi, as a test -/
def inR (n lo hi : Int) : Bool := decide (lo ≤ n) && decide (n ≤ hi)
theorem inR_iff {n lo hi : Int} : inR n lo hi = true ↔ lo ≤ n ∧ n ≤ hi := by simp [inR]
theorem inR_not {n lo hi : Int} : inR n lo hi = false ↔ n < lo ∨ hi < n := by
  rw [← Bool.not_eq_true, inR_iff]; omega
def isNum (z : Int) : Bool := inR z 0 10006
/-- the sum of a function over a list -/
def sumF {α : Type} (f : α → Int) : List α → Int
  | [] => 0
  | x :: xs => f x + sumF f xs
theorem sumF_snoc {α : Type} (f : α → Int) (l : List α) (x : α) : sumF f (l ++ [x]) = sumF f l + f x := by
  induction l with
  | nil => simp [sumF]
  | cons y l ih => simp only [List.cons_append, sumF, ih]; omega
theorem sumF_take {α : Type} (f : α → Int) {l : List α} {k : Nat} {x : α} (h : l[k]? = some x) : sumF f (l.take (k + 1)) = sumF f (l.take k) + f x := by
  rw [List.take_add_one, h]
  exact sumF_snoc f _ x
theorem sumF_bd {α : Type} (f : α → Int) (M : Int) (l : List α) (h : ∀ x ∈ l, 0 ≤ f x ∧ f x ≤ M) : 0 ≤ sumF f l ∧ sumF f l ≤ l.length * M := by
  induction l with
  | nil => simp [sumF]
  | cons y l ih =>
    have h1 := h y (by simp)
    have h2 := ih fun x hx => h x (by simp [hx])
    simp only [sumF, List.length_cons]
    rw [show ((l.length + 1 : Nat) : Int) * M = l.length * M + M by rw [Int.natCast_add, Int.add_mul]; simp]
    omega
end Go.Proofs.YtnnfjjadehgmeaaDoor

set_option linter.unusedVariables false
set_option linter.unusedSimpArgs false
namespace Go.Proofs.YtnnfjjadehgmeaaDoor
open Go.RowKit

set_option maxHeartbeats 400000 in
theorem i_num (n : Int) (w : World) (h0 : -4000000000000000000 ≤ n) (h1 : n ≤ 4000000000000000000) :
    Calls Tryd.prog 37 #[.int .i64 n] w fun e w' => e = .returned (.int .i64 (n % 10007)) ∧ w = w' := by
  have h2 : -10007 < n.tmod 10007 := by rw [Int.tmod_eq_emod]; split <;> omega
  have h3 : n.tmod 10007 < 10007 := by rw [Int.tmod_eq_emod]; split <;> omega
  have HT := Lib.hid (tmod_num n)
  go_enter Tryd.func37, Tryd.ntmps37
  go_wp2
  go_ret
  exact ⟨ret_int HT.out, rfl⟩

set_option maxHeartbeats 400000 in
theorem s_l01Mod (n : Int) (w : World) (h0 : -4000000000000000000 ≤ n) (h1 : n ≤ 4000000000000000000) :
    Calls Tryd.prog 31 #[.int .i64 n] w fun e w' => e = .returned (.int .i64 (n % 10007)) ∧ w = w' := by
  have h2 : -10007 < n.tmod 10007 := by rw [Int.tmod_eq_emod]; split <;> omega
  have h3 : n.tmod 10007 < 10007 := by rw [Int.tmod_eq_emod]; split <;> omega
  have HT := Lib.hid (tmod_num n)
  go_enter Tryd.func31, Tryd.ntmps31
  go_wp2
  go_ret
  exact ⟨ret_int HT.out, rfl⟩

end Go.Proofs.YtnnfjjadehgmeaaDoor

set_option maxRecDepth 100000
set_option linter.unusedVariables false
set_option linter.unusedSimpArgs false
namespace Go.Proofs.YtnnfjjadehgmeaaDoor
open Go.RowKit

theorem str_cat (a b : List UInt8) : (⟨a.toArray⟩ : ByteArray) ++ ⟨b.toArray⟩ = ⟨(a ++ b).toArray⟩ := by
  apply ByteArray.ext
  simp
theorem str_cat1 (c : UInt8) (b : List UInt8) : (⟨#[c]⟩ : ByteArray) ++ ⟨b.toArray⟩ = ⟨(c :: b).toArray⟩ := str_cat [c] b
theorem str_cat2 (c : UInt8) (a : List UInt8) : (⟨a.toArray⟩ : ByteArray) ++ ⟨#[c]⟩ = ⟨(a ++ [c]).toArray⟩ := str_cat a [c]
theorem itoa_neg {p : Int} (h : p < 0) : Lib.itoa p = 45 :: Lib.decDigits (-p).toNat := by
  unfold Lib.itoa
  rw [if_pos h, show p.natAbs = (-p).toNat by omega]
theorem itoa_nn {p : Int} (h : ¬ p < 0) : Lib.itoa p = Lib.decDigits p.toNat := by
  unfold Lib.itoa
  rw [if_neg h]
set_option maxHeartbeats 4000000 in
theorem s_l01Text (a : Int) (w : World) (ha : 0 ≤ a) (ha' : a ≤ 10006) :
    Calls Tryd.prog 20 #[.int .i64 a] w fun e w' => e = .returned (strB (numTx a)) ∧ Below w.heap.size w w' := by
  go_enter Tryd.func20, Tryd.ntmps20
  go_wp2_with fail
  go_loopw [3] (fun y wr => ∃ q : Nat, 1 ≤ q ∧ q ≤ 71 ∧ y = .int .i64 q ∧ Hid (numTx a = numTxF a (71 - q) q) ∧ Below w.heap.size w wr) (fun y _ => 71 - (intOf y).toNat)
  case atStart => exact ⟨1, by omega, by omega, rfl, Lib.hid rfl, Below.refl _ _⟩
  case round =>
    obtain ⟨q, h1, h2, rfl, HN, hb⟩ := hrel
    by_cases hq : q ≤ 70
    · have hqi : (q : Int) ≤ 70 := by omega
      have HB := Lib.hid hb
      clear hb
      go_wp2_with fail
      go_loopw [4] (fun z wx => ∃ p : Int, z = .int .i64 p ∧ -70 ≤ p ∧ p ≤ 71 ∧ Hid (∀ p', -70 ≤ p' → p' < p → ¬ (p' = cenP a q ∧ okQ a q = true)) ∧ Below w.heap.size w wx) (fun z _ => (71 - intOf z).toNat)
      case atStart => exact ⟨-70, rfl, by omega, by omega, Lib.hid (fun p' a b => by omega), HB.out⟩
      case round =>
        obtain ⟨p, rfl, p1, p2, HNO, hbx⟩ := hrel
        have HBX := Lib.hid hbx
        clear hbx
        by_cases hp : p ≤ 70
        · have hmul : 0 ≤ a * (q : Int) ∧ a * (q : Int) ≤ 1000000 := ⟨Int.mul_nonneg ha (by omega), by
            have h3 : a * (q : Int) ≤ 10006 * 70 := Int.mul_le_mul ha' hqi (by omega) (by omega)
            omega⟩
          have HMD := Lib.hid (fun W => s_l01Mod (p - a * (q : Int)) W (by omega) (by omega))
          have HCM := Lib.hid (fun W => s_l01Common p (q : Int) W (by omega) (by omega) (by omega) (by omega))
          obtain ⟨c, hc⟩ : ∃ c, c = (p - a * (q : Int)) % 10007 := ⟨_, rfl⟩
          obtain ⟨g, hg⟩ : ∃ g, g = Int.gcd p (q : Int) := ⟨_, rfl⟩
          rw [← hc] at HMD
          rw [← hg] at HCM
          have HCC := Lib.hid hc
          have HGG := Lib.hid hg
          have hgp : 1 ≤ g := by rw [hg]; exact Int.gcd_pos_of_ne_zero_right _ (by omega)
          clear hc hg
          by_cases hc0 : c = 0
          · by_cases hg1 : g = 1
            · have hok := (okQ_ref (a := a) (q := (q : Int)) p1 hp).1 ⟨by rw [← HCC.out]; exact hc0, by rw [← HGG.out]; exact hg1⟩
              have HTX := Lib.hid (show numTx a = txPQ p q by rw [HN.out, show 71 - q = (70 - q) + 1 by omega, numTxF_yes hok.2, ← hok.1])
              clear hok
              have hcb : (c != 0) = false := by simpa using hc0
              have hgi : ¬ ((1 : Int) < (g : Int)) := by omega
              have HD := Lib.hid (show ∀ (W : World) (x : Int), 0 ≤ x → x ≤ 1000000 → Calls Tryd.prog 21 #[.int .i64 x] W fun e w' => e = .returned (strB (Lib.decDigits x.toNat)) ∧ Below W.heap.size W w' from fun W x x0 x1 => by
                have h := s_l01Dec 6 x.toNat W (by omega) (by omega)
                rwa [show ((x.toNat : Nat) : Int) = x by omega] at h)
              have hLq := decDigits_len q
              by_cases hneg : p < 0
              · have hLp := decDigits_len (-p).toNat
                have hl1 : ¬ (9223372036854775807 < 1 + (Lib.decDigits (-p).toNat).length) := by omega
                have hl2 : ¬ (9223372036854775807 < 1 + (Lib.decDigits (-p).toNat).length + 1) := by omega
                have hl3 : ¬ (9223372036854775807 < 1 + (Lib.decDigits (-p).toNat).length + 1 + (Lib.decDigits q).length) := by omega
                clear hLp hLq
                by_cases hq1 : q = 1
                · have hq1i : ¬ ((1 : Int) < (q : Int)) := by omega
                  have HQ1 := Lib.hid hq1
                  clear hq1
                  go_wp2_with (first
                    | (go_at_call 31; refine (HMD.out _).mono ?_; rintro e w2 ⟨rfl, rfl⟩)
                    | (go_at_call 32; refine (HCM.out _).mono ?_; rintro e w3 ⟨rfl, rfl⟩)
                    | (go_at_call 21; refine (HD.out _ _ (by omega) (by omega)).mono ?_; rintro e w4 ⟨rfl, hb4⟩))
                  go_ret
                  refine ⟨?_, HBX.out.trans (hb4.mono HBX.out.size)⟩
                  rw [HTX.out, HQ1.out, str_cat1]
                  unfold txPQ
                  rw [if_pos rfl, itoa_neg hneg]
                  rfl
                · have hq1i : (1 : Int) < (q : Int) := by omega
                  have HQ1 := Lib.hid hq1
                  clear hq1
                  go_wp2_with (first
                    | (go_at_call 31; refine (HMD.out _).mono ?_; rintro e w2 ⟨rfl, rfl⟩)
                    | (go_at_call 32; refine (HCM.out _).mono ?_; rintro e w3 ⟨rfl, rfl⟩)
                    | (go_at_call 21; refine (HD.out _ _ (by omega) (by omega)).mono ?_; rintro e w4 ⟨rfl, hb4⟩))
                  go_ret
                  have hx4 : ∃ wz, Below wr.heap.size wr wz ∧ Below wz.heap.size wz w4 := ⟨_, by assumption, hb4⟩
                  obtain ⟨wz, hz1, hz2⟩ := hx4
                  have hz3 := HBX.out.trans (hz1.mono HBX.out.size)
                  refine ⟨?_, hz3.trans (hz2.mono hz3.size)⟩
                  rw [HTX.out, str_cat1, str_cat2, str_cat]
                  unfold txPQ
                  rw [if_neg HQ1.out, itoa_neg hneg]
                  simp [strB]
              · have hLp := decDigits_len p.toNat
                have hl2 : ¬ (9223372036854775807 < (Lib.decDigits p.toNat).length + 1) := by omega
                have hl3 : ¬ (9223372036854775807 < (Lib.decDigits p.toNat).length + 1 + (Lib.decDigits q).length) := by omega
                clear hLp hLq
                by_cases hq1 : q = 1
                · have hT : numTx a = Lib.decDigits p.toNat := by rw [HTX.out]; unfold txPQ Lib.itoa; rw [if_pos hq1, if_neg (by omega)]
                  have hq1i : ¬ ((1 : Int) < (q : Int)) := by omega
                  clear hq1
                  have HT := Lib.hid hT
                  clear hT
                  go_wp2_with (first
                    | (go_at_call 31; refine (HMD.out _).mono ?_; rintro e w2 ⟨rfl, rfl⟩)
                    | (go_at_call 32; refine (HCM.out _).mono ?_; rintro e w3 ⟨rfl, rfl⟩)
                    | (go_at_call 21; refine (HD.out _ _ (by omega) (by omega)).mono ?_; rintro e w4 ⟨rfl, hb4⟩))
                  go_ret
                  exact ⟨by rw [HT.out]; rfl, HBX.out.trans (hb4.mono HBX.out.size)⟩
                · have hq1i : (1 : Int) < (q : Int) := by omega
                  have HQ1 := Lib.hid hq1
                  clear hq1
                  go_wp2_with (first
                    | (go_at_call 31; refine (HMD.out _).mono ?_; rintro e w2 ⟨rfl, rfl⟩)
                    | (go_at_call 32; refine (HCM.out _).mono ?_; rintro e w3 ⟨rfl, rfl⟩)
                    | (go_at_call 21; refine (HD.out _ _ (by omega) (by omega)).mono ?_; rintro e w4 ⟨rfl, hb4⟩))
                  go_ret
                  have hx4 : ∃ wz, Below wr.heap.size wr wz ∧ Below wz.heap.size wz w4 := ⟨_, by assumption, hb4⟩
                  obtain ⟨wz, hz1, hz2⟩ := hx4
                  have hz3 := HBX.out.trans (hz1.mono HBX.out.size)
                  refine ⟨?_, hz3.trans (hz2.mono hz3.size)⟩
                  rw [HTX.out, str_cat2, str_cat]
                  unfold txPQ
                  rw [if_neg HQ1.out, itoa_nn (by omega)]
                  simp [strB]
            · have hn : ∀ p', -70 ≤ p' → p' < p + 1 → ¬ (p' = cenP a q ∧ okQ a q = true) := fun p' a1 a2 h => by
                by_cases he : p' = p
                · subst he
                  exact hg1 (by rw [HGG.out]; exact ((okQ_ref p1 hp).2 h).2)
                · exact HNO.out p' a1 (by omega) h
              have HN2 := Lib.hid hn
              have hcb : (c != 0) = false := by simpa using hc0
              have hgi : (1 : Int) < (g : Int) := by omega
              clear hn
              go_wp2_with (first
                | (go_at_call 31; refine (HMD.out _).mono ?_; rintro e w2 ⟨rfl, rfl⟩)
                | (go_at_call 32; refine (HCM.out _).mono ?_; rintro e w3 ⟨rfl, rfl⟩))
              go_roundw
              case rel => exact ⟨p + 1, rfl, by omega, by omega, HN2, HBX.out⟩
              case measure => simp [intOf]; omega
          · have hn : ∀ p', -70 ≤ p' → p' < p + 1 → ¬ (p' = cenP a q ∧ okQ a q = true) := fun p' a1 a2 h => by
              by_cases he : p' = p
              · subst he
                exact hc0 (by rw [HCC.out]; exact ((okQ_ref p1 hp).2 h).1)
              · exact HNO.out p' a1 (by omega) h
            have HN2 := Lib.hid hn
            have hcb : (c != 0) = true := by simpa using hc0
            clear hn
            go_wp2_with (first
              | (go_at_call 31; refine (HMD.out _).mono ?_; rintro e w2 ⟨rfl, rfl⟩)
              | (go_at_call 32; refine (HCM.out _).mono ?_; rintro e w3 ⟨rfl, rfl⟩))
            go_roundw
            case rel => exact ⟨p + 1, rfl, by omega, by omega, HN2, HBX.out⟩
            case measure => simp [intOf]; omega
        · have hp71 : p = 71 := by omega
          subst hp71
          have hno : okQ a q = false := by
            cases hk : okQ a q with
            | false => rfl
            | true =>
              have hk' := hk
              unfold okQ at hk'
              simp only [Bool.and_eq_true, decide_eq_true_eq] at hk'
              exact absurd ⟨rfl, hk⟩ (HNO.out (cenP a q) hk'.1.1 (by omega))
          have HNX := Lib.hid (show numTx a = numTxF a (71 - (q + 1)) (q + 1) by
            rw [HN.out, show 71 - q = (71 - (q + 1)) + 1 by omega, numTxF_no hno])
          clear hno
          go_wp2_with fail
          go_roundw
          case rel => exact ⟨q + 1, by omega, by omega, by go_num, HNX, HBX.out⟩
          case measure => simp [intOf]; omega
    · have hqe : q = 71 := by omega
      subst hqe
      have hfin : numTx a = Lib.decDigits a.toNat := by
        rw [HN.out]
        show Lib.itoa a = _
        unfold Lib.itoa
        rw [if_neg (by omega)]
      have HFI := Lib.hid hfin
      have e : a = ((a.toNat : Nat) : Int) := by omega
      have HD := Lib.hid (fun W => s_l01Dec 6 a.toNat W (by omega) (by omega))
      rw [← e] at HD
      clear hfin e
      go_wp2_with (go_at_call 21; refine (HD.out _).mono ?_; rintro e w2 ⟨rfl, hb2⟩)
      go_ret
      exact ⟨by rw [HFI.out]; rfl, hb.trans (hb2.mono hb.size)⟩
end Go.Proofs.YtnnfjjadehgmeaaDoor

set_option linter.unusedVariables false
set_option linter.unusedSimpArgs false
namespace Go.Proofs.YtnnfjjadehgmeaaDoor
open Go.RowKit

theorem T_int : ElemT Tryd.prog 43 2 (.int .i64 0) 8 := ⟨Tryd.underlying43, by kernel_rfl, rfl, by omega⟩

theorem take_eq_succ {xs ys : List Int} {k : Nat} {x y : Int} (h : xs.take k = ys.take k) (hx : xs[k]? = some x) (hy : ys[k]? = some y) (e : x = y) : xs.take (k + 1) = ys.take (k + 1) := by
  rw [List.take_add_one, List.take_add_one, h, hx, hy, e]

set_option maxHeartbeats 400000 in
theorem l_eqInt64S (w : World) (a b : Value) (xs ys : List Int) (ha : Ints w a xs) (hb : Ints w b ys) :
    Calls Tryd.prog 50 #[a, b] w fun e w' => e = .returned (.bool (decide (xs = ys))) ∧ ∃ n, w' = w.drewN n := by
  obtain ⟨A, c, rfl, h1, h2, h3⟩ := ha.open_
  obtain ⟨B, d, rfl, g1, g2, g3⟩ := hb.open_
  clear ha hb
  have H3 := Lib.hid h3
  have G3 := Lib.hid g3
  clear h3 g3
  by_cases hl : xs.length = ys.length
  · have hl' : (((xs.length : Nat) : Int) != ((ys.length : Nat) : Int)) = false := by simp [hl]
    have HL := Lib.hid hl
    clear hl
    have g4 : ys.length ≤ xs.length := by rw [HL.out]; omega
    have g5 : xs.length ≤ ys.length := by rw [HL.out]; omega
    go_enter Tryd.func50, Tryd.ntmps50
    go_wp2
    go_loopw [5] (fun i wr => ∃ k n : Nat, k ≤ xs.length ∧ i = .int .i64 k ∧ xs.take k = ys.take k ∧ wr = w.drewN n) (fun i _ => xs.length - (intOf i).toNat)
    case atStart => exact ⟨0, 0, Nat.zero_le _, rfl, rfl, rfl⟩
    case round =>
      obtain ⟨k, n, hk, rfl, ht, rfl⟩ := hrel
      have HT := Lib.hid ht
      clear ht
      by_cases hlt : k < xs.length
      · obtain ⟨ad, z, rfl, hz, hz2, hc⟩ := H3.out k hlt
        obtain ⟨ad', y, rfl, hy, hy2, hc'⟩ := G3.out k (by omega)
        have HZ := Lib.hid hz
        have HY := Lib.hid hy
        clear hz hy hz2 hy2
        go_wp2
        go_quiet (fail)
        go_wp2
        · have hne : (z != y) = true := by assumption
          go_ret
          refine ⟨ret_bool ?_, _, World.drewN_drewN _ _ _⟩
          symm
          simp only [decide_eq_false_iff_not]
          rintro rfl
          have := HZ.out.symm.trans HY.out
          simp at this hne
          exact hne this
        · have hne : (z != y) = false := by assumption
          go_roundw
          case rel => exact ⟨k + 1, _, by omega, by go_num, take_eq_succ HT.out HZ.out HY.out (by simpa using hne), rfl⟩
          case measure => simp [intOf]; omega
      · have : k = xs.length := by omega
        subst this
        go_wp2
        go_ret
        refine ⟨ret_bool ?_, _, rfl⟩
        have e := HT.out
        rw [List.take_length, List.take_of_length_le (by omega)] at e
        simp [e]
  · have hl' : (((xs.length : Nat) : Int) != ((ys.length : Nat) : Int)) = true := by simp; omega
    have HL := Lib.hid hl
    clear hl
    go_enter Tryd.func50, Tryd.ntmps50
    go_wp2
    go_ret
    refine ⟨ret_bool ?_, 0, rfl⟩
    have := HL.out
    symm
    simp only [decide_eq_false_iff_not]
    rintro rfl
    exact this rfl

theorem set_fill {xs : List Int} {k : Nat} {z : Int} (hk : k < xs.length) (hz : xs[k]? = some z) :
    (ints (xs.take k) ++ List.replicate (xs.length - k) (Value.int .i64 0)).set k (Value.int .i64 z) = ints (xs.take (k + 1)) ++ List.replicate (xs.length - (k + 1)) (Value.int .i64 0) := by
  apply List.ext_getElem?
  intro j
  rw [List.getElem?_set]
  by_cases h1 : k = j
  · subst h1
    rw [if_pos rfl, if_pos (by simp [ints]; omega), List.getElem?_append_left (by simp [ints]; omega)]
    simp [ints, hz]
  · rw [if_neg h1]
    rcases Nat.lt_or_ge j k with h2 | h2
    · rw [List.getElem?_append_left (by simp [ints]; omega), List.getElem?_append_left (by simp [ints]; omega)]
      simp [ints, List.getElem?_take, h2, show j < k + 1 by omega]
    · rw [List.getElem?_append_right (by simp [ints]; omega), List.getElem?_append_right (by simp [ints]; omega)]
      simp only [List.getElem?_replicate, ints_len, List.length_take]
      by_cases h3 : j < xs.length
      · rw [if_pos (by omega), if_pos (by omega)]
      · rw [if_neg (by omega), if_neg (by omega)]

set_option maxHeartbeats 400000 in
theorem l_toInt64S (w : World) (a : Value) (xs : List Int) (ha : Ints w a xs) (hn : xs.length ≤ 4294967296) :
    Calls Tryd.prog 45 #[a] w fun e w' => ∃ v, e = .returned v ∧ OwnInts w' w.heap.size 2 v xs ∧ Below w.heap.size w w' := by
  obtain ⟨A, c, rfl, h1, h2, h3⟩ := ha.open_
  have HA := Lib.hid ha
  have H3 := Lib.hid h3
  clear h3 ha
  have hmk := run_make T_int xs.length (by omega)
  go_enter Tryd.func45, Tryd.ntmps45
  go_wp2
  clear hmk
  go_loopw [4] (fun i wr => ∃ k : Nat, k ≤ xs.length ∧ i = .int .i64 k ∧ Own wr w.heap.size 2 (.slice (some ⟨w.heap.size, 0, none⟩) xs.length xs.length) (ints (xs.take k) ++ List.replicate (xs.length - k) (.int .i64 0)) ∧ Below w.heap.size w wr) (fun i _ => xs.length - (intOf i).toNat)
  case atStart =>
    refine ⟨0, Nat.zero_le _, rfl, ?_, (Below.refl _ _).alloc (Nat.le_refl _) _⟩
    simpa [ints] using own_made w 2 (.int .i64 0) xs.length (by simp only [maxLen]; omega)
  case round =>
    obtain ⟨k, hk, rfl, hown, hb⟩ := hrel
    by_cases hlt : k < xs.length
    · obtain ⟨ad, z, rfl, hz, hz2, hc0⟩ := H3.out k hlt
      have hc : wr.cell? (ad.add k) = some (.int .i64 z) := by
        rw [hb.cell (by rw [block_add]; have := World.block_lt_of_cell? w _ hc0; rwa [block_add] at this)]; exact hc0
      obtain ⟨u0, hu0, hcg, hfg, hg2, hg1, hown', hgr⟩ := hown.storeAt (k := k) (by simp [ints]; omega) (.int .i64 z)
      rw [set_fill hlt hz] at hown'
      have HO := Lib.hid hown'
      have HB := Lib.hid hb
      clear hown hown' hb hz hz2 hc0 hu0 hgr hg1
      go_wp2
      go_roundw
      case rel => exact ⟨k + 1, by omega, by go_num, HO.out, HB.out.setCell (Nat.le_refl _) _⟩
      case measure => simp [intOf]; omega
    · have : k = xs.length := by omega
      subst this
      have HO := Lib.hid hown
      have HB := Lib.hid hb
      clear hown hb
      go_wp2
      go_ret
      refine ⟨_, rfl, ⟨by simpa using HO.out, HA.out.2⟩, HB.out⟩

/-- the marks k, k + 1, .. -/
def marks (k : Int) (n : Nat) : List Int := (List.range n).map fun (i : Nat) => k + (i : Int)
end Go.Proofs.YtnnfjjadehgmeaaDoor

set_option maxRecDepth 100000
set_option linter.unusedVariables false
set_option linter.unusedSimpArgs false
namespace Go.Proofs.YtnnfjjadehgmeaaDoor
open Go.RowKit

def cmpZ (x y : Int) : Int := if x < y then -1 else if y < x then 1 else 0
/-- the comparison of two lists -/
def cmpL : List Int → List Int → Int
  | [], [] => 0
  | [], _ :: _ => -1
  | _ :: _, [] => 1
  | x :: xs, y :: ys => if x < y then -1 else if y < x then 1 else cmpL xs ys
def lessL (a b : List Int) : Bool := decide (cmpL a b < 0)
theorem cmpL_nil_left {b : List Int} : cmpL [] b = if 0 < b.length then -1 else 0 := by cases b <;> simp [cmpL]
theorem cmpL_nil_right {a : List Int} (h : 0 < a.length) : cmpL a [] = 1 := by
  cases a with
  | nil => simp at h
  | cons x xs => rfl
theorem cmpL_step {a b : List Int} {k : Nat} {x y : Int} (hx : a[k]? = some x) (hy : b[k]? = some y) : cmpL (a.drop k) (b.drop k) = if x < y then -1 else if y < x then 1 else cmpL (a.drop (k + 1)) (b.drop (k + 1)) := by
  have ha := (List.getElem?_eq_some_iff.1 hx).1
  have hb := (List.getElem?_eq_some_iff.1 hy).1
  rw [List.drop_eq_getElem_cons ha, List.drop_eq_getElem_cons hb]
  have e1 : a[k] = x := by rw [List.getElem?_eq_getElem ha] at hx; simpa using hx
  have e2 : b[k] = y := by rw [List.getElem?_eq_getElem hb] at hy; simpa using hy
  rw [e1, e2, cmpL]

set_option maxHeartbeats 400000 in
theorem lib_isNaN (x : Int) (w : World) : Calls Tryd.prog 46 #[.int .i64 x] w fun e w' => e = .returned (.bool false) ∧ w = w' := by
  go_enter Tryd.func46, Tryd.ntmps46
  go_wp2
  go_ret
  exact ⟨ret_bool (by simp), rfl⟩

set_option maxHeartbeats 400000 in
theorem lib_cmp (x y : Int) (w : World) : Calls Tryd.prog 36 #[.int .i64 x, .int .i64 y] w fun e w' => e = .returned (.int .i64 (cmpZ x y)) ∧ w = w' := by
  go_enter Tryd.func36, Tryd.ntmps36
  by_cases h1 : x < y
  · have h2 : ¬ y < x := by omega
    go_wp2_with (go_at_call 46; refine (lib_isNaN _ _).mono ?_; rintro e w' ⟨rfl, rfl⟩)
    go_ret
    exact ⟨ret_int (by simp [cmpZ, h1]), rfl⟩
  · by_cases h2 : y < x
    · go_wp2_with (go_at_call 46; refine (lib_isNaN _ _).mono ?_; rintro e w' ⟨rfl, rfl⟩)
      go_ret
      exact ⟨ret_int (by simp [cmpZ, h1, h2]), rfl⟩
    · go_wp2_with (go_at_call 46; refine (lib_isNaN _ _).mono ?_; rintro e w' ⟨rfl, rfl⟩)
      go_ret
      exact ⟨ret_int (by unfold cmpZ; rw [if_neg (by omega), if_neg (by omega)]), rfl⟩

set_option maxHeartbeats 1000000 in
theorem lib_Compare (w : World) (v v' : Value) (a b : List Int) (ha : Ints w v a) (hb : Ints w v' b) :
    Calls Tryd.prog 26 #[v, v'] w fun e w' => e = .returned (.int .i64 (cmpL a b)) ∧ w = w' := by
  obtain ⟨A, c, rfl, l1, l2, h3⟩ := ha.open_
  obtain ⟨B, d, rfl, m1, m2, g3⟩ := hb.open_
  have H3 := Lib.hid h3
  have G3 := Lib.hid g3
  clear ha hb h3 g3
  go_enter Tryd.func26, Tryd.ntmps26
  go_wp2_with fail
  go_loop [11] (fun i => ∃ k : Nat, k ≤ a.length ∧ k ≤ b.length ∧ i = .int .i64 k ∧ Hid (cmpL a b = cmpL (a.drop k) (b.drop k))) (fun i => a.length - (intOf i).toNat)
  case atStart => exact ⟨0, Nat.zero_le _, Nat.zero_le _, rfl, (rfl : cmpL a b = cmpL (a.drop 0) (b.drop 0))⟩
  case round =>
    obtain ⟨k, hk, hkb, rfl, hI⟩ := hrel
    by_cases hlt : k < a.length
    · obtain ⟨ad, x, rfl, hx, -, hcx⟩ := H3.out k hlt
      by_cases hlb : k < b.length
      · obtain ⟨ad', y, rfl, hy, -, hcy⟩ := G3.out k hlb
        have HS := Lib.hid (hI.out.trans (cmpL_step hx hy))
        have hng : ¬ (b.length : Int) ≤ (k : Int) := by omega
        clear hx hy
        by_cases h1 : x < y
        · have hz : cmpZ x y = -1 := by simp [cmpZ, h1]
          have HR := Lib.hid (show cmpL a b = -1 by rw [HS.out, if_pos h1])
          go_wp2_with (go_at_call 36; refine (lib_cmp _ _ _).mono ?_; rintro e w' ⟨rfl, rfl⟩; rw [hz])
          go_ret
          exact ⟨ret_int HR.out.symm, rfl⟩
        · by_cases h2 : y < x
          · have hz : cmpZ x y = 1 := by simp [cmpZ, h1, h2]
            have HR := Lib.hid (show cmpL a b = 1 by rw [HS.out, if_neg h1, if_pos h2])
            go_wp2_with (go_at_call 36; refine (lib_cmp _ _ _).mono ?_; rintro e w' ⟨rfl, rfl⟩; rw [hz])
            go_ret
            exact ⟨ret_int HR.out.symm, rfl⟩
          · have hz : cmpZ x y = 0 := by simp [cmpZ, h1, h2]
            have HR := Lib.hid (show cmpL a b = cmpL (a.drop (k + 1)) (b.drop (k + 1)) by rw [HS.out, if_neg h1, if_neg h2])
            go_wp2_with (go_at_call 36; refine (lib_cmp _ _ _).mono ?_; rintro e w' ⟨rfl, rfl⟩; rw [hz])
            go_round
            case rel => exact ⟨k + 1, by omega, by omega, by go_num, HR.out⟩
            case measure => simp [intOf]; omega
      · have hkb2 : k = b.length := by omega
        have HR := Lib.hid (show cmpL a b = 1 by rw [hI.out, hkb2, List.drop_length, cmpL_nil_right (by simp; omega)])
        have hng : (b.length : Int) ≤ (k : Int) := by omega
        clear hkb2 hx
        go_wp2_with fail
        go_ret
        exact ⟨ret_int HR.out.symm, rfl⟩
    · have hka : k = a.length := by omega
      have HR := Lib.hid (show cmpL a b = if 0 < (b.drop k).length then -1 else 0 by rw [hI.out, hka, List.drop_length, cmpL_nil_left])
      have hna : ¬ (k : Int) < (a.length : Int) := by omega
      by_cases hlb : (a.length : Int) < (b.length : Int)
      · have HR2 := Lib.hid (show cmpL a b = -1 by rw [HR.out, if_pos (by simp; omega)])
        clear hka
        go_wp2_with fail
        go_ret
        exact ⟨ret_int HR2.out.symm, rfl⟩
      · have HR2 := Lib.hid (show cmpL a b = 0 by rw [HR.out, if_neg (by simp; omega)])
        clear hka
        go_wp2_with fail
        go_ret
        exact ⟨ret_int HR2.out.symm, rfl⟩

set_option maxHeartbeats 1000000 in
theorem s_l01Less (w : World) (v v' : Value) (a b : List Int) (ha : Ints w v a) (hb : Ints w v' b) :
    Calls Tryd.prog 19 #[v, v'] w fun e w' => e = .returned (.bool (lessL a b)) ∧ ∃ n, w' = w.drewN n := by
  obtain ⟨A, c, rfl, l1, l2, h3⟩ := ha.open_
  obtain ⟨B, d, rfl, m1, m2, g3⟩ := hb.open_
  have H3 := Lib.hid h3
  have G3 := Lib.hid g3
  clear ha hb h3 g3
  go_enter Tryd.func19, Tryd.ntmps19
  go_wp2_with fail
  go_loopw [5] (fun i wr => ∃ k n : Nat, k ≤ a.length ∧ k ≤ b.length ∧ i = .int .i64 k ∧ Hid (cmpL a b = cmpL (a.drop k) (b.drop k)) ∧ wr = w.drewN n) (fun i _ => a.length - (intOf i).toNat)
  case atStart => exact ⟨0, 0, Nat.zero_le _, Nat.zero_le _, rfl, (rfl : cmpL a b = cmpL (a.drop 0) (b.drop 0)), rfl⟩
  case round =>
    obtain ⟨k, n, hk, hkb, rfl, hI, rfl⟩ := hrel
    by_cases hlt : k < a.length
    · obtain ⟨ad, x, rfl, hx, -, hcx⟩ := H3.out k hlt
      by_cases hlb : k < b.length
      · obtain ⟨ad', y, rfl, hy, -, hcy⟩ := G3.out k hlb
        have HS := Lib.hid (hI.out.trans (cmpL_step hx hy))
        have hka' : (k : Int) < (a.length : Int) := by omega
        have hkb' : (k : Int) < (b.length : Int) := by omega
        clear hx hy
        by_cases h0 : x = y
        · have HR := Lib.hid (show cmpL a b = cmpL (a.drop (k + 1)) (b.drop (k + 1)) by rw [HS.out, if_neg (by omega), if_neg (by omega)])
          subst h0
          go_wp2_with fail
          go_quiet (fail)
          go_wp2_with fail
          go_roundw
          case rel => exact ⟨k + 1, _, by omega, by omega, by go_num, HR.out, rfl⟩
          case measure => simp [intOf]; omega
        · have HR := Lib.hid (show lessL a b = decide (x < y) by
            unfold lessL
            rw [HS.out]
            by_cases h1 : x < y
            · rw [if_pos h1]; simp [h1]
            · rw [if_neg h1, if_pos (by omega)]; simp [h1])
          go_wp2_with fail
          go_quiet (fail)
          go_wp2_with fail
          go_quiet (fail)
          go_wp2_with fail
          go_ret
          exact ⟨ret_bool HR.out.symm, _, by rw [World.drewN_drewN, World.drewN_drewN]⟩
      · have HR := Lib.hid (show lessL a b = decide (a.length < b.length) by
          unfold lessL
          rw [hI.out, show k = b.length by omega, List.drop_length, cmpL_nil_right (by simp; omega)]
          simp
          omega)
        have hng : ¬ (k : Int) < (b.length : Int) := by omega
        have hka' : (k : Int) < (a.length : Int) := by omega
        clear hx
        go_wp2_with fail
        go_ret
        exact ⟨ret_bool HR.out.symm, _, rfl⟩
    · have HR := Lib.hid (show lessL a b = decide (a.length < b.length) by
        unfold lessL
        rw [hI.out, show k = a.length by omega, List.drop_length, cmpL_nil_left]
        by_cases h : a.length < b.length
        · rw [if_pos (by simp; omega)]; simp [h]
        · rw [if_neg (by simp; omega)]; simp; omega)
      have hna : ¬ (k : Int) < (a.length : Int) := by omega
      go_wp2_with fail
      go_ret
      exact ⟨ret_bool HR.out.symm, _, rfl⟩
end Go.Proofs.YtnnfjjadehgmeaaDoor

set_option linter.unusedVariables false
set_option linter.unusedSimpArgs false
namespace Go.Proofs.YtnnfjjadehgmeaaDoor
open Go.RowKit

set_option maxHeartbeats 400000 in
theorem i_inRange (n lo hi : Int) (w : World) :
    Calls Tryd.prog 23 #[.int .i64 n, .int .i64 lo, .int .i64 hi] w fun e w' => e = .returned (.bool (inR n lo hi)) ∧ w = w' := by
  by_cases h1 : lo ≤ n
  · by_cases h2 : n ≤ hi
    · go_enter Tryd.func23, Tryd.ntmps23
      go_wp2
      go_ret
      exact ⟨ret_bool (by simp [inR, h1, h2]), rfl⟩
    · go_enter Tryd.func23, Tryd.ntmps23
      go_wp2
      go_ret
      exact ⟨ret_bool (by simp [inR, h1, h2]), rfl⟩
  · go_enter Tryd.func23, Tryd.ntmps23
    go_wp2
    go_ret
    exact ⟨ret_bool (by simp [inR]; omega), rfl⟩

set_option maxHeartbeats 400000 in
theorem s_l01In (n lo hi : Int) (w : World) :
    Calls Tryd.prog 17 #[.int .i64 n, .int .i64 lo, .int .i64 hi] w fun e w' => e = .returned (.bool (inR n lo hi)) ∧ w = w' := by
  by_cases h1 : lo ≤ n
  · by_cases h2 : n ≤ hi
    · go_enter Tryd.func17, Tryd.ntmps17
      go_wp2
      go_ret
      exact ⟨ret_bool (by simp [inR, h1, h2]), rfl⟩
    · go_enter Tryd.func17, Tryd.ntmps17
      go_wp2
      go_ret
      exact ⟨ret_bool (by simp [inR, h1, h2]), rfl⟩
  · go_enter Tryd.func17, Tryd.ntmps17
    go_wp2
    go_ret
    exact ⟨ret_bool (by simp [inR]; omega), rfl⟩

set_option maxHeartbeats 400000 in
theorem i_IsNumber (n : Int) (w : World) : Calls Tryd.prog 34 #[.int .i64 n] w fun e w' => e = .returned (.bool (isNum n)) ∧ w = w' := by
  go_enter Tryd.func34, Tryd.ntmps34
  go_wp2_with (go_at_call 23; refine (i_inRange _ _ _ _).mono ?_; rintro e w' ⟨rfl, rfl⟩)
  go_ret
  exact ⟨rfl, rfl⟩

end Go.Proofs.YtnnfjjadehgmeaaDoor

set_option linter.unusedVariables false
set_option linter.unusedSimpArgs false
namespace Go.Proofs.YtnnfjjadehgmeaaDoor
open Go.RowKit

set_option maxHeartbeats 400000 in
theorem lib_lengthI (w : World) (v : Value) (zs : List Int) (ha : Ints w v zs) : Calls Tryd.prog 35 #[v] w fun e w' => e = .returned (.int .i64 zs.length) ∧ w = w' := by
  obtain ⟨A, c, rfl, h1, h2, h3⟩ := ha.open_
  clear ha h3
  go_enter Tryd.func35, Tryd.ntmps35
  go_wp2
  go_ret
  exact ⟨rfl, rfl⟩

end Go.Proofs.YtnnfjjadehgmeaaDoor

