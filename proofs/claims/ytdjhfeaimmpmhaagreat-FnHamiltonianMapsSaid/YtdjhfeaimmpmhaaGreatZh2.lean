/- Arithmetic modulo 10007, plain. No program in sight. | The walks of the arithmetic of the program and of the reference: num, pow, inv and their like. | Scaling a list: plain words, and append as a step of a region that draws. | Walks: numbers that are drawn (laws.dice): any numbers in their ranges; what the source holds is not told. | Walks: numbers that are drawn (spec.l01Source). (printed by drwgen.py) | Level lists, plain: what the program and the reference reckon with them. No program in sight. -/
import Derived.Test.YtdjhfeaimmpmhaaGreatRows
import Derived.Test.YtdjhfeaimmpmhaaGreatZh1
import Derived.WalkLawsBesides
import Derived.Deep.RegionHeld3
import Derived.Deep.RegionLaw
import Derived.BigQuiet
import Derived.WalkSmall
import Derived.IntWalk
import Derived.Deep.CutRange
import Derived.Deep.CutBlock
import Derived.Deep.DeepCutAuto
import Derived.Deep.QuietTactic
set_option linter.unusedVariables false
set_option linter.unusedSimpArgs false
namespace Go.Proofs.YtdjhfeaimmpmhaaGreat

theorem tmod_num (n : Int) : (n.tmod 10007 + 10007) % 10007 = n % 10007 := by
  rw [Int.tmod_eq_emod (a := n)]
  split <;> omega

/-- a to the k-th, modulo 10007 -/
def pw (a : Int) (k : Nat) : Int := a ^ k % 10007

theorem pw_step (out a k0 : Int) (k : Nat) (hk : 0 < k) (h : (out * a ^ k) % 10007 = k0) :
    (k % 2 = 1 → ((out * a % 10007) * (a * a % 10007) ^ (k / 2)) % 10007 = k0) ∧ (k % 2 = 0 → (out * (a * a % 10007) ^ (k / 2)) % 10007 = k0) := by
  have hs : ∀ (x : Int) (n : Nat), ((x % 10007) ^ n) % 10007 = (x ^ n) % 10007 := by
    intro x n
    rw [Int.emod_emod_of_dvd _ (Int.dvd_refl _) |>.symm]
    induction n with
    | zero => simp
    | succ n ih =>
      rw [Int.pow_succ, Int.pow_succ, Int.mul_emod, Int.emod_emod_of_dvd _ (Int.dvd_refl _), Int.mul_emod (x ^ n)]
      simp only [Int.emod_emod_of_dvd _ (Int.dvd_refl _)] at ih ⊢
      rw [ih]
  have hsq : ∀ n : Nat, (a * a) ^ n = a ^ (2 * n) := by
    intro n
    induction n with
    | zero => simp
    | succ n ih => rw [Int.pow_succ, ih, show 2 * (n + 1) = 2 * n + 1 + 1 from by omega, Int.pow_succ, Int.pow_succ, Int.mul_assoc]
  constructor
  · intro hodd
    rw [Int.mul_emod, hs, Int.emod_emod_of_dvd _ (Int.dvd_refl _), ← Int.mul_emod, hsq, Int.mul_assoc, ← h]
    congr 2
    rw [show k = 2 * (k / 2) + 1 from by omega, Int.pow_succ, Int.mul_comm a]
    rw [show (2 * (k / 2) + 1) / 2 = k / 2 from by omega]
  · intro hev
    rw [Int.mul_emod, hs, ← Int.mul_emod, hsq, ← h]
    congr 3
    omega

theorem mul_bd {x y : Int} (A B : Int) (h0 : 0 ≤ x) (h1 : x ≤ A) (g0 : 0 ≤ y) (g1 : y ≤ B) : 0 ≤ x * y ∧ x * y ≤ A * B :=
  ⟨Int.mul_nonneg h0 g0, Int.mul_le_mul h1 g1 g0 (Int.le_trans h0 h1)⟩

/-- lo ≤ n ≤ hi, as a test -/
def inR (n lo hi : Int) : Bool := decide (lo ≤ n) && decide (n ≤ hi)
theorem inR_iff {n lo hi : Int} : inR n lo hi = true ↔ lo ≤ n ∧ n ≤ hi := by simp [inR]
def isNum (z : Int) : Bool := inR z 0 10006
def nums (zs : List Int) : Bool := zs.all isNum
theorem nums_iff {zs : List Int} : nums zs = true ↔ ∀ z ∈ zs, 0 ≤ z ∧ z ≤ 10006 := by simp [nums, isNum, inR_iff]
/-- the first index at which p holds, or -1 -/
def idxF {α : Type} (p : α → Bool) (l : List α) : Int := match l.findIdx? p with | some i => (i : Int) | none => -1
theorem idxF_hit {α : Type} {p : α → Bool} {l : List α} {k : Nat} {x : α} (h : ∀ i y, i < k → l[i]? = some y → p y = false) (hx : l[k]? = some x) (hp : p x = true) : idxF p l = (k : Int) := by
  have : l.findIdx? p = some k := by
    rw [List.findIdx?_eq_some_iff_getElem]
    obtain ⟨hk, e⟩ := List.getElem?_eq_some_iff.1 hx
    refine ⟨hk, by rw [e]; exact hp, fun j hj => ?_⟩
    have hj' : j < l.length := by omega
    simp [h j l[j] hj (List.getElem?_eq_getElem hj')]
  simp [idxF, this]
theorem idxF_miss {α : Type} {p : α → Bool} {l : List α} (h : ∀ i y, i < l.length → l[i]? = some y → p y = false) : idxF p l = -1 := by
  have : l.findIdx? p = none := by
    rw [List.findIdx?_eq_none_iff]
    intro x hx
    obtain ⟨i, hi, rfl⟩ := List.getElem_of_mem hx
    simpa using h i l[i] hi (List.getElem?_eq_getElem hi)
  simp [idxF, this]
theorem idxF_nonneg {α : Type} (p : α → Bool) (l : List α) : decide (0 ≤ idxF p l) = l.any p := by
  unfold idxF
  cases h : l.findIdx? p with
  | none =>
    rw [List.findIdx?_eq_none_iff] at h
    have : l.any p = false := by rw [List.any_eq_false]; intro x hx; simp [h x hx]
    rw [this]; decide
  | some i =>
    rw [List.findIdx?_eq_some_iff_getElem] at h
    obtain ⟨hk, e, _⟩ := h
    have : l.any p = true := List.any_eq_true.2 ⟨_, List.getElem_mem hk, e⟩
    rw [this]; simp
theorem any_not_nums (zs : List Int) : (zs.any fun z => !isNum z) = !nums zs := by
  unfold nums
  induction zs with
  | nil => rfl
  | cons z zs ih => simp only [List.any_cons, List.all_cons, ih]; cases isNum z <;> simp
theorem nums_false {zs : List Int} {k : Nat} {z : Int} (h : zs[k]? = some z) (hz : isNum z = false) : nums zs = false := by
  unfold nums
  rw [List.all_eq_false]
  exact ⟨z, List.mem_of_getElem? h, by simp [hz]⟩
theorem nums_all {zs : List Int} (h : ∀ i y, i < zs.length → zs[i]? = some y → isNum y = true) : nums zs = true := by
  unfold nums
  rw [List.all_eq_true]
  intro x hx
  obtain ⟨i, hi, rfl⟩ := List.getElem_of_mem hx
  exact h i _ hi (List.getElem?_eq_getElem hi)

/-- the sum of a function over a list -/
def sumF {α : Type} (f : α → Int) : List α → Int
  | [] => 0
  | x :: xs => f x + sumF f xs
theorem pw_bd (a : Int) (k : Nat) : 0 ≤ pw a k ∧ pw a k ≤ 10006 := by unfold pw; omega

end Go.Proofs.YtdjhfeaimmpmhaaGreat

set_option linter.unusedVariables false
set_option linter.unusedSimpArgs false
namespace Go.Proofs.YtdjhfeaimmpmhaaGreat
open Go.RowKit

set_option maxHeartbeats 400000 in
theorem i_num (n : Int) (w : World) (h0 : -4000000000000000000 ≤ n) (h1 : n ≤ 4000000000000000000) :
    Calls Tryz.prog 60 #[.int .i64 n] w fun e w' => e = .returned (.int .i64 (n % 10007)) ∧ w = w' := by
  have h2 : -10007 < n.tmod 10007 := by rw [Int.tmod_eq_emod]; split <;> omega
  have h3 : n.tmod 10007 < 10007 := by rw [Int.tmod_eq_emod]; split <;> omega
  have HT := Lib.hid (tmod_num n)
  go_enter Tryz.func60, Tryz.ntmps60
  go_wp2
  go_ret
  exact ⟨ret_int HT.out, rfl⟩

set_option maxHeartbeats 400000 in
theorem s_l01Mod (n : Int) (w : World) (h0 : -4000000000000000000 ≤ n) (h1 : n ≤ 4000000000000000000) :
    Calls Tryz.prog 123 #[.int .i64 n] w fun e w' => e = .returned (.int .i64 (n % 10007)) ∧ w = w' := by
  have h2 : -10007 < n.tmod 10007 := by rw [Int.tmod_eq_emod]; split <;> omega
  have h3 : n.tmod 10007 < 10007 := by rw [Int.tmod_eq_emod]; split <;> omega
  have HT := Lib.hid (tmod_num n)
  go_enter Tryz.func123, Tryz.ntmps123
  go_wp2
  go_ret
  exact ⟨ret_int HT.out, rfl⟩

set_option maxHeartbeats 400000 in
theorem s_l01Mul (a b : Int) (w : World) (h0 : 0 ≤ a) (h1 : a ≤ 2000000000) (g0 : 0 ≤ b) (g1 : b ≤ 2000000000) :
    Calls Tryz.prog 131 #[.int .i64 a, .int .i64 b] w fun e w' => e = .returned (.int .i64 (a * b % 10007)) ∧ w = w' := by
  obtain ⟨p1, p2⟩ := mul_bd 2000000000 2000000000 h0 h1 g0 g1
  go_enter Tryz.func131, Tryz.ntmps131
  go_wp2_with (go_at_call 123; refine (s_l01Mod _ _ (by omega) (by omega)).mono ?_; rintro e w' ⟨rfl, rfl⟩)
  go_ret
  exact ⟨rfl, rfl⟩

set_option maxHeartbeats 400000 in
theorem s_l01Add (a b : Int) (w : World) (h0 : -2000000000000000000 ≤ a) (h1 : a ≤ 2000000000000000000) (g0 : -2000000000000000000 ≤ b) (g1 : b ≤ 2000000000000000000) :
    Calls Tryz.prog 132 #[.int .i64 a, .int .i64 b] w fun e w' => e = .returned (.int .i64 ((a + b) % 10007)) ∧ w = w' := by
  go_enter Tryz.func132, Tryz.ntmps132
  go_wp2_with (go_at_call 123; refine (s_l01Mod _ _ (by omega) (by omega)).mono ?_; rintro e w' ⟨rfl, rfl⟩)
  go_ret
  exact ⟨rfl, rfl⟩

set_option maxHeartbeats 400000 in
theorem s_l01Pow (a k : Int) (w : World) (h0 : 0 ≤ a) (h1 : a ≤ 2000000000) (g0 : 0 ≤ k) (g1 : k ≤ 2000000000) :
    Calls Tryz.prog 186 #[.int .i64 a, .int .i64 k] w fun e w' => e = .returned (.int .i64 (pw a k.toNat)) ∧ w = w' := by
  go_enter Tryz.func186, Tryz.ntmps186
  go_wp2
  go_loop [0, 1, 5] (fun x y z => ∃ (b out : Int) (j : Nat), x = .int .i64 b ∧ y = .int .i64 j ∧ z = .int .i64 out ∧ 0 ≤ b ∧ b ≤ 2000000000 ∧ j ≤ 2000000000 ∧ 0 ≤ out ∧ out ≤ 10006 ∧ Hid ((out * b ^ j) % 10007 = pw a k.toNat)) (fun _ y _ => (intOf y).toNat)
  case atStart => exact ⟨a, 1, k.toNat, rfl, by rw [Int.toNat_of_nonneg g0], rfl, h0, h1, by omega, by omega, by omega, by unfold Hid pw; rw [Int.one_mul]⟩
  case round =>
    obtain ⟨b, out, j, rfl, rfl, rfl, b0, b1, j1, o0, o1, hI⟩ := hrel
    clear h0 h1 g0 g1
    by_cases hj : 0 < j
    · have hst := Lib.hid (pw_step out b _ j hj hI.out)
      by_cases hodd : j % 2 = 1
      · have hb : (((j : Int) % 2) == 1) = true := by simp; omega
        clear hodd
        go_wp2_with (go_at_call 131; refine (s_l01Mul _ _ _ (by omega) (by omega) (by omega) (by omega)).mono ?_; rintro e w' ⟨rfl, rfl⟩)
        go_round
        case rel => exact ⟨_, _, j / 2, rfl, by go_num, rfl, by omega, by omega, by omega, by omega, by omega, hst.out.1 (by simp at hb; omega)⟩
        case measure => simp [intOf]; omega
      · have hb : (((j : Int) % 2) == 1) = false := by simp; omega
        clear hodd
        go_wp2_with (go_at_call 131; refine (s_l01Mul _ _ _ (by omega) (by omega) (by omega) (by omega)).mono ?_; rintro e w' ⟨rfl, rfl⟩)
        go_round
        case rel => exact ⟨_, _, j / 2, rfl, by go_num, rfl, by omega, by omega, by omega, by omega, by omega, hst.out.2 (by simp at hb; omega)⟩
        case measure => simp [intOf]; omega
    · obtain rfl : j = 0 := by omega
      go_wp2
      go_ret
      refine ⟨ret_int ?_, rfl⟩
      have := hI.out
      rw [← this]
      simp
      omega

set_option maxHeartbeats 400000 in
theorem s_l01Inv (a : Int) (w : World) (h0 : 0 ≤ a) (h1 : a ≤ 2000000000) :
    Calls Tryz.prog 191 #[.int .i64 a] w fun e w' => e = .returned (.int .i64 (pw a 10005)) ∧ w = w' := by
  go_enter Tryz.func191, Tryz.ntmps191
  go_wp2_with (go_at_call 186; refine (s_l01Pow _ _ _ (by omega) (by omega) (by omega) (by omega)).mono ?_; rintro e w' ⟨rfl, rfl⟩)
  go_ret
  exact ⟨rfl, rfl⟩

end Go.Proofs.YtdjhfeaimmpmhaaGreat

set_option linter.unusedVariables false
set_option linter.unusedSimpArgs false
namespace Go.Proofs.YtdjhfeaimmpmhaaGreat
open Go.RowKit

/-- append of one element, met in a region that draws -/
theorem step_app1 {P : Program} {ops : Array Oper} {o : Oper} {a : Act} {K : Act → World → Prop} {Q : Exit → Act → World → Prop} {E : Prop} {s x : Operand} {t : TypeId}
    {e : TypeId} {z : Value} {bytes : Nat} {B : Nat} {v : Value} {vs : List Value} {W : World} {u : Value}
    (T : ElemT P t e z bytes) (hown : Own W B e v vs) (hlen : vs.length < 1099511627776) (hB : B ≤ W.heap.size) (hu : u.oneCell' = true)
    (hgd : o.guard = none) (ho : o.op = .call { callee := .builtin .append, args := #[s, x], argTypes := #[t, t] }) (hs : a.eval s = v)
    (hx : a.eval x = .slice (some ⟨W.heap.size, 0, none⟩) 1 1)
    (h : ∀ v' w', Own w' B e v' (vs ++ [u]) → Grow W w' v v' → K (a.put o.dst v') w') :
    if Region.wanted o (yielded ops a.tmps) = true then Oper.wp P o a (W.alloc (.cells #[u] e)) K Q else E := by
  have hw : Region.wanted o (yielded ops a.tmps) = true := by simp [Region.wanted, hgd]
  rw [if_pos hw]
  obtain ⟨i, hi, hz, h1, h2⟩ := info_parts T.info
  have hby := T.small
  obtain ⟨v', w', hrun, r1, r2, _, r3⟩ := run_append_own_at (P := P) (W.alloc (.cells #[u] e)) B t o.type e i z 1 bytes T.under hi hz h1 h2 (by rw [T.one]; rfl) (by omega) v vs.length vs (hown.alloc _) ⟨W.heap.size, 0, none⟩ 1 1 [u] rfl
    (fun j u' hj => by
      cases j with
      | zero =>
        simp at hj; subst hj
        have e0 : (⟨W.heap.size, 0, none⟩ : Addr).add 0 = ⟨W.heap.size, 0, none⟩ := rfl
        rw [e0, World.cell?_alloc_at _ _ _ _ rfl]
        rfl
      | succ j => simp at hj) (by simpa using hu) (by simp only [maxLen]; omega) (by have := Nat.mul_le_mul_left (vs.length + 1) hby; omega) (by simp; omega)
  unfold Oper.wp execOp
  simp only [ho, resolve, invoke, builtin, Sem.run_bind, Sem.run_pure, Result.andThen_ok, List.map_toArray, List.map_cons, List.map_nil, hs, hx, hrun]
  refine h v' w' ?_ ⟨?_, ?_⟩
  · unfold Own; simpa using r1
  · refine ⟨r2.os, r2.tape, r2.output, ?_, fun k hk hne => ?_⟩
    · have := r2.size; simp at this; omega
    · rw [r2.block k (by simp; omega) hne]
      exact Below.heap_alloc _ _ _ hk
  · rcases r3 with r3 | r3
    · exact .inl r3
    · exact .inr ⟨_, r3, by simp⟩

def Nums (zs : List Int) : Prop := ∀ z ∈ zs, 0 ≤ z ∧ z ≤ 10006
end Go.Proofs.YtdjhfeaimmpmhaaGreat

set_option maxRecDepth 100000
set_option linter.unusedVariables false
set_option linter.unusedSimpArgs false
namespace Go.Proofs.YtdjhfeaimmpmhaaGreat
open Go.RowKit

/-- bytes that can be read, in a block below B -/
def ByB (w : World) (B : Nat) (A : Option Addr) (n : Nat) : Prop := ∀ k, k < n → ∃ ad z, A = some ad ∧ ad.block < B ∧ ad.block < w.heap.size ∧ 0 ≤ z ∧ z ≤ 255 ∧ w.cell? (ad.add k) = some (.int .u8 z)
/-- a byte slice that can be read -/
def Bts (w : World) (v : Value) (n : Nat) : Prop := ∃ A c, v = .slice A n c ∧ ByB w w.heap.size A n
/-- a source of numbers in block p: the bytes, the place, the hash -/
def Src (w : World) (B : Nat) (t : TypeId) (p : Nat) : Prop := ∃ (A : Option Addr) (n c k : Nat) (h : Int), Blk w p t #[.slice A n c, .int .i64 k, .int .u64 h] ∧ B ≤ p ∧ ByB w B A n ∧ k ≤ n ∧ n ≤ 1000000 ∧ 0 ≤ h ∧ h < 18446744073709551616
abbrev at0 (p : Nat) : Value := .pointer (some ⟨p, 0, none⟩)
theorem ByB.grown {w w' : World} {B n p : Nat} {A : Option Addr} (h : ByB w B A n) (hg : w.grownBy w' (some p)) (hp : B ≤ p) : ByB w' B A n := fun k hk => by
  obtain ⟨ad, z, rfl, h1, h2, h3, h4, h5⟩ := h k hk
  refine ⟨ad, z, rfl, h1, Nat.lt_of_lt_of_le h2 hg.size, h3, h4, ?_⟩
  have hb : w'.heap[ad.block]? = w.heap[ad.block]? := hg.block ad.block h2 (fun e => by injection e with e; omega)
  rw [← h5]
  unfold World.cell?
  simp only [block_add]
  rw [hb]
theorem gset (w : World) (g i : Nat) (u : Value) : w.grownBy (w.setCell ⟨g, i, none⟩ u) (some g) := by
  have b := Below.setCell (B := 0) (Below.refl 0 w) (p := ⟨g, i, none⟩) (Nat.zero_le _) u
  exact ⟨b.os, b.tape, b.output, b.size, fun k hk hne => Below.heap_setCell w _ u k (fun e => hne (by rw [e]))⟩
theorem w64_dr (x : Int) (h : -9223372036854775808 ≤ x ∧ x ≤ 9223372036854775807) : wrap64 x = x := by unfold wrap64; omega
theorem u64_bd (x : Int) : 0 ≤ IntKind.u64.wrap x ∧ IntKind.u64.wrap x < 18446744073709551616 := by rw [IntKind.wrap_u64]; omega
theorem bits_bd {x : Int} (h0 : 0 ≤ x) (h1 : x < 18446744073709551616) : 0 ≤ bits BinOp.and IntKind.u64 x 16777215 ∧ bits BinOp.and IntKind.u64 x 16777215 ≤ 16777215 := by
  have h := bits_and_u64_nat x.toNat 16777215 (by omega) (by omega)
  rw [Int.toNat_of_nonneg h0] at h
  have h2 : x.toNat &&& 16777215 ≤ 16777215 := Nat.and_le_right
  rw [show (16777215 : Int) = ((16777215 : Nat) : Int) from rfl, h]
  omega
/-- what one step of the hash gives -/
theorem hash_bd (z : Int) : ∃ x y : Int, x = IntKind.u64.wrap z ∧ 0 ≤ x ∧ x < 18446744073709551616 ∧ y = bits BinOp.and IntKind.u64 (x / 8589934592) 16777215 ∧ wrap64 (bits BinOp.and IntKind.u64 (x / 8589934592) 16777215) = y ∧ 0 ≤ y ∧ y ≤ 16777215 := by
  have h1 := u64_bd z
  have h2 := bits_bd (x := IntKind.u64.wrap z / 8589934592) (by omega) (by omega)
  exact ⟨_, _, rfl, h1.1, h1.2, rfl, w64_dr _ (by omega), h2.1, h2.2⟩
theorem rem_bd {x n : Int} (h0 : 0 ≤ x) (h1 : 1 ≤ n) : 0 ≤ x % n ∧ x % n < n := ⟨Int.emod_nonneg _ (by omega), Int.emod_lt_of_pos _ (by omega)⟩
theorem gtrans {w w1 w2 : World} {b : Option Nat} (h : w.grownBy w1 b) (h' : w1.grownBy w2 b) : w.grownBy w2 b :=
  ⟨h'.os.trans h.os, h'.tape.trans h.tape, h'.output.trans h.output, Nat.le_trans h.size h'.size, fun k hk hne => (h'.block k (Nat.lt_of_lt_of_le hk h.size) hne).trans (h.block k hk hne)⟩
theorem gof {w w' : World} {r : Option Nat} (h : Below w.heap.size w w') : w.grownBy w' r := ⟨h.os, h.tape, h.output, h.size, fun k hk _ => h.block k hk⟩
/-- the source is kept where others grow -/
theorem Src.kept {w w' : World} {B p : Nat} {t : TypeId} {r : Option Nat} (h : Src w B t p) (hg : w.grownBy w' r) (hne : r ≠ some p) (hr : ∀ b, r = some b → B ≤ b) : Src w' B t p := by
  obtain ⟨A, m, c, k, hs, hk, hB, hby, h1⟩ := h
  refine ⟨A, m, c, k, hs, (hg.block p hk.lt (fun e => hne e.symm)).trans hk, hB, fun j hj => ?_, h1⟩
  obtain ⟨ad, z, rfl, a1, a2, z0, z1, hc⟩ := hby j hj
  refine ⟨ad, z, rfl, a1, Nat.lt_of_lt_of_le a2 hg.size, z0, z1, ?_⟩
  have hb : w'.heap[ad.block]? = w.heap[ad.block]? := hg.block ad.block a2 (fun e => by have := hr _ e.symm; omega)
  rw [← hc]
  unfold World.cell?
  simp only [block_add]
  rw [hb]
theorem Src.below {w w' : World} {B p : Nat} {t : TypeId} (h : Src w B t p) (hg : Below w.heap.size w w') : Src w' B t p := h.kept (r := none) (gof hg) (by simp) (by simp)
theorem Src.ge {w : World} {B p : Nat} {t : TypeId} (h : Src w B t p) : B ≤ p := by obtain ⟨A, m, c, k, hs, hk, hB, -⟩ := h; exact hB
theorem Src.lt {w : World} {B p : Nat} {t : TypeId} (h : Src w B t p) : p < w.heap.size := by obtain ⟨A, m, c, k, hs, hk, hB, -⟩ := h; exact hk.lt
theorem gthen {w w1 w2 : World} {p : Nat} {r : Option Nat} (h : w.grownBy w1 (some p)) (h' : w1.grownBy w2 r) (hr : ∀ b, r = some b → w.heap.size ≤ b) : w.grownBy w2 (some p) :=
  ⟨h'.os.trans h.os, h'.tape.trans h.tape, h'.output.trans h.output, Nat.le_trans h.size h'.size, fun k hk hne => (h'.block k (Nat.lt_of_lt_of_le hk h.size) (fun e => by have := hr _ e.symm; omega)).trans (h.block k hk hne)⟩
theorem Own.src {w w' : World} {C p : Nat} {e : TypeId} {v : Value} {vs : List Value} (h : Own w C e v vs) (hp : p < C) (hg : w.grownBy w' (some p)) : Own w' C e v vs := h.kept hg (by
  cases hb : v.ownBlock with
  | none => exact .inl rfl
  | some b => exact .inr fun e => by injection e with e; have := h.ge b hb; omega)
end Go.Proofs.YtdjhfeaimmpmhaaGreat

set_option maxRecDepth 100000
set_option linter.unusedVariables false
set_option linter.unusedSimpArgs false
namespace Go.Proofs.YtdjhfeaimmpmhaaGreat
open Go.RowKit

abbrev tSc : TypeId := 101
set_option maxHeartbeats 4000000 in
theorem s_l01Next (w : World) (B p : Nat) (n : Int) (h : Src w B tSc p) (hn : n ≤ 4611686018427387904) (hn0 : 1 ≤ n) :
    Calls Tryz.prog 50 #[at0 p, .int .i64 n] w fun e w' => ∃ x, e = .returned (.int .i64 x) ∧ 0 ≤ x ∧ x < n ∧ w.grownBy w' (some p) ∧ Src w' B tSc p := by
  obtain ⟨A, m, c, k, hs, hk, hB, hby, hkm, hm, h0, h1⟩ := h
  have HK := Lib.hid hk
  have HBY := Lib.hid hby
  have k2 : w.cell? ⟨p, 2, none⟩ = some (.int .u64 hs) := hk.cell 2
  have f2 : w.frozen? ⟨p, 2, none⟩ = false := hk.frozen 2
  clear hk hby
  go_enter Tryz.func50, Tryz.ntmps50
  go_upto_region 5 with fail
  obtain ⟨x, y, hx, x0, x1, hy, hw, y0, y1⟩ := hash_bd (IntKind.u64.wrap (hs * 6364136223846793005) + 1442695040888963407)
  rw [← hx, hw, ← hy]
  clear hx hy hw h0 h1 f2 k2
  have HK1 := Lib.hid (HK.out.set_ 2 (.int .u64 x))
  have HG1 := Lib.hid (gset w p 2 (.int .u64 x))
  generalize w.setCell ⟨p, 2, none⟩ (.int .u64 x) = w1 at HK1 HG1 ⊢
  generalize x / 8589934592 = x9
  generalize IntKind.u64.wrap (hs * 6364136223846793005) = x8
  have HBY1 := Lib.hid (HBY.out.grown HG1.out hB)
  have HK1 := Lib.hid (show Blk w1 p tSc #[.slice A m c, .int .i64 k, .int .u64 x] from HK1.out)
  have k0 : w1.cell? ⟨p, 0, none⟩ = some (.slice A m c) := HK1.out.cell 0
  have k1 : w1.cell? ⟨p, 1, none⟩ = some (.int .i64 k) := HK1.out.cell 1
  have f1 : w1.frozen? ⟨p, 1, none⟩ = false := HK1.out.frozen 1
  clear HK HBY
  by_cases hlt : k < m
  · obtain ⟨ad, z, rfl, a1, a2, z0, z1, hc⟩ := HBY1.out k hlt
    have hkk : (k : Int) < (m : Int) := by omega
    have hw1 : wrap64 (y + z) = y + z := w64_dr _ (by omega)
    have hwk : wrap64 ((k : Int) + 1) = (k : Int) + 1 := w64_dr _ (by omega)
    clear a1 a2
    go_quiet (fail)
    go_upto_region 6 with fail
    rename Nat => nq0
    have k0' : (w1.drewN nq0).cell? ⟨p, 0, none⟩ = some (.slice (some ad) m c) := k0
    have k1' : (w1.drewN nq0).cell? ⟨p, 1, none⟩ = some (.int .i64 k) := k1
    have hc' : (w1.drewN nq0).cell? (ad.add k) = some (.int .u8 z) := hc
    go_quiet (fail)
    go_wp2_with fail
    go_ret
    obtain ⟨r0, r1⟩ := rem_bd (x := y + z) (n := n) (by omega) hn0
    have HB2 : w1.grownBy ((w1.drewN (nq0 + nq)).setCell ⟨p, 1, none⟩ (.int .i64 ((k : Int) + 1))) (some p) := gtrans (gof (below_drewN (Below.refl _ _) _)) (gset _ _ _ _)
    exact ⟨_, rfl, r0, r1, gtrans HG1.out HB2, some ad, m, c, k + 1, x, by simpa using (HK1.out.drewN _).set_ 1 (.int .i64 ((k : Int) + 1)), hB, HBY1.out.grown HB2 hB, hlt, hm, x0, x1⟩
  · have hkk : ¬ ((k : Int) < (m : Int)) := by omega
    go_quiet (fail)
    go_wp2_with fail
    go_ret
    obtain ⟨r0, r1⟩ := rem_bd (x := y) (n := n) (by omega) hn0
    rename Nat => nq0
    have HB2 : w1.grownBy (w1.drewN nq0) (some p) := gof (below_drewN (Below.refl _ _) _)
    exact ⟨_, rfl, r0, r1, gtrans HG1.out HB2, A, m, c, k, x, HK1.out.drewN _, hB, HBY1.out.grown HB2 hB, hkm, hm, x0, x1⟩
set_option maxHeartbeats 4000000 in
theorem s_l01From (w : World) (A : Option Addr) (n c : Nat) (hb : ByB w w.heap.size A n) (hn : n ≤ 4096) :
    Calls Tryz.prog 49 #[.slice A n c] w fun e w' => ∃ p, e = .returned (at0 p) ∧ Src w' w.heap.size tSc p ∧ Below w.heap.size w w' := by
  have HBY := Lib.hid hb
  have hs2 : 0 ≤ 5381 + (n : Int) ∧ 5381 + (n : Int) < 18446744073709551616 := by omega
  clear hb
  go_enter Tryz.func49, Tryz.ntmps49
  go_wp2_with fail
  obtain ⟨h0, hh0⟩ : ∃ h0, h0 = 5381 + (n : Int) := ⟨_, rfl⟩
  rw [← hh0] at hs2 ⊢
  obtain ⟨W, hW⟩ : ∃ W, W = w.alloc (Obj.cells #[Value.slice A n c, Value.int IntKind.i64 0, Value.int IntKind.u64 h0] tSc) := ⟨_, rfl⟩
  have HBW := Lib.hid (show Below w.heap.size w W from by rw [hW]; exact below1 w _)
  have HK := Lib.hid (show Blk W w.heap.size tSc #[Value.slice A n c, Value.int IntKind.i64 0, Value.int IntKind.u64 h0] from by rw [hW]; exact Blk.new _ _ _)
  rw [← hW]
  clear hW hh0
  obtain ⟨g0, g1⟩ := hs2
  go_loopw [4] (fun x wr => ∃ (j : Nat) (h : Int), j ≤ n ∧ x = .int .i64 j ∧ 0 ≤ h ∧ h < 18446744073709551616 ∧ Blk wr w.heap.size tSc #[Value.slice A n c, Value.int IntKind.i64 0, Value.int IntKind.u64 h] ∧ Below w.heap.size w wr) (fun x _ => n - (intOf x).toNat)
  case atStart => exact ⟨0, h0, Nat.zero_le _, rfl, g0, g1, HK.out, HBW.out⟩
  case round =>
    obtain ⟨j, h, hj, rfl, q0, q1, hk, hb⟩ := hrel
    rename World => wq
    clear HK HBW
    have HK := Lib.hid hk
    have HB := Lib.hid hb
    have k2 : wq.cell? ⟨w.heap.size, 2, none⟩ = some (.int .u64 h) := hk.cell 2
    have f2 : wq.frozen? ⟨w.heap.size, 2, none⟩ = false := hk.frozen 2
    clear hk hb
    by_cases hlt : j < n
    · have hj4 : (j : Int) < 4096 := by omega
      have hjj : (j : Int) < (n : Int) := by omega
      obtain ⟨ad, z, rfl, a1, a2, z0, z1, hc⟩ := HBY.out j hlt
      have hc1 : wq.cell? (ad.add j) = some (.int .u8 z) := by rw [HB.out.cell (by rw [block_add]; exact a1)]; exact hc
      have hjk : wrap64 ((j : Int) + 1) = (j : Int) + 1 := w64_dr _ (by omega)
      clear a1 a2 hc
      go_upto_region 5 with fail
      go_region_law (fail)
      all_goals
        obtain ⟨y, hy⟩ : ∃ y, y = IntKind.u64.wrap (IntKind.u64.wrap (IntKind.u64.wrap (h * 1099511628211) + IntKind.u64.wrap z) + 11) := ⟨_, rfl⟩
        obtain ⟨b0, b1⟩ : 0 ≤ y ∧ y < 18446744073709551616 := by rw [hy]; exact u64_bd _
        rw [← hy]
        clear hy
        go_wp2_with fail
        go_roundw
        case rel =>
          exact ⟨j + 1, _, by omega, by go_num, b0, b1, (HK.out.set_ 2 _).drewN 1, (HB.out.setCell (Nat.le_refl _) _).drew⟩
        case measure => simp [intOf]; omega
    · have hjn : j = n := by omega
      subst hjn
      go_wp2_with fail
      go_ret
      exact ⟨_, rfl, ⟨A, j, c, 0, h, HK.out, Nat.le_refl _, fun k hk => by obtain ⟨ad, z, e, a1, a2, z0, z1, hc⟩ := HBY.out k hk; exact ⟨ad, z, e, a1, Nat.lt_of_lt_of_le a1 HB.out.size, z0, z1, by rw [HB.out.cell (by rw [block_add]; exact a1)]; exact hc⟩, Nat.zero_le _, (by omega), q0, q1⟩, HB.out⟩
end Go.Proofs.YtdjhfeaimmpmhaaGreat

set_option linter.unusedVariables false
set_option linter.unusedSimpArgs false
namespace Go.Proofs.YtdjhfeaimmpmhaaGreat

/-- natural numbers as integers -/
def up (t : List Nat) : List Int := t.map fun (n : Nat) => (n : Int)
theorem up_len (t : List Nat) : (up t).length = t.length := by simp [up]
theorem up_get (t : List Nat) (k : Nat) : (up t)[k]? = t[k]?.map fun (n : Nat) => (n : Int) := by simp [up]
theorem up_append (a b : List Nat) : up (a ++ b) = up a ++ up b := by simp [up]
theorem up_take (a : List Nat) (k : Nat) : (up a).take k = up (a.take k) := by simp [up, List.map_take]
theorem up_drop (a : List Nat) (k : Nat) : (up a).drop k = up (a.drop k) := by simp [up, List.map_drop]
theorem up_inj {a b : List Nat} (h : up a = up b) : a = b := by
  have e : ∀ l : List Nat, (up l).map Int.toNat = l := by
    intro l
    simp only [up, List.map_map]
    have : (Int.toNat ∘ fun n : Nat => (n : Int)) = id := by funext n; simp
    rw [this, List.map_id]
  rw [← e a, ← e b, h]

def eqN : List Nat → List Nat → Bool
  | [], [] => true
  | [], _ :: _ => false
  | _ :: _, [] => false
  | a :: ar, b :: bs => bif Nat.beq a b then eqN ar bs else false
theorem eqN_iff : ∀ {a b : List Nat}, eqN a b = true ↔ a = b
  | [], [] => by simp [eqN]
  | [], _ :: _ => by simp [eqN]
  | _ :: _, [] => by simp [eqN]
  | a :: ar, b :: bs => by
    rw [eqN]
    cases h : Nat.beq a b with
    | true => have := Nat.eq_of_beq_eq_true h; subst this; simp [eqN_iff (a := ar) (b := bs)]
    | false => have := Nat.ne_of_beq_eq_false h; simp [this]
/-- lexicographically less -/
def ltN : List Nat → List Nat → Bool
  | [], [] => false
  | [], _ :: _ => true
  | _ :: _, [] => false
  | a :: ar, b :: bs => bif Nat.beq a b then ltN ar bs else Nat.blt a b

def mapO {α β : Type} (g : α → Option β) : List α → Option (List β)
  | [] => some []
  | x :: xs => match g x with
    | none => none
    | some y => match mapO g xs with
      | none => none
      | some ys => some (y :: ys)
theorem mapO_cons {α β : Type} {g : α → Option β} {x : α} {xs : List α} {ys : List β} (h : mapO g (x :: xs) = some ys) : ∃ y ys', ys = y :: ys' ∧ g x = some y ∧ mapO g xs = some ys' := by
  rw [mapO] at h
  split at h
  · cases h
  · rename_i y hy
    split at h
    · cases h
    · rename_i ys' hys
      injection h with h
      exact ⟨y, ys', h.symm, hy, hys⟩
theorem mapO_len {α β : Type} {g : α → Option β} : ∀ {xs : List α} {ys : List β}, mapO g xs = some ys → ys.length = xs.length
  | [], ys, h => by simp [mapO] at h; subst h; rfl
  | x :: xs, ys, h => by
    obtain ⟨y, ys', rfl, _, h'⟩ := mapO_cons h
    simp [mapO_len h']
theorem mapO_get {α β : Type} {g : α → Option β} : ∀ {xs : List α} {ys : List β}, mapO g xs = some ys → ∀ (k : Nat) (x : α), xs[k]? = some x → ∃ y, ys[k]? = some y ∧ g x = some y
  | [], ys, h, k, x, hx => by simp at hx
  | z :: xs, ys, h, k, x, hx => by
    obtain ⟨y, ys', rfl, hy, h'⟩ := mapO_cons h
    cases k with
    | zero => simp at hx; subst hx; exact ⟨y, by simp, hy⟩
    | succ k => simpa using mapO_get h' k x (by simpa using hx)
theorem mapO_all {α β : Type} {g : α → Option β} {xs : List α} {ys : List β} (h : mapO g xs = some ys) : ∀ y ∈ ys, ∃ x ∈ xs, g x = some y := by
  intro y hy
  obtain ⟨k, hk, rfl⟩ := List.getElem_of_mem hy
  have hl := mapO_len h
  have hx : xs[k]? = some (xs[k]'(by omega)) := List.getElem?_eq_getElem _
  obtain ⟨y', h1, h2⟩ := mapO_get h k _ hx
  rw [List.getElem?_eq_getElem hk] at h1
  injection h1 with h1
  exact ⟨_, List.mem_of_getElem? hx, by rw [h2, ← h1]⟩

/-- the levels behind a level -/
def lvlF (p : Nat) : List Nat → Bool
  | [] => true
  | l :: ls => bif Nat.ble 1 l then (bif Nat.ble l (p + 1) then lvlF l ls else false) else false
/-- a list of levels -/
def lvl : List Nat → Bool
  | [] => false
  | a :: ar => bif Nat.beq a 0 then lvlF 0 ar else false

def addLast (x : Nat) : List (List Nat) → List (List Nat)
  | [] => []
  | [b] => [b ++ [x]]
  | b :: c :: bs => b :: addLast x (c :: bs)
/-- one level more, of the branches gathered so far -/
def brStep (out : List (List Nat)) (l : Nat) : Option (List (List Nat)) :=
  match l with
  | 0 => none
  | 1 => some (out ++ [[0]])
  | l + 2 => match out with
    | [] => none
    | b :: bs => some (addLast (l + 1) (b :: bs))
def brF (out : List (List Nat)) : List Nat → Option (List (List Nat))
  | [] => some out
  | l :: ls => match brStep out l with
    | none => none
    | some o => brF o ls
/-- the branches of a level list -/
def brO : List Nat → Option (List (List Nat))
  | [] => none
  | _ :: ts => brF [] ts

/-- a list put into lists in descending order -/
def insD (p : List Nat) : List (List Nat) → List (List Nat)
  | [] => [p]
  | q :: qs => bif ltN q p then p :: q :: qs else q :: insD p qs
def srtF (s : List (List Nat)) : List (List Nat) → List (List Nat)
  | [] => s
  | p :: ps => srtF (insD p s) ps
/-- lists in descending order -/
def srtD (ps : List (List Nat)) : List (List Nat) := srtF [] ps
def bump : List Nat → List Nat
  | [] => []
  | a :: ar => (a + 1) :: bump ar
def bumps : List (List Nat) → List Nat
  | [] => []
  | b :: bs => bump b ++ bumps bs
/-- the list of the tree with some branches -/
def rootN (bs : List (List Nat)) : List Nat := 0 :: bumps bs
/-- the canonical list -/
def canO : Nat → List Nat → Option (List Nat)
  | 0, _ => none
  | f + 1, t => match brO t with
    | none => none
    | some bs => match mapO (canO f) bs with
      | none => none
      | some cs => some (rootN (srtD cs))

/-- one more than the last place below k whose level is one less; 0 if there is none -/
def parN (t : List Nat) (lev : Nat) : Nat → Nat
  | 0 => 0
  | k + 1 => bif Nat.beq (t.getD k 0 + 1) lev then k + 1 else parN t lev k
def parF (t : List Nat) : List Nat → Nat → List Nat
  | [], _ => []
  | l :: ls, i => parN t l i :: parF t ls (i + 1)
/-- the parents of the nodes, each by one more than its place -/
def parents (t : List Nat) : List Nat := parF t t 0
/-- one more at the end of the list at a place -/
def addAt (x : Nat) : Nat → List (List Nat) → List (List Nat)
  | _, [] => []
  | 0, b :: bs => (b ++ [x]) :: bs
  | i + 1, b :: bs => b :: addAt x i bs
def nearF (near : List (List Nat)) : List Nat → Nat → List (List Nat)
  | [], _ => near
  | 0 :: ps, i => nearF near ps (i + 1)
  | (k + 1) :: ps, i => nearF (addAt i k (addAt k i near)) ps (i + 1)
/-- the neighbours of the nodes -/
def nearN (t : List Nat) : List (List Nat) := nearF (List.replicate t.length []) (parents t) 0
/-- the canonical tree with a root (fr: one more than the node from which it is come to, or 0) -/
def tfO : Nat → List (List Nat) → Nat → Nat → Option (List Nat)
  | 0, _, _, _ => none
  | f + 1, near, root, fr => match near[root]? with
    | none => none
    | some ns => match mapO (fun n => tfO f near n (root + 1)) (ns.filter fun n => !Nat.beq (n + 1) fr) with
      | none => none
      | some bs => canO 9 (rootN bs)
/-- the trees with other roots -/
def rootedO (t : List Nat) : Option (List (List Nat)) := match canO 9 t with
  | none => none
  | some c => mapO (fun n => tfO 9 (nearN c) n 0) (List.range c.length)
/-- before in the order of trees -/
def befN (s t : List Nat) : Bool := bif Nat.beq s.length t.length then ltN t s else Nat.blt s.length t.length
def minT (m : List Nat) : List (List Nat) → List Nat
  | [] => m
  | t :: ts => bif befN t m then minT t ts else minT m ts
/-- the free form -/
def freeO (t : List Nat) : Option (List Nat) := match rootedO t with
  | some (r :: rs) => some (minT r rs)
  | _ => none

/- of the reference -/
def runN (a : Nat) : List Nat → Nat
  | [] => 0
  | l :: ls => bif Nat.blt a l then runN a ls + 1 else 0
/-- the place behind the branch at a node -/
def endN (t : List Nat) (node : Nat) : Nat := node + 1 + runN (t.getD node 0) (t.drop (node + 1))
/-- all lists of so many levels that begin with a list: the greater ones first -/
def grow1 (t : List Nat) (last : Nat) : Nat → List (List Nat)
  | 0 => []
  | l + 1 => (t ++ [l + 1]) :: grow1 t last l
def lastN : List Nat → Nat
  | [] => 0
  | [a] => a
  | _ :: b :: bs => lastN (b :: bs)
def levs : Nat → List (List Nat)
  | 0 => [[0]]
  | n + 1 => (levs n).flatMap fun t => grow1 t (lastN t) (lastN t + 1)
end Go.Proofs.YtdjhfeaimmpmhaaGreat

