/- The walks of the laws' small functions over lists of lists and tableaus. | Arithmetic modulo 10007, plain. No program in sight. | The walks of the arithmetic of the program and of the reference: num, pow, inv and their like. | Scaling a list: plain words, and append as a step of a region that draws. -/
import Derived.Test.YtngdpoeondnchaaGreatRows
import Derived.Test.YtngdpoeondnchaaGreatR1
import Derived.WalkLawsBesides
import Derived.Deep.QuietTactic
import Derived.BigQuiet
import Derived.Deep.RegionHeld3
import Derived.Deep.RegionLaw
set_option linter.unusedVariables false
set_option linter.unusedSimpArgs false
namespace Go.Proofs.YtngdpoeondnchaaGreat
open Go.RowKit

theorem T_row : ElemT Tryz.prog 54 27 (.slice none 0 0) 24 := ⟨Tryz.underlying54, by kernel_rfl, rfl, by omega⟩

abbrev tI : TypeId := 2
abbrev tL : TypeId := 27

/-- a tableau that came in -/
def TabArg (w : World) (v : Value) (A : List (List Int)) (Bs : List Int) : Prop := ∃ va vb, v = .agg #[va, vb] ∧ Rows w va A ∧ Ints w vb Bs
/-- an owned tableau: the rows, the row of rows and the weights lie in blocks of their own -/
def OT (w : World) (B C : Nat) (v : Value) (A : List (List Int)) (Bs : List Int) : Prop :=
  ∃ va vb vs, v = .agg #[va, vb] ∧ Own w B tL va vs ∧ (∀ b, va.ownBlock = some b → b < C) ∧ RowsOwn w B C tI vs A ∧ OI w B C tI vb Bs ∧ ∀ (k : Nat) (u : Value), vs[k]? = some u → Apart u vb

section
variable {w w' : World} {B C B' C' : Nat} {v : Value} {A : List (List Int)} {Bs : List Int}
theorem TabArg.below (h : TabArg w v A Bs) (hb : Below w.heap.size w w') : TabArg w' v A Bs := by
  obtain ⟨va, vb, rfl, h1, h2⟩ := h
  exact ⟨va, vb, rfl, h1.below hb, h2.below hb⟩
theorem TabArg.drewN (h : TabArg w v A Bs) (n : Nat) : TabArg (w.drewN n) v A Bs := h
theorem OT.arg (h : OT w B C v A Bs) : TabArg w v A Bs := by
  obtain ⟨va, vb, vs, rfl, h1, h2, h3, h4, h5⟩ := h
  exact ⟨va, vb, rfl, OR.rows ⟨vs, h1, h2, h3⟩, h4.ints⟩
theorem OT.below (h : OT w B C v A Bs) (hb : Below w.heap.size w w') : OT w' B C v A Bs := by
  obtain ⟨va, vb, vs, rfl, h1, h2, h3, h4, h5⟩ := h
  exact ⟨va, vb, vs, rfl, h1.below hb, h2, h3.below hb, h4.below hb, h5⟩
theorem OT.drewN (h : OT w B C v A Bs) (n : Nat) : OT (w.drewN n) B C v A Bs := h
theorem OT.kept (h : OT w B C v A Bs) (hc : Chg B' C' w w') (hd : C ≤ B' ∨ C' ≤ B) : OT w' B C v A Bs := by
  obtain ⟨va, vb, vs, rfl, h1, h2, h3, h4, h5⟩ := h
  exact ⟨va, vb, vs, rfl, h1.of_block fun b hb => hc.block b (h1.lt b hb) (by have := h1.ge b hb; have := h2 b hb; omega), h2, h3.kept hc hd, h4.kept hc hd, h5⟩
theorem OT.mono (h : OT w B C v A Bs) (h1 : B' ≤ B) (h2 : C ≤ C') : OT w B' C' v A Bs := by
  obtain ⟨va, vb, vs, rfl, g1, g2, g3, g4, g5⟩ := h
  exact ⟨va, vb, vs, rfl, g1.mono h1, fun b hb => Nat.lt_of_lt_of_le (g2 b hb) h2, g3.mono h1 h2, g4.mono h1 h2, g5⟩
theorem RowsOwn.apart {M : Nat} {vs : List Value} {u' : Value} {e : TypeId} (h : RowsOwn w B C e vs A) (hu : ∀ b, u'.ownBlock = some b → C ≤ b ∨ b < B) : ∀ (k : Nat) (u : Value), vs[k]? = some u → Apart u u' := by
  intro k u hk
  have hx : A[k]? = some (A[k]'(by rw [← h.1]; exact (List.getElem?_eq_some_iff.1 hk).1)) := List.getElem?_eq_getElem _
  have ho := h.2.1 k u _ hk hx
  unfold Apart
  cases hb : u.ownBlock with
  | none => exact .inl rfl
  | some b =>
    refine .inr fun e => ?_
    have h1 := ho.2 b hb
    have h2 := ho.1.1.ge b hb
    have h3 := hu b e.symm
    omega
end

theorem OT.open_ {w : World} {B C : Nat} {v : Value} {A : List (List Int)} {Bs : List Int} (h : OT w B C v A Bs) : ∃ Aa ca Ab cb, v = .agg #[.slice Aa A.length ca, .slice Ab Bs.length cb] := by
  obtain ⟨va, vb, rfl, h1, h2⟩ := h.arg
  obtain ⟨Aa, ca, rfl, _⟩ := h1.open_
  obtain ⟨Ab, cb, rfl, _⟩ := h2.open_
  exact ⟨_, _, _, _, rfl⟩
theorem TabArg.open_ {w : World} {v : Value} {A : List (List Int)} {Bs : List Int} (h : TabArg w v A Bs) : ∃ Aa ca Ab cb, v = .agg #[.slice Aa A.length ca, .slice Ab Bs.length cb] := by
  obtain ⟨va, vb, rfl, h1, h2⟩ := h
  obtain ⟨Aa, ca, rfl, _⟩ := h1.open_
  obtain ⟨Ab, cb, rfl, _⟩ := h2.open_
  exact ⟨_, _, _, _, rfl⟩
end Go.Proofs.YtngdpoeondnchaaGreat

set_option linter.unusedVariables false
set_option linter.unusedSimpArgs false
namespace Go.Proofs.YtngdpoeondnchaaGreat

theorem tmod_num (n : Int) : (n.tmod 10007 + 10007) % 10007 = n % 10007 := by
  rw [Int.tmod_eq_emod (a := n)]
  split <;> omega

/-- a to the k-th, modulo 10007 -/
def pw (a : Int) (k : Nat) : Int := a ^ k % 10007

theorem pw_step (out a k0 : Int) (k : Nat) (hk : 0 < k) (h : (out * a ^ k) % 10007 = k0) :
    (k % 2 = 1 → ((out * a % 10007) * (a * a % 10007) ^ (k / 2)) % 10007 = k0) ∧ (k % 2 = 0 → (out * (a * a % 10007) ^ (k / 2)) % 10007 = k0) := by
  have hs : ∀ (x : Int) (n : Nat), ((x % 10007) ^ n) % 10007 = (x ^ n) % 10007 := by
    intro x n
    rw [Int.emod_emod_of_dvd _ (Int.dvd_refl _) |>.symm]
    induction n with
    | zero => simp
    | succ n ih =>
      rw [Int.pow_succ, Int.pow_succ, Int.mul_emod, Int.emod_emod_of_dvd _ (Int.dvd_refl _), Int.mul_emod (x ^ n)]
      simp only [Int.emod_emod_of_dvd _ (Int.dvd_refl _)] at ih ⊢
      rw [ih]
  have hsq : ∀ n : Nat, (a * a) ^ n = a ^ (2 * n) := by
    intro n
    induction n with
    | zero => simp
    | succ n ih => rw [Int.pow_succ, ih, show 2 * (n + 1) = 2 * n + 1 + 1 from by omega, Int.pow_succ, Int.pow_succ, Int.mul_assoc]
  constructor
  · intro hodd
    rw [Int.mul_emod, hs, Int.emod_emod_of_dvd _ (Int.dvd_refl _), ← Int.mul_emod, hsq, Int.mul_assoc, ← h]
    congr 2
    rw [show k = 2 * (k / 2) + 1 from by omega, Int.pow_succ, Int.mul_comm a]
    rw [show (2 * (k / 2) + 1) / 2 = k / 2 from by omega]
  · intro hev
    rw [Int.mul_emod, hs, ← Int.mul_emod, hsq, ← h]
    congr 3
    omega

theorem mul_bd {x y : Int} (A B : Int) (h0 : 0 ≤ x) (h1 : x ≤ A) (g0 : 0 ≤ y) (g1 : y ≤ B) : 0 ≤ x * y ∧ x * y ≤ A * B :=
  ⟨Int.mul_nonneg h0 g0, Int.mul_le_mul h1 g1 g0 (Int.le_trans h0 h1)⟩

/-- lo ≤ n ≤ hi, as a test -/
def inR (n lo hi : Int) : Bool := decide (lo ≤ n) && decide (n ≤ hi)
theorem inR_iff {n lo hi : Int} : inR n lo hi = true ↔ lo ≤ n ∧ n ≤ hi := by simp [inR]
def isNum (z : Int) : Bool := inR z 0 10006
def nums (zs : List Int) : Bool := zs.all isNum
theorem nums_iff {zs : List Int} : nums zs = true ↔ ∀ z ∈ zs, 0 ≤ z ∧ z ≤ 10006 := by simp [nums, isNum, inR_iff]
/-- the first index at which p holds, or -1 -/
def idxF {α : Type} (p : α → Bool) (l : List α) : Int := match l.findIdx? p with | some i => (i : Int) | none => -1
theorem idxF_hit {α : Type} {p : α → Bool} {l : List α} {k : Nat} {x : α} (h : ∀ i y, i < k → l[i]? = some y → p y = false) (hx : l[k]? = some x) (hp : p x = true) : idxF p l = (k : Int) := by
  have : l.findIdx? p = some k := by
    rw [List.findIdx?_eq_some_iff_getElem]
    obtain ⟨hk, e⟩ := List.getElem?_eq_some_iff.1 hx
    refine ⟨hk, by rw [e]; exact hp, fun j hj => ?_⟩
    have hj' : j < l.length := by omega
    simp [h j l[j] hj (List.getElem?_eq_getElem hj')]
  simp [idxF, this]
theorem idxF_miss {α : Type} {p : α → Bool} {l : List α} (h : ∀ i y, i < l.length → l[i]? = some y → p y = false) : idxF p l = -1 := by
  have : l.findIdx? p = none := by
    rw [List.findIdx?_eq_none_iff]
    intro x hx
    obtain ⟨i, hi, rfl⟩ := List.getElem_of_mem hx
    simpa using h i l[i] hi (List.getElem?_eq_getElem hi)
  simp [idxF, this]
theorem idxF_nonneg {α : Type} (p : α → Bool) (l : List α) : decide (0 ≤ idxF p l) = l.any p := by
  unfold idxF
  cases h : l.findIdx? p with
  | none =>
    rw [List.findIdx?_eq_none_iff] at h
    have : l.any p = false := by rw [List.any_eq_false]; intro x hx; simp [h x hx]
    rw [this]; decide
  | some i =>
    rw [List.findIdx?_eq_some_iff_getElem] at h
    obtain ⟨hk, e, _⟩ := h
    have : l.any p = true := List.any_eq_true.2 ⟨_, List.getElem_mem hk, e⟩
    rw [this]; simp
theorem any_not_nums (zs : List Int) : (zs.any fun z => !isNum z) = !nums zs := by
  unfold nums
  induction zs with
  | nil => rfl
  | cons z zs ih => simp only [List.any_cons, List.all_cons, ih]; cases isNum z <;> simp
theorem nums_false {zs : List Int} {k : Nat} {z : Int} (h : zs[k]? = some z) (hz : isNum z = false) : nums zs = false := by
  unfold nums
  rw [List.all_eq_false]
  exact ⟨z, List.mem_of_getElem? h, by simp [hz]⟩
theorem nums_all {zs : List Int} (h : ∀ i y, i < zs.length → zs[i]? = some y → isNum y = true) : nums zs = true := by
  unfold nums
  rw [List.all_eq_true]
  intro x hx
  obtain ⟨i, hi, rfl⟩ := List.getElem_of_mem hx
  exact h i _ hi (List.getElem?_eq_getElem hi)

/-- the sum of a function over a list -/
def sumF {α : Type} (f : α → Int) : List α → Int
  | [] => 0
  | x :: xs => f x + sumF f xs
theorem sumF_snoc {α : Type} (f : α → Int) (l : List α) (x : α) : sumF f (l ++ [x]) = sumF f l + f x := by
  induction l with
  | nil => simp [sumF]
  | cons y l ih => simp only [List.cons_append, sumF, ih]; omega
theorem sumF_take {α : Type} (f : α → Int) {l : List α} {k : Nat} {x : α} (h : l[k]? = some x) : sumF f (l.take (k + 1)) = sumF f (l.take k) + f x := by
  rw [List.take_add_one, h]
  exact sumF_snoc f _ x
theorem sumF_bd {α : Type} (f : α → Int) (M : Int) (l : List α) (h : ∀ x ∈ l, 0 ≤ f x ∧ f x ≤ M) : 0 ≤ sumF f l ∧ sumF f l ≤ l.length * M := by
  induction l with
  | nil => simp [sumF]
  | cons y l ih =>
    have h1 := h y (by simp)
    have h2 := ih fun x hx => h x (by simp [hx])
    simp only [sumF, List.length_cons]
    rw [show ((l.length + 1 : Nat) : Int) * M = l.length * M + M by rw [Int.natCast_add, Int.add_mul]; simp]
    omega
theorem pw_bd (a : Int) (k : Nat) : 0 ≤ pw a k ∧ pw a k ≤ 10006 := by unfold pw; omega

end Go.Proofs.YtngdpoeondnchaaGreat

set_option linter.unusedVariables false
set_option linter.unusedSimpArgs false
namespace Go.Proofs.YtngdpoeondnchaaGreat
open Go.RowKit

set_option maxHeartbeats 400000 in
theorem i_num (n : Int) (w : World) (h0 : -4000000000000000000 ≤ n) (h1 : n ≤ 4000000000000000000) :
    Calls Tryz.prog 103 #[.int .i64 n] w fun e w' => e = .returned (.int .i64 (n % 10007)) ∧ w = w' := by
  have h2 : -10007 < n.tmod 10007 := by rw [Int.tmod_eq_emod]; split <;> omega
  have h3 : n.tmod 10007 < 10007 := by rw [Int.tmod_eq_emod]; split <;> omega
  have HT := Lib.hid (tmod_num n)
  go_enter Tryz.func103, Tryz.ntmps103
  go_wp2
  go_ret
  exact ⟨ret_int HT.out, rfl⟩

set_option maxHeartbeats 400000 in
theorem s_l01Mod (n : Int) (w : World) (h0 : -4000000000000000000 ≤ n) (h1 : n ≤ 4000000000000000000) :
    Calls Tryz.prog 117 #[.int .i64 n] w fun e w' => e = .returned (.int .i64 (n % 10007)) ∧ w = w' := by
  have h2 : -10007 < n.tmod 10007 := by rw [Int.tmod_eq_emod]; split <;> omega
  have h3 : n.tmod 10007 < 10007 := by rw [Int.tmod_eq_emod]; split <;> omega
  have HT := Lib.hid (tmod_num n)
  go_enter Tryz.func117, Tryz.ntmps117
  go_wp2
  go_ret
  exact ⟨ret_int HT.out, rfl⟩

set_option maxHeartbeats 400000 in
theorem s_l01Mul (a b : Int) (w : World) (h0 : 0 ≤ a) (h1 : a ≤ 2000000000) (g0 : 0 ≤ b) (g1 : b ≤ 2000000000) :
    Calls Tryz.prog 96 #[.int .i64 a, .int .i64 b] w fun e w' => e = .returned (.int .i64 (a * b % 10007)) ∧ w = w' := by
  obtain ⟨p1, p2⟩ := mul_bd 2000000000 2000000000 h0 h1 g0 g1
  go_enter Tryz.func96, Tryz.ntmps96
  go_wp2_with (go_at_call 117; refine (s_l01Mod _ _ (by omega) (by omega)).mono ?_; rintro e w' ⟨rfl, rfl⟩)
  go_ret
  exact ⟨rfl, rfl⟩

set_option maxHeartbeats 400000 in
theorem s_l01Add (a b : Int) (w : World) (h0 : -2000000000000000000 ≤ a) (h1 : a ≤ 2000000000000000000) (g0 : -2000000000000000000 ≤ b) (g1 : b ≤ 2000000000000000000) :
    Calls Tryz.prog 119 #[.int .i64 a, .int .i64 b] w fun e w' => e = .returned (.int .i64 ((a + b) % 10007)) ∧ w = w' := by
  go_enter Tryz.func119, Tryz.ntmps119
  go_wp2_with (go_at_call 117; refine (s_l01Mod _ _ (by omega) (by omega)).mono ?_; rintro e w' ⟨rfl, rfl⟩)
  go_ret
  exact ⟨rfl, rfl⟩

set_option maxHeartbeats 400000 in
theorem s_l01Sub (a b : Int) (w : World) (h0 : -2000000000000000000 ≤ a) (h1 : a ≤ 2000000000000000000) (g0 : -2000000000000000000 ≤ b) (g1 : b ≤ 2000000000000000000) :
    Calls Tryz.prog 97 #[.int .i64 a, .int .i64 b] w fun e w' => e = .returned (.int .i64 ((a - b) % 10007)) ∧ w = w' := by
  go_enter Tryz.func97, Tryz.ntmps97
  go_wp2_with (go_at_call 117; refine (s_l01Mod _ _ (by omega) (by omega)).mono ?_; rintro e w' ⟨rfl, rfl⟩)
  go_ret
  exact ⟨rfl, rfl⟩

set_option maxHeartbeats 400000 in
theorem i_pow (a k : Int) (w : World) (h0 : 0 ≤ a) (h1 : a ≤ 2000000000) (g0 : 0 ≤ k) (g1 : k ≤ 2000000000) :
    Calls Tryz.prog 100 #[.int .i64 a, .int .i64 k] w fun e w' => e = .returned (.int .i64 (pw a k.toNat)) ∧ w = w' := by
  go_enter Tryz.func100, Tryz.ntmps100
  go_wp2
  go_loop [0, 1, 5] (fun x y z => ∃ (b out : Int) (j : Nat), x = .int .i64 b ∧ y = .int .i64 j ∧ z = .int .i64 out ∧ 0 ≤ b ∧ b ≤ 2000000000 ∧ j ≤ 2000000000 ∧ 0 ≤ out ∧ out ≤ 10006 ∧ Hid ((out * b ^ j) % 10007 = pw a k.toNat)) (fun _ y _ => (intOf y).toNat)
  case atStart => exact ⟨a, 1, k.toNat, rfl, by rw [Int.toNat_of_nonneg g0], rfl, h0, h1, by omega, by omega, by omega, by unfold Hid pw; rw [Int.one_mul]⟩
  case round =>
    obtain ⟨b, out, j, rfl, rfl, rfl, b0, b1, j1, o0, o1, hI⟩ := hrel
    clear h0 h1 g0 g1
    by_cases hj : 0 < j
    · obtain ⟨p1, p2⟩ := mul_bd 10006 2000000000 o0 o1 b0 b1
      obtain ⟨q1, q2⟩ := mul_bd 2000000000 2000000000 b0 b1 b0 b1
      have hst := Lib.hid (pw_step out b _ j hj hI.out)
      by_cases hodd : j % 2 = 1
      · have hb : (((j : Int) % 2) == 1) = true := by simp; omega
        clear hodd
        go_wp2_with (go_at_call 103; refine (i_num _ _ (by omega) (by omega)).mono ?_; rintro e w' ⟨rfl, rfl⟩)
        go_round
        case rel => exact ⟨_, _, j / 2, rfl, by go_num, rfl, by omega, by omega, by omega, by omega, by omega, hst.out.1 (by simp at hb; omega)⟩
        case measure => simp [intOf]; omega
      · have hb : (((j : Int) % 2) == 1) = false := by simp; omega
        clear hodd
        go_wp2_with (go_at_call 103; refine (i_num _ _ (by omega) (by omega)).mono ?_; rintro e w' ⟨rfl, rfl⟩)
        go_round
        case rel => exact ⟨_, _, j / 2, rfl, by go_num, rfl, by omega, by omega, by omega, by omega, by omega, hst.out.2 (by simp at hb; omega)⟩
        case measure => simp [intOf]; omega
    · obtain rfl : j = 0 := by omega
      go_wp2
      go_ret
      refine ⟨ret_int ?_, rfl⟩
      have := hI.out
      rw [← this]
      simp
      omega

set_option maxHeartbeats 400000 in
theorem s_l01Pow (a k : Int) (w : World) (h0 : 0 ≤ a) (h1 : a ≤ 2000000000) (g0 : 0 ≤ k) (g1 : k ≤ 2000000000) :
    Calls Tryz.prog 95 #[.int .i64 a, .int .i64 k] w fun e w' => e = .returned (.int .i64 (pw a k.toNat)) ∧ w = w' := by
  go_enter Tryz.func95, Tryz.ntmps95
  go_wp2
  go_loop [0, 1, 5] (fun x y z => ∃ (b out : Int) (j : Nat), x = .int .i64 b ∧ y = .int .i64 j ∧ z = .int .i64 out ∧ 0 ≤ b ∧ b ≤ 2000000000 ∧ j ≤ 2000000000 ∧ 0 ≤ out ∧ out ≤ 10006 ∧ Hid ((out * b ^ j) % 10007 = pw a k.toNat)) (fun _ y _ => (intOf y).toNat)
  case atStart => exact ⟨a, 1, k.toNat, rfl, by rw [Int.toNat_of_nonneg g0], rfl, h0, h1, by omega, by omega, by omega, by unfold Hid pw; rw [Int.one_mul]⟩
  case round =>
    obtain ⟨b, out, j, rfl, rfl, rfl, b0, b1, j1, o0, o1, hI⟩ := hrel
    clear h0 h1 g0 g1
    by_cases hj : 0 < j
    · have hst := Lib.hid (pw_step out b _ j hj hI.out)
      by_cases hodd : j % 2 = 1
      · have hb : (((j : Int) % 2) == 1) = true := by simp; omega
        clear hodd
        go_wp2_with (go_at_call 96; refine (s_l01Mul _ _ _ (by omega) (by omega) (by omega) (by omega)).mono ?_; rintro e w' ⟨rfl, rfl⟩)
        go_round
        case rel => exact ⟨_, _, j / 2, rfl, by go_num, rfl, by omega, by omega, by omega, by omega, by omega, hst.out.1 (by simp at hb; omega)⟩
        case measure => simp [intOf]; omega
      · have hb : (((j : Int) % 2) == 1) = false := by simp; omega
        clear hodd
        go_wp2_with (go_at_call 96; refine (s_l01Mul _ _ _ (by omega) (by omega) (by omega) (by omega)).mono ?_; rintro e w' ⟨rfl, rfl⟩)
        go_round
        case rel => exact ⟨_, _, j / 2, rfl, by go_num, rfl, by omega, by omega, by omega, by omega, by omega, hst.out.2 (by simp at hb; omega)⟩
        case measure => simp [intOf]; omega
    · obtain rfl : j = 0 := by omega
      go_wp2
      go_ret
      refine ⟨ret_int ?_, rfl⟩
      have := hI.out
      rw [← this]
      simp
      omega

set_option maxHeartbeats 400000 in
theorem i_inv (a : Int) (w : World) (h0 : 0 ≤ a) (h1 : a ≤ 2000000000) :
    Calls Tryz.prog 81 #[.int .i64 a] w fun e w' => e = .returned (.int .i64 (pw a 10005)) ∧ w = w' := by
  go_enter Tryz.func81, Tryz.ntmps81
  go_wp2_with (go_at_call 100; refine (i_pow _ _ _ (by omega) (by omega) (by omega) (by omega)).mono ?_; rintro e w' ⟨rfl, rfl⟩)
  go_ret
  exact ⟨rfl, rfl⟩

set_option maxHeartbeats 400000 in
theorem s_l01Inv (a : Int) (w : World) (h0 : 0 ≤ a) (h1 : a ≤ 2000000000) :
    Calls Tryz.prog 98 #[.int .i64 a] w fun e w' => e = .returned (.int .i64 (pw a 10005)) ∧ w = w' := by
  go_enter Tryz.func98, Tryz.ntmps98
  go_wp2_with (go_at_call 95; refine (s_l01Pow _ _ _ (by omega) (by omega) (by omega) (by omega)).mono ?_; rintro e w' ⟨rfl, rfl⟩)
  go_ret
  exact ⟨rfl, rfl⟩

end Go.Proofs.YtngdpoeondnchaaGreat

set_option linter.unusedVariables false
set_option linter.unusedSimpArgs false
namespace Go.Proofs.YtngdpoeondnchaaGreat
open Go.RowKit

/-- append of one element, met in a region that draws -/
theorem step_app1 {P : Program} {ops : Array Oper} {o : Oper} {a : Act} {K : Act → World → Prop} {Q : Exit → Act → World → Prop} {E : Prop} {s x : Operand} {t : TypeId}
    {e : TypeId} {z : Value} {bytes : Nat} {B : Nat} {v : Value} {vs : List Value} {W : World} {u : Value}
    (T : ElemT P t e z bytes) (hown : Own W B e v vs) (hlen : vs.length < 1099511627776) (hB : B ≤ W.heap.size) (hu : u.oneCell' = true)
    (hgd : o.guard = none) (ho : o.op = .call { callee := .builtin .append, args := #[s, x], argTypes := #[t, t] }) (hs : a.eval s = v)
    (hx : a.eval x = .slice (some ⟨W.heap.size, 0, none⟩) 1 1)
    (h : ∀ v' w', Own w' B e v' (vs ++ [u]) → Grow W w' v v' → K (a.put o.dst v') w') :
    if Region.wanted o (yielded ops a.tmps) = true then Oper.wp P o a (W.alloc (.cells #[u] e)) K Q else E := by
  have hw : Region.wanted o (yielded ops a.tmps) = true := by simp [Region.wanted, hgd]
  rw [if_pos hw]
  obtain ⟨i, hi, hz, h1, h2⟩ := info_parts T.info
  have hby := T.small
  obtain ⟨v', w', hrun, r1, r2, _, r3⟩ := run_append_own_at (P := P) (W.alloc (.cells #[u] e)) B t o.type e i z 1 bytes T.under hi hz h1 h2 (by rw [T.one]; rfl) (by omega) v vs.length vs (hown.alloc _) ⟨W.heap.size, 0, none⟩ 1 1 [u] rfl
    (fun j u' hj => by
      cases j with
      | zero =>
        simp at hj; subst hj
        have e0 : (⟨W.heap.size, 0, none⟩ : Addr).add 0 = ⟨W.heap.size, 0, none⟩ := rfl
        rw [e0, World.cell?_alloc_at _ _ _ _ rfl]
        rfl
      | succ j => simp at hj) (by simpa using hu) (by simp only [maxLen]; omega) (by have := Nat.mul_le_mul_left (vs.length + 1) hby; omega) (by simp; omega)
  unfold Oper.wp execOp
  simp only [ho, resolve, invoke, builtin, Sem.run_bind, Sem.run_pure, Result.andThen_ok, List.map_toArray, List.map_cons, List.map_nil, hs, hx, hrun]
  refine h v' w' ?_ ⟨?_, ?_⟩
  · unfold Own; simpa using r1
  · refine ⟨r2.os, r2.tape, r2.output, ?_, fun k hk hne => ?_⟩
    · have := r2.size; simp at this; omega
    · rw [r2.block k (by simp; omega) hne]
      exact Below.heap_alloc _ _ _ hk
  · rcases r3 with r3 | r3
    · exact .inl r3
    · exact .inr ⟨_, r3, by simp⟩

def Nums (zs : List Int) : Prop := ∀ z ∈ zs, 0 ≤ z ∧ z ≤ 10006
end Go.Proofs.YtngdpoeondnchaaGreat

