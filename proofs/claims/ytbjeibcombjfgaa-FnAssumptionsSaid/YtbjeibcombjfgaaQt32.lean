/- Plain: the tests of the conditions B, C and D as the program and the reference reckon them. No walk. | A list that grows by append while older blocks, and newer ones that were laid behind its first block, are read. No walk. -/
import Derived.Test.YtbjeibcombjfgaaQt31
import Derived.Test.YtbjeibcombjfgaaQt15
import Derived.Test.YtbjeibcombjfgaaQt3
set_option maxRecDepth 100000
set_option linter.unusedVariables false
set_option linter.unusedSimpArgs false
namespace Go.Proofs.Ytbjeibcombjfgaa
open Go.RowKit

def cN (A : List (List Int)) (i : Nat) : Int := (nodesOf A).getD i 0
theorem sR_getD : ∀ r : List Int, sR r.length (fun k => r.getD k 0) = sumF id r
  | [] => rfl
  | x :: r => by
    rw [List.length_cons, sR_first]
    have h := sR_getD r
    show x + sR r.length (fun k => r.getD k 0) = id x + sumF id r
    rw [h]; rfl
theorem cN_bd (A : List (List Int)) (i : Nat) : 0 ≤ cN A i ∧ cN A i ≤ 10006 := getD_bd (nodesOf_nums A) i
theorem cN_is {A : List (List Int)} {B : List Int} {s i : Nat} (h : SqT A B s) (hi : i < s) : sR s (fun k => fT A i k) % 10007 = cN A i % 10007 := by
  have e : cN A i = nodeOf (A.getD i []) := getD_mapT nodeOf (by rw [h.la]; exact hi) [] 0
  have g := sR_getD (A.getD i [])
  rw [(h.row hi).2] at g
  rw [e]
  unfold nodeOf fT
  rw [g, Int.emod_emod_of_dvd _ (Int.dvd_refl _)]
theorem pw_at (c : Int) (e : Nat) (b : Int) : b * pw c e % 10007 % 10007 = b * c ^ e % 10007 := by
  unfold pw
  rw [Int.emod_emod_of_dvd _ (Int.dvd_refl _)]
  exact mulm rfl (Int.emod_emod_of_dvd _ (Int.dvd_refl _))
theorem dec_congr {p q : Prop} [Decidable p] [Decidable q] (h : p ↔ q) : decide p = decide q := by
  by_cases hp : p
  · rw [decide_eq_true hp, decide_eq_true (h.1 hp)]
  · rw [decide_eq_false hp, decide_eq_false (fun hq => hp (h.2 hq))]
/-! ### B -/
def wE (A : List (List Int)) (B : List Int) (k i : Nat) : Int := fB B i * pw (cN A i) (k - 1) % 10007
def asB (A : List (List Int)) (B : List Int) (k : Nat) : Bool := decide (sR B.length (wE A B k) * (k : Int) % 10007 = 1)
theorem wE_bd (A : List (List Int)) (B : List Int) (k i : Nat) : 0 ≤ wE A B k i ∧ wE A B k i ≤ 10006 := by unfold wE; omega
theorem asB_is (A : List (List Int)) (B : List Int) (k : Nat) : asB A B k = mB B.length (fB B) (cN A) k := by
  unfold asB mB
  refine dec_congr ?_
  have e : sR B.length (wE A B k) % 10007 = sR B.length (fun i => fB B i * cN A i ^ (k - 1)) % 10007 := sR_mod fun i hi => pw_at _ _ _
  rw [Int.mul_comm, mulm (a := (k : Int)) (c := (k : Int)) rfl e]
/-! ### C -/
def pwL (A : List (List Int)) (e : Nat) : List Int := (nodesOf A).map fun c => pw c e
theorem pwL_len (A : List (List Int)) (e : Nat) : (pwL A e).length = A.length := by unfold pwL; rw [List.length_map, nodesOf_len]
theorem pwL_nums (A : List (List Int)) (e : Nat) : Nums (pwL A e) := by
  intro z hz
  obtain ⟨c, -, rfl⟩ := List.mem_map.1 hz
  exact pw_bd c e
theorem pwL_get {A : List (List Int)} {i : Nat} (hi : i < A.length) (e : Nat) : (pwL A e).getD i 0 = pw (cN A i) e := getD_mapT (fun c => pw c e) (by rw [nodesOf_len]; exact hi) 0 0
def asC (A : List (List Int)) (k i : Nat) : Bool := decide (dtZ (A.getD i []) (pwL A (k - 1)) * (k : Int) % 10007 = pw (cN A i) k)
theorem asC_is {A : List (List Int)} {B : List Int} {s i : Nat} (h : SqT A B s) (hi : i < s) (k : Nat) : asC A k i = decide (((k : Int) * sR s (fun j => fT A i j * cN A j ^ (k - 1))) % 10007 = cN A i ^ k % 10007) := by
  unfold asC
  refine dec_congr ?_
  have e : dtZ (A.getD i []) (pwL A (k - 1)) % 10007 = sR s (fun j => fT A i j * cN A j ^ (k - 1)) % 10007 := by
    unfold dtZ
    rw [Int.emod_emod_of_dvd _ (Int.dvd_refl _), (h.row hi).2]
    refine sR_mod fun j hj => ?_
    unfold dtF
    rw [pwL_get (by rw [h.la]; exact hj)]
    unfold pw
    exact mulm rfl (Int.emod_emod_of_dvd _ (Int.dvd_refl _))
  rw [Int.mul_comm, mulm (a := (k : Int)) (c := (k : Int)) rfl e]
  rfl
def asCs (A : List (List Int)) (s k : Nat) : Bool := (List.range s).all fun i => asC A k i
theorem all_congr {s : Nat} {f g : Nat → Bool} (h : ∀ i, i < s → f i = g i) : (List.range s).all f = (List.range s).all g := by
  rw [Bool.eq_iff_iff, List.all_eq_true, List.all_eq_true]
  exact ⟨fun a x hx => by rw [← h x (List.mem_range.1 hx)]; exact a x hx, fun a x hx => by rw [h x (List.mem_range.1 hx)]; exact a x hx⟩
theorem asCs_is {A : List (List Int)} {B : List Int} {s : Nat} (h : SqT A B s) (k : Nat) : asCs A s k = mC s (fT A) (cN A) k := all_congr fun i hi => asC_is h hi k
/-! ### D -/
def dE (A : List (List Int)) (B : List Int) (k j i : Nat) : Int := wE A B k i * fT A i j % 10007
theorem dE_bd (A : List (List Int)) (B : List Int) (k j i : Nat) : 0 ≤ dE A B k j i ∧ dE A B k j i ≤ 10006 := by unfold dE; omega
def asD (A : List (List Int)) (B : List Int) (k j : Nat) : Bool := decide (sR B.length (dE A B k j) * (k : Int) % 10007 = fB B j * ((1 - pw (cN A j) k) % 10007) % 10007)
theorem dE_mod (A : List (List Int)) (B : List Int) (k j i : Nat) : dE A B k j i % 10007 = fB B i * cN A i ^ (k - 1) * fT A i j % 10007 := by
  unfold dE
  rw [Int.emod_emod_of_dvd _ (Int.dvd_refl _)]
  exact mulm (pw_at _ _ _) rfl
theorem one_pw (c : Int) (k : Nat) (b : Int) : b * ((1 - pw c k) % 10007) % 10007 = b * (1 - c ^ k) % 10007 := mulm rfl (by unfold pw; omega)
theorem asD_is {A : List (List Int)} {B : List Int} (k j : Nat) : asD A B k j = decide (((k : Int) * sR B.length (fun i => fB B i * cN A i ^ (k - 1) * fT A i j)) % 10007 = fB B j * (1 - cN A j ^ k) % 10007) := by
  unfold asD
  refine dec_congr ?_
  have e : sR B.length (dE A B k j) % 10007 = sR B.length (fun i => fB B i * cN A i ^ (k - 1) * fT A i j) % 10007 := sR_mod fun i hi => dE_mod A B k j i
  rw [Int.mul_comm, mulm (a := (k : Int)) (c := (k : Int)) rfl e, one_pw]
def asDs (A : List (List Int)) (B : List Int) (k : Nat) : Bool := (List.range B.length).all fun j => asD A B k j
theorem asDs_is (A : List (List Int)) (B : List Int) (k : Nat) : asDs A B k = mD B.length (fT A) (fB B) (cN A) k := all_congr fun j hj => asD_is k j
/-! ### all three -/
/-- the test of a kind -/
def asM (A : List (List Int)) (B : List Int) (kind : Int) (k : Nat) : Bool := if kind = 0 then asB A B k else if kind = 1 then asCs A B.length k else asDs A B k
/-- up to which number it holds -/
def oM (A : List (List Int)) (B : List Int) (kind : Int) : Nat := cndO (asM A B kind)
theorem oM_le (A : List (List Int)) (B : List Int) (kind : Int) : oM A B kind ≤ 16 := cndO_le _
theorem oM_hit {A : List (List Int)} {B : List Int} {kind : Int} {k : Nat} (h1 : 1 ≤ k) (h : ∀ j, 0 < j → j < k → asM A B kind j = true) (hk : k ≤ 16) (hf : asM A B kind k = false) : oM A B kind = k - 1 :=
  cndO_is (by omega) (fun j h0 hj => h j h0 (by omega)) (.inr (by rw [show k - 1 + 1 = k by omega]; exact hf))
theorem oM_miss {A : List (List Int)} {B : List Int} {kind : Int} (h : ∀ j, 0 < j → j < 17 → asM A B kind j = true) : oM A B kind = 16 := cndO_is (Nat.le_refl _) (fun j h0 hj => h j h0 (by omega)) (.inl rfl)
def impM (A : List (List Int)) (B : List Int) : Nat := impO (oM A B 0) (oM A B 1) (oM A B 2)
/-- the order lies between the implied one and that of the quadrature -/
theorem assum_T {A : List (List Int)} {B : List Int} (h : SqT A B B.length) : ((impM A B : Nat) : Int) ≤ agZ (chT A B) EX ∧ agZ (chT A B) EX ≤ ((oM A B 0 : Nat) : Int) := by
  have e0 : oM A B 0 = cndO (mB B.length (fB B) (cN A)) := congrArg cndO (funext fun k => by unfold asM; rw [if_pos rfl]; exact asB_is A B k)
  have e1 : oM A B 1 = cndO (mC B.length (fT A) (cN A)) := congrArg cndO (funext fun k => by unfold asM; rw [if_neg (by omega), if_pos rfl]; exact asCs_is h k)
  have e2 : oM A B 2 = cndO (mD B.length (fT A) (fB B) (cN A)) := congrArg cndO (funext fun k => by unfold asM; rw [if_neg (by omega), if_neg (by omega)]; exact asDs_is A B k)
  unfold impM
  rw [e0, e1, e2]
  exact assum fun i hi => cN_is h hi
/-! ### the reference -/
/-- the left side of the reference's condition -/
def lE (A : List (List Int)) (B : List Int) (kind : Int) (k i j : Nat) : Int := if kind = 0 then fB B j * pw (cN A j) (k - 1) % 10007 else if kind = 1 then fT A i j * pw (cN A j) (k - 1) % 10007 else (fB B j * pw (cN A j) (k - 1) % 10007) * fT A j i % 10007
def lR (A : List (List Int)) (B : List Int) (kind : Int) (k i : Nat) : Int := if kind = 0 then pw k 10005 else if kind = 1 then pw k 10005 * pw (cN A i) k % 10007 else pw k 10005 * (fB B i * ((1 - pw (cN A i) k) % 10007) % 10007) % 10007
def lS (A : List (List Int)) (B : List Int) (kind : Int) (k i : Nat) : Int := (sR B.length (lE A B kind k i) % 10007 - lR A B kind k i) % 10007
theorem rh_zero {k : Nat} (h1 : 1 ≤ k) (h : k ≤ 39) {X R : Int} : (X % 10007 - pw (k : Int) 10005 * R % 10007) % 10007 = 0 ↔ (k : Int) * X % 10007 = R % 10007 := by
  obtain ⟨n, rfl⟩ : ∃ n, k = n + 1 := ⟨k - 1, by omega⟩
  have hr := rh_is (show n < 40 by omega)
  have e : pw ((n + 1 : Nat) : Int) 10005 = rh n := by unfold rh; congr 1
  rw [e]
  have a1 : ∀ x : Int, rh n * (((n : Int) + 1) * x) % 10007 = x % 10007 := fun x => by
    rw [← Int.mul_assoc, Int.mul_comm (rh n), Int.mul_emod, hr, Int.one_mul, Int.emod_emod_of_dvd _ (Int.dvd_refl _)]
  have a2 : ∀ x : Int, ((n : Int) + 1) * (rh n * x) % 10007 = x % 10007 := fun x => by
    rw [← Int.mul_assoc, Int.mul_emod, hr, Int.one_mul, Int.emod_emod_of_dvd _ (Int.dvd_refl _)]
  rw [show ((n + 1 : Nat) : Int) = (n : Int) + 1 by omega]
  constructor
  · intro h0
    have hx : X % 10007 = rh n * R % 10007 := by omega
    rw [mulm (a := (n : Int) + 1) (c := (n : Int) + 1) rfl hx, a2]
  · intro h0
    have hx : X % 10007 = rh n * R % 10007 := by
      rw [← a1 X]
      exact mulm rfl h0
    omega
theorem lS_zero {A : List (List Int)} {B : List Int} (h : SqT A B B.length) {kind : Int} {k i : Nat} (h1 : 1 ≤ k) (hk : k ≤ 39) (hi : i < B.length) : lS A B kind k i = 0 ↔ (if kind = 0 then asB A B k else if kind = 1 then asC A k i else asD A B k i) = true := by
  unfold lS lR
  by_cases k0 : kind = 0
  · rw [if_pos k0, if_pos k0, asB_is]
    unfold mB
    rw [decide_eq_true_eq]
    have e : sR B.length (lE A B kind k i) % 10007 = sR B.length (fun j => fB B j * cN A j ^ (k - 1)) % 10007 := sR_mod fun j hj => by unfold lE; rw [if_pos k0]; exact pw_at _ _ _
    rw [e, show pw (k : Int) 10005 = pw (k : Int) 10005 * 1 % 10007 by rw [Int.mul_one, pw_self], rh_zero h1 hk]
    rfl
  · rw [if_neg k0, if_neg k0]
    by_cases k1 : kind = 1
    · rw [if_pos k1, if_pos k1, asC_is h hi, decide_eq_true_eq]
      have e : sR B.length (lE A B kind k i) % 10007 = sR B.length (fun j => fT A i j * cN A j ^ (k - 1)) % 10007 := sR_mod fun j hj => by unfold lE; rw [if_neg k0, if_pos k1]; exact pw_at _ _ _
      rw [e, rh_zero h1 hk, pw_self]
      rfl
    · rw [if_neg k1, if_neg k1, asD_is, decide_eq_true_eq]
      have e : sR B.length (lE A B kind k i) % 10007 = sR B.length (fun j => fB B j * cN A j ^ (k - 1) * fT A j i) % 10007 := sR_mod fun j hj => by
        unfold lE; rw [if_neg k0, if_neg k1, Int.emod_emod_of_dvd _ (Int.dvd_refl _)]
        exact mulm (pw_at _ _ _) rfl
      rw [e, rh_zero h1 hk, Int.emod_emod_of_dvd _ (Int.dvd_refl _), one_pw]
/-- a round of the reference's order: all stages of a number -/
theorem lS_all {A : List (List Int)} {B : List Int} (h : SqT A B B.length) (hs : 1 ≤ B.length) {kind : Int} {k : Nat} (h1 : 1 ≤ k) (hk : k ≤ 39) (ha : ∀ i, i < B.length → lS A B kind k i = 0) : asM A B kind k = true := by
  unfold asM
  by_cases k0 : kind = 0
  · have := (lS_zero h h1 hk (i := 0) (by omega)).1 (ha 0 (by omega))
    rw [if_pos k0] at this
    rw [if_pos k0]; exact this
  · rw [if_neg k0]
    by_cases k1 : kind = 1
    · rw [if_pos k1]
      refine List.all_eq_true.2 fun i hi => ?_
      have := (lS_zero h h1 hk (List.mem_range.1 hi)).1 (ha i (List.mem_range.1 hi))
      rw [if_neg k0, if_pos k1] at this
      exact this
    · rw [if_neg k1]
      refine List.all_eq_true.2 fun i hi => ?_
      have := (lS_zero h h1 hk (List.mem_range.1 hi)).1 (ha i (List.mem_range.1 hi))
      rw [if_neg k0, if_neg k1] at this
      exact this
theorem lS_hit {A : List (List Int)} {B : List Int} (h : SqT A B B.length) {kind : Int} {k i : Nat} (h1 : 1 ≤ k) (hk : k ≤ 39) (hi : i < B.length) (ha : lS A B kind k i ≠ 0) : asM A B kind k = false := by
  cases hm : asM A B kind k with
  | false => rfl
  | true =>
    refine absurd ((lS_zero h h1 hk hi).2 ?_) ha
    unfold asM at hm
    by_cases k0 : kind = 0
    · rw [if_pos k0] at hm ⊢; exact hm
    · rw [if_neg k0] at hm ⊢
      by_cases k1 : kind = 1
      · rw [if_pos k1] at hm ⊢
        exact (List.all_eq_true.1 hm) i (List.mem_range.2 hi)
      · rw [if_neg k1] at hm ⊢
        exact (List.all_eq_true.1 hm) i (List.mem_range.2 hi)
end Go.Proofs.Ytbjeibcombjfgaa

set_option linter.unusedVariables false
set_option linter.unusedSimpArgs false
namespace Go.Proofs.Ytbjeibcombjfgaa
open Go.RowKit

theorem ret_bl {a b : Bool} (h : a = b) : Ending.returned (.bool a) = Ending.returned (.bool b) := by rw [h]
/-- wr came from w3 by appends to a list that first lay in block g -/
structure Apd (w3 wr : World) (g : Nat) (o : Value) : Prop where
  gr : w3.grownBy wr (some g)
  ob : ∀ b, o.ownBlock = some b → b = g ∨ w3.heap.size ≤ b
section
variable {w3 wr w5 w6 : World} {g : Nat} {o v1 : Value}
theorem Apd.refl (h : o.ownBlock = some g) : Apd w3 w3 g o := ⟨World.grownBy.refl _ _, fun b hb => .inl (by rw [h] at hb; injection hb with hb; exact hb.symm)⟩
theorem Apd.step (h : Apd w3 wr g o) (hb : Below wr.heap.size wr w5) : Apd w3 w5 g o :=
  ⟨⟨hb.os.trans h.gr.os, hb.tape.trans h.gr.tape, hb.output.trans h.gr.output, Nat.le_trans h.gr.size hb.size, fun k hk hne => (hb.block k (Nat.lt_of_lt_of_le hk h.gr.size)).trans (h.gr.block k hk hne)⟩, h.ob⟩
theorem Apd.app (h : Apd w3 wr g o) (hg : Grow wr w6 o v1) : Apd w3 w6 g v1 := by
  refine ⟨⟨hg.1.os.trans h.gr.os, hg.1.tape.trans h.gr.tape, hg.1.output.trans h.gr.output, Nat.le_trans h.gr.size hg.1.size, fun k hk hne => (hg.1.block k (Nat.lt_of_lt_of_le hk h.gr.size) (fun e => ?_)).trans (h.gr.block k hk hne)⟩, fun b hb => ?_⟩
  · rcases h.ob k e.symm with e2 | e2
    · exact hne (by rw [e2])
    · omega
  · rcases hg.2 with e | ⟨b', e, hle⟩
    · rw [e] at hb; exact h.ob b hb
    · rw [e] at hb
      injection hb with hb
      subst hb
      exact .inr (Nat.le_trans h.gr.size hle)
theorem Apd.cell (h : Apd w3 wr g o) {ad : Addr} {v : Value} (hc : w3.cell? ad = some v) (hne : ad.block ≠ g) : wr.cell? ad = some v := by
  exact h.gr.cell hc (fun e => hne (by injection e))
theorem Apd.ownBlk (h : Apd w3 wr g o) {B : Nat} {e : TypeId} {u : Value} {vs : List Value} (hO : Own w3 B e u vs) (hlt : g < B) : Own wr B e u vs := hO.kept h.gr (by
  cases hb : u.ownBlock with
  | none => exact .inl rfl
  | some b => exact .inr fun e => by injection e with e; have := hO.ge b hb; omega)
theorem Apd.ints (h : Apd w3 wr g o) {B : Nat} {e : TypeId} {u : Value} {zs : List Int} (hO : OwnInts w3 B e u zs) (hlt : g < B) : OwnInts wr B e u zs := ⟨h.ownBlk hO.1 hlt, hO.2⟩
end
end Go.Proofs.Ytbjeibcombjfgaa

