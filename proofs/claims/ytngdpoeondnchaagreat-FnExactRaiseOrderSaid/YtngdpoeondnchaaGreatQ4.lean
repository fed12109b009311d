/- Plain: the convolution by a table of cuts; it is associative, and an inverse on one side is one on the other. No walk. | Words of memory for level lists and lists of them: slices of slices, rows that can be read, branches that grow. -/
import Derived.Test.YtngdpoeondnchaaGreatQ3
import Derived.Test.YtngdpoeondnchaaGreatQ2
set_option maxRecDepth 100000
set_option linter.unusedVariables false
set_option linter.unusedSimpArgs false
namespace Go.Proofs.YtngdpoeondnchaaGreat

/-! ### the convolution over integers -/
theorem blt_lt {a b : Nat} (h : Nat.blt a b = true) : a < b := Nat.le_of_ble_eq_true h
abbrev MCt := (List Nat × Nat) × Nat
def pz (a : Nat → Int) (ps : List Nat) : Int := prodZ (ps.map a)
theorem pz_nil (a : Nat → Int) : pz a [] = 1 := rfl
theorem pz_cons (a : Nat → Int) (p : Nat) (ps : List Nat) : pz a (p :: ps) = a p * pz a ps := rfl
theorem pz_append (a : Nat → Int) (ps qs : List Nat) : pz a (ps ++ qs) = pz a ps * pz a qs := by unfold pz; rw [List.map_append, prodZ_append]
def CP (p : Nat) : List MCt := match p with
  | 0 => [(([], 0), 1)]
  | n + 1 => CTab.getD n []
def cvT (a b : Nat → Int) (x : MCt) : Int := (x.2 : Int) * (pz a x.1.1 * b x.1.2)
def cv (a b : Nat → Int) (p : Nat) : Int := sumF (cvT a b) (CP p)

/-! ### sums and products -/
theorem sumF_mul {α : Type} (g : α → Int) (k : Int) (l : List α) : k * sumF g l = sumF (fun x => k * g x) l := by
  induction l with
  | nil => simp [sumF]
  | cons x l ih => simp only [sumF]; rw [Int.mul_add, ih]
theorem sumF_mulR {α : Type} (g : α → Int) (k : Int) (l : List α) : sumF g l * k = sumF (fun x => g x * k) l := by
  induction l with
  | nil => simp [sumF]
  | cons x l ih => simp only [sumF]; rw [Int.add_mul, ih]
theorem sumF_flat {α β : Type} (g : β → Int) (f : α → List β) (l : List α) : sumF g (l.flatMap f) = sumF (fun x => sumF g (f x)) l := by
  induction l with
  | nil => rfl
  | cons x l ih => simp only [List.flatMap_cons, sumF_append, sumF, ih]
/-- a product of sums -/
abbrev EX2 := (List Nat × List Nat) × Nat
def exp2 : List Nat → List EX2
  | [] => [(([], []), 1)]
  | s :: ss => (CP s).flatMap fun y => (exp2 ss).map fun e => ((y.1.1 ++ e.1.1, y.1.2 :: e.1.2), y.2 * e.2)
def exV2 (a b : Nat → Int) (e : EX2) : Int := (e.2 : Int) * (pz a e.1.1 * pz b e.1.2)
theorem exp2_is (a b : Nat → Int) (ss : List Nat) : pz (cv a b) ss = sumF (exV2 a b) (exp2 ss) := by
  induction ss with
  | nil => simp [exp2, sumF, exV2, pz_nil]
  | cons s ss ih =>
    rw [pz_cons, ih, exp2, sumF_flat]
    unfold cv
    rw [sumF_mulR]
    refine sumF_congr fun y _ => ?_
    rw [sumF_mul, sumF_map]
    refine sumF_congr fun e _ => ?_
    unfold cvT exV2
    simp only
    rw [pz_append, pz_cons, Int.natCast_mul]
    simp only [Int.mul_assoc, Int.mul_left_comm, Int.mul_comm]
/-! ### terms in three maps -/
abbrev TM := ((List Nat × List Nat) × Nat) × Nat
def tmV (a b c : Nat → Int) (x : TM) : Int := (x.2 : Int) * (pz a x.1.1.1 * (pz b x.1.1.2 * c x.1.2))
def lhs3 (p : Nat) : List TM := (CP p).flatMap fun x => (exp2 x.1.1).map fun e => (((e.1.1, e.1.2), x.1.2), x.2 * e.2)
def rhs3 (p : Nat) : List TM := (CP p).flatMap fun x => (CP x.1.2).map fun y => (((x.1.1, y.1.1), y.1.2), x.2 * y.2)
theorem lhs3_is (a b c : Nat → Int) (p : Nat) : cv (cv a b) c p = sumF (tmV a b c) (lhs3 p) := by
  unfold cv lhs3
  rw [sumF_flat]
  refine sumF_congr fun x _ => ?_
  show (x.2 : Int) * (pz (cv a b) x.1.1 * c x.1.2) = _
  rw [exp2_is, sumF_mulR, sumF_mul, sumF_map]
  refine sumF_congr fun e _ => ?_
  unfold exV2 tmV
  simp only
  rw [Int.natCast_mul]
  simp only [Int.mul_assoc, Int.mul_left_comm, Int.mul_comm]
theorem rhs3_is (a b c : Nat → Int) (p : Nat) : cv a (cv b c) p = sumF (tmV a b c) (rhs3 p) := by
  unfold rhs3
  show sumF (cvT a (cv b c)) (CP p) = _
  rw [sumF_flat]
  refine sumF_congr fun x _ => ?_
  show (x.2 : Int) * (pz a x.1.1 * sumF (cvT b c) (CP x.1.2)) = _
  rw [sumF_mul, sumF_mul, sumF_map]
  refine sumF_congr fun y _ => ?_
  unfold cvT tmV
  simp only
  rw [Int.natCast_mul]
  simp only [Int.mul_assoc, Int.mul_left_comm, Int.mul_comm]
/-! ### normal forms -/
def insZ (p : Nat) : List Nat → List Nat
  | [] => [p]
  | q :: qs => bif Nat.ble p q then p :: q :: qs else q :: insZ p qs
def srtZ : List Nat → List Nat
  | [] => []
  | p :: ps => insZ p (srtZ ps)
def nz : List Nat → List Nat
  | [] => []
  | p :: ps => bif Nat.beq p 0 then nz ps else p :: nz ps
def nrmT (x : TM) : TM := (((srtZ x.1.1.1, srtZ (nz x.1.1.2)), x.1.2), x.2)
/-- 0 equal, 1 less, 2 greater -/
def cmpN : List Nat → List Nat → Nat
  | [], [] => 0
  | [], _ :: _ => 1
  | _ :: _, [] => 2
  | a :: us, b :: vs => bif Nat.beq a b then cmpN us vs else bif Nat.blt a b then 1 else 2
def cmpK3 (x y : (List Nat × List Nat) × Nat) : Nat := match cmpN x.1.1 y.1.1 with
  | 0 => (match cmpN x.1.2 y.1.2 with
    | 0 => bif Nat.beq x.2 y.2 then 0 else bif Nat.blt x.2 y.2 then 1 else 2
    | k + 1 => k + 1)
  | k + 1 => k + 1
def insT (x : TM) : List TM → List TM
  | [] => [x]
  | y :: ys => match cmpK3 x.1 y.1 with
    | 0 => (y.1, y.2 + x.2) :: ys
    | 1 => x :: y :: ys
    | _ => y :: insT x ys
def nrm : List TM → List TM
  | [] => []
  | x :: xs => insT (nrmT x) (nrm xs)
theorem insZ_pz (a : Nat → Int) (p : Nat) (ps : List Nat) : pz a (insZ p ps) = a p * pz a ps := by
  induction ps with
  | nil => rfl
  | cons q qs ih =>
    unfold insZ
    cases Nat.ble p q with
    | true => rfl
    | false => simp only [cond_false, pz_cons, ih]; rw [Int.mul_left_comm]
theorem srtZ_pz (a : Nat → Int) (ps : List Nat) : pz a (srtZ ps) = pz a ps := by
  induction ps with
  | nil => rfl
  | cons p ps ih => rw [srtZ, insZ_pz, ih, pz_cons]
theorem nz_pz {a : Nat → Int} (h : a 0 = 1) (ps : List Nat) : pz a (nz ps) = pz a ps := by
  induction ps with
  | nil => rfl
  | cons p ps ih =>
    unfold nz
    cases hp : Nat.beq p 0 with
    | true =>
      have := Nat.eq_of_beq_eq_true hp
      subst this
      rw [cond_true, ih, pz_cons, h, Int.one_mul]
    | false => rw [cond_false, pz_cons, pz_cons, ih]
theorem nrmT_is (a b c : Nat → Int) (h : b 0 = 1) (x : TM) : tmV a b c (nrmT x) = tmV a b c x := by
  unfold tmV nrmT
  simp only
  rw [srtZ_pz, srtZ_pz, nz_pz h]
theorem cmpN_zero : ∀ {x y : List Nat}, cmpN x y = 0 → x = y
  | [], [], _ => rfl
  | [], _ :: _, h => by cases h
  | _ :: _, [], h => by cases h
  | a :: x, b :: y, h => by
    rw [cmpN] at h
    cases hb : Nat.beq a b with
    | true => rw [hb, cond_true] at h; rw [cmpN_zero h, Nat.eq_of_beq_eq_true hb]
    | false => rw [hb, cond_false] at h; cases h2 : Nat.blt a b <;> rw [h2] at h <;> cases h
theorem cmpK3_zero {x y : (List Nat × List Nat) × Nat} (h : cmpK3 x y = 0) : x = y := by
  obtain ⟨⟨a, b⟩, c⟩ := x
  obtain ⟨⟨a', b'⟩, c'⟩ := y
  unfold cmpK3 at h
  simp only at h
  cases h1 : cmpN a a' with
  | succ k => rw [h1] at h; cases h
  | zero =>
    rw [h1] at h
    simp only at h
    cases h2 : cmpN b b' with
    | succ k => rw [h2] at h; cases h
    | zero =>
      rw [h2] at h
      simp only at h
      cases h3 : Nat.beq c c' with
      | true => rw [cmpN_zero h1, cmpN_zero h2, Nat.eq_of_beq_eq_true h3]
      | false => rw [h3, cond_false] at h; cases h4 : Nat.blt c c' <;> rw [h4] at h <;> cases h
theorem insT_is (a b c : Nat → Int) (x : TM) (ys : List TM) : sumF (tmV a b c) (insT x ys) = tmV a b c x + sumF (tmV a b c) ys := by
  induction ys with
  | nil => rfl
  | cons y ys ih =>
    unfold insT
    split
    · next h =>
      have := cmpK3_zero h
      simp only [sumF]
      unfold tmV
      rw [← this]
      simp only
      rw [Int.natCast_add, Int.add_mul]
      omega
    · rfl
    · simp only [sumF, ih]; omega
theorem nrm_is (a b c : Nat → Int) (h : b 0 = 1) (xs : List TM) : sumF (tmV a b c) (nrm xs) = sumF (tmV a b c) xs := by
  induction xs with
  | nil => rfl
  | cons x xs ih => rw [nrm, insT_is, ih, nrmT_is a b c h]; rfl
def eqT3 (x y : TM) : Bool := Nat.beq (cmpK3 x.1 y.1) 0 && Nat.beq x.2 y.2
def eqTs : List TM → List TM → Bool
  | [], [] => true
  | x :: xs, y :: ys => eqT3 x y && eqTs xs ys
  | _, _ => false
theorem eqTs_iff : ∀ {xs ys : List TM}, eqTs xs ys = true → xs = ys
  | [], [], _ => rfl
  | [], _ :: _, h => by cases h
  | _ :: _, [], h => by cases h
  | (k, n) :: xs, (k', n') :: ys, h => by
    unfold eqTs eqT3 at h
    simp only [Bool.and_eq_true] at h
    rw [eqTs_iff h.2, cmpK3_zero (Nat.eq_of_beq_eq_true h.1.1), Nat.eq_of_beq_eq_true h.1.2]
theorem as3 : (List.range 38).all (fun p => eqTs (nrm (lhs3 p)) (nrm (rhs3 p))) = true := by decide +kernel
/-- the convolution is associative -/
theorem cv_assoc {a b c : Nat → Int} (h : b 0 = 1) {p : Nat} (hp : p < 38) : cv (cv a b) c p = cv a (cv b c) p := by
  have h1 := as3
  rw [List.all_eq_true] at h1
  have h2 := eqTs_iff (h1 p (by simpa using hp))
  rw [lhs3_is, rhs3_is, ← nrm_is a b c h, h2, nrm_is a b c h]
/-! ### units -/
def un (p : Nat) : Int := if p = 0 then 1 else 0
def okUn (p : Nat) (x : MCt) : Bool := (match x.1.1 with
    | [] => Nat.beq x.1.2 p && Nat.beq x.2 1
    | k :: _ => Nat.blt 0 k) && (bif Nat.beq x.1.2 0 then (match x.1.1 with
      | [k] => Nat.beq k p && Nat.beq x.2 1
      | [] => Nat.beq p 0
      | _ => false) else true)
def cntE : List MCt → Nat
  | [] => 0
  | x :: xs => (match x.1.1 with | [] => 1 | _ => 0) + cntE xs
def cntZ : List MCt → Nat
  | [] => 0
  | x :: xs => (bif Nat.beq x.1.2 0 then 1 else 0) + cntZ xs
theorem un3 : (List.range 38).all (fun p => (CP p).all (okUn p) && (Nat.beq (cntE (CP p)) 1 && Nat.beq (cntZ (CP p)) 1)) = true := by decide +kernel
theorem un_at {p : Nat} (hp : p < 38) : (∀ x ∈ CP p, okUn p x = true) ∧ cntE (CP p) = 1 ∧ cntZ (CP p) = 1 := by
  have h1 := un3
  rw [List.all_eq_true] at h1
  have h2 := h1 p (by simpa using hp)
  simp only [Bool.and_eq_true, List.all_eq_true] at h2
  exact ⟨h2.1, Nat.eq_of_beq_eq_true h2.2.1, Nat.eq_of_beq_eq_true h2.2.2⟩
theorem unL_sum (b : Nat → Int) (p : Nat) : ∀ l : List MCt, (∀ x ∈ l, okUn p x = true) → sumF (cvT un b) l = (cntE l : Int) * b p
  | [], _ => by simp [sumF, cntE]
  | ((cr, tr), n) :: l, h => by
    have h1 := h ((cr, tr), n) (by simp)
    have ih := unL_sum b p l fun x hx => h x (by simp [hx])
    simp only [sumF, ih, cntE]
    unfold okUn at h1
    simp only [Bool.and_eq_true] at h1
    cases cr with
    | nil =>
      simp only at h1
      have e1 := Nat.eq_of_beq_eq_true (Bool.and_eq_true _ _ ▸ h1.1).1
      have e2 := Nat.eq_of_beq_eq_true (Bool.and_eq_true _ _ ▸ h1.1).2
      subst e1 e2
      unfold cvT
      simp only [pz_nil, Int.natCast_add, Int.add_mul]
      simp
    | cons k ks =>
      simp only at h1
      have hk := blt_lt h1.1
      have : un k = 0 := if_neg (by omega)
      unfold cvT
      simp only [pz_cons, this, Int.zero_mul, Int.mul_zero, Nat.zero_add]
      omega
theorem cv_unL (b : Nat → Int) {p : Nat} (hp : p < 38) : cv un b p = b p := by
  obtain ⟨h1, h2, -⟩ := un_at hp
  unfold cv
  rw [unL_sum b p _ h1, h2]
  simp
/-- what the whole tree in the crown adds, and the rest -/
def posT (a b : Nat → Int) (x : MCt) : Int := bif Nat.blt 0 x.1.2 then cvT a b x else 0
def posE (a b : Nat → Int) (x : MCt) : Int := match x.1.1 with
  | [] => 0
  | _ :: _ => cvT a b x
theorem posT_sum (a b : Nat → Int) {p : Nat} (h0 : 0 < p) : ∀ l : List MCt, (∀ x ∈ l, okUn p x = true) → sumF (cvT a b) l = sumF (posT a b) l + (cntZ l : Int) * (a p * b 0)
  | [], _ => by simp [sumF, cntZ]
  | ((cr, tr), n) :: l, h => by
    have h1 := h ((cr, tr), n) (by simp)
    have ih := posT_sum a b h0 l fun x hx => h x (by simp [hx])
    simp only [sumF, ih, cntZ]
    unfold okUn at h1
    simp only [Bool.and_eq_true] at h1
    cases tr with
    | zero =>
      have h2 := h1.2
      rw [Nat.beq_refl, cond_true] at h2
      cases cr with
      | nil => simp only at h2; have := Nat.eq_of_beq_eq_true h2; omega
      | cons k ks =>
        cases ks with
        | cons k2 ks => cases h2
        | nil =>
          simp only [Bool.and_eq_true] at h2
          have e1 := Nat.eq_of_beq_eq_true h2.1
          have e2 := Nat.eq_of_beq_eq_true h2.2
          subst e1 e2
          unfold posT cvT
          simp only [pz_cons, pz_nil]
          have e3 : Nat.blt 0 0 = false := rfl
          have e4 : Nat.beq 0 0 = true := rfl
          rw [e3, e4, cond_false, cond_true, Int.natCast_add, Int.add_mul]
          simp
          omega
    | succ tr =>
      have e3 : Nat.blt 0 (tr + 1) = true := Nat.ble_eq_true_of_le (by omega)
      have e4 : Nat.beq (tr + 1) 0 = false := rfl
      unfold posT
      simp only [e3, e4, cond_true, cond_false, Nat.zero_add]
      omega
theorem cv_pos (a b : Nat → Int) {p : Nat} (h0 : 0 < p) (hp : p < 38) : cv a b p = sumF (posT a b) (CP p) + a p * b 0 := by
  obtain ⟨h1, -, h3⟩ := un_at hp
  unfold cv
  rw [posT_sum a b h0 _ h1, h3]
  simp
theorem posE_sum (a b : Nat → Int) (p : Nat) : ∀ l : List MCt, (∀ x ∈ l, okUn p x = true) → sumF (cvT a b) l = sumF (posE a b) l + (cntE l : Int) * b p
  | [], _ => by simp [sumF, cntE]
  | ((cr, tr), n) :: l, h => by
    have h1 := h ((cr, tr), n) (by simp)
    have ih := posE_sum a b p l fun x hx => h x (by simp [hx])
    simp only [sumF, ih, cntE]
    unfold okUn at h1
    simp only [Bool.and_eq_true] at h1
    cases cr with
    | nil =>
      simp only at h1
      have e1 := Nat.eq_of_beq_eq_true (Bool.and_eq_true _ _ ▸ h1.1).1
      have e2 := Nat.eq_of_beq_eq_true (Bool.and_eq_true _ _ ▸ h1.1).2
      subst e1 e2
      unfold cvT posE
      simp only [pz_nil, Int.natCast_add, Int.add_mul]
      simp
      omega
    | cons k ks =>
      unfold posE
      simp only [Nat.zero_add]
      omega
theorem cv_rest (a b : Nat → Int) {p : Nat} (hp : p < 38) : cv a b p = sumF (posE a b) (CP p) + b p := by
  obtain ⟨h1, h2, -⟩ := un_at hp
  unfold cv
  rw [posE_sum a b p _ h1, h2]
  simp
theorem cv_unR (a : Nat → Int) (h : a 0 = 1) {p : Nat} (hp : p < 38) : cv a un p = a p := by
  by_cases h0 : 0 < p
  · rw [cv_pos a un h0 hp]
    have : sumF (posT a un) (CP p) = sumF (fun _ => 0) (CP p) := sumF_congr fun x _ => by
      unfold posT cvT
      cases hx : Nat.blt 0 x.1.2 with
      | false => rfl
      | true =>
        have := blt_lt hx
        have h2 : un x.1.2 = 0 := if_neg (by omega)
        rw [h2]; simp
    rw [this]
    have hz : ∀ l : List MCt, sumF (fun _ => (0 : Int)) l = 0 := fun l => by
      induction l with
      | nil => rfl
      | cons x l ih => simp only [sumF, ih]; rfl
    rw [hz]
    simp [un]
  · have : p = 0 := by omega
    subst this
    rw [h]; rfl
/-! ### modulo the prime -/
theorem pz_mod {a a' : Nat → Int} {ps : List Nat} (h : ∀ p ∈ ps, a p % 10007 = a' p % 10007) : pz a ps % 10007 = pz a' ps % 10007 := by
  induction ps with
  | nil => rfl
  | cons p ps ih =>
    rw [pz_cons, pz_cons, Int.mul_emod, h p (by simp), ih fun q hq => h q (by simp [hq]), ← Int.mul_emod]
theorem sumF_modc {α : Type} {g g' : α → Int} : ∀ {l : List α}, (∀ x ∈ l, g x % 10007 = g' x % 10007) → sumF g l % 10007 = sumF g' l % 10007
  | [], _ => rfl
  | x :: l, h => by
    have h1 := h x (by simp)
    have h2 := sumF_modc (l := l) fun y hy => h y (by simp [hy])
    simp only [sumF]
    omega
theorem cvT_mod {a a' b b' : Nat → Int} {x : MCt} (h : ∀ p ∈ x.1.1, a p % 10007 = a' p % 10007) (h' : b x.1.2 % 10007 = b' x.1.2 % 10007) : cvT a b x % 10007 = cvT a' b' x % 10007 := by
  unfold cvT
  rw [Int.mul_emod, Int.mul_emod (pz a x.1.1), pz_mod h, h', ← Int.mul_emod (pz a' x.1.1), ← Int.mul_emod]
/-- the places in the cuts of a tree are places of maps -/
def okPc (p : Nat) (x : MCt) : Bool := x.1.1.all (fun k => Nat.ble k p) && Nat.ble x.1.2 p
theorem pc3 : (List.range 38).all (fun p => (CP p).all (okPc p)) = true := by decide +kernel
theorem pc_at {p : Nat} (hp : p < 38) {x : MCt} (hx : x ∈ CP p) : (∀ k ∈ x.1.1, k ≤ p) ∧ x.1.2 ≤ p := by
  have h1 := pc3
  rw [List.all_eq_true] at h1
  have h2 := h1 p (by simpa using hp)
  rw [List.all_eq_true] at h2
  have h3 := h2 x hx
  unfold okPc at h3
  simp only [Bool.and_eq_true, List.all_eq_true] at h3
  exact ⟨fun k hk => Nat.le_of_ble_eq_true (h3.1 k hk), Nat.le_of_ble_eq_true h3.2⟩
theorem cv_mod {a a' b b' : Nat → Int} {p : Nat} (hp : p < 38) (h : ∀ k, k ≤ p → a k % 10007 = a' k % 10007) (h' : ∀ k, k ≤ p → b k % 10007 = b' k % 10007) : cv a b p % 10007 = cv a' b' p % 10007 := by
  unfold cv
  exact sumF_modc fun x hx => cvT_mod (fun k hk => h k ((pc_at hp hx).1 k hk)) (h' _ (pc_at hp hx).2)
/-- an inverse on the left and one on the right are the same -/
theorem inv_both {a x y : Nat → Int} (ha : a 0 = 1) (hx : x 0 = 1) (h1 : ∀ p, p < 38 → cv x a p % 10007 = un p % 10007) (h2 : ∀ p, p < 38 → cv a y p % 10007 = un p % 10007) : ∀ p, p < 38 → x p % 10007 = y p % 10007 := by
  intro p hp
  have e1 : cv (cv x a) y p % 10007 = y p % 10007 := by
    rw [← cv_unL y hp]
    exact cv_mod hp (fun k hk => h1 k (by omega)) fun k _ => rfl
  have e2 : cv x (cv a y) p % 10007 = x p % 10007 := by
    rw [← cv_unR x hx hp]
    exact cv_mod hp (fun k _ => rfl) fun k hk => h2 k (by omega)
  rw [← e1, ← e2, cv_assoc ha hp]
end Go.Proofs.YtngdpoeondnchaaGreat

set_option maxRecDepth 100000
set_option linter.unusedVariables false
set_option linter.unusedSimpArgs false
namespace Go.Proofs.YtngdpoeondnchaaGreat
open Go.RowKit

theorem sliced_cells {w : World} {A : Option Addr} {n c : Nat} {vs : List Value} (h : Cells w (.slice A n c) vs) {k m : Nat} (hk : k ≤ m) (hm : m ≤ vs.length) :
    ∃ X, sliced A k m c 1 = .slice X (m - k) (c - k) ∧ Cells w (.slice X (m - k) (c - k)) ((vs.take m).drop k) := by
  obtain ⟨A', c', he, h1, h2, h3⟩ := h
  simp only [Value.slice.injEq] at he
  obtain ⟨rfl, rfl, rfl⟩ := he
  refine ⟨_, rfl, ?_⟩
  have hl : ((vs.take m).drop k).length = m - k := by rw [List.length_drop, List.length_take]; omega
  refine ⟨_, _, by rw [hl], by rw [hl]; omega, by omega, fun j u hj => ?_⟩
  have hjl := (List.getElem?_eq_some_iff.1 hj).1
  rw [hl] at hjl
  rw [List.getElem?_drop, List.getElem?_take, if_pos (by omega)] at hj
  obtain ⟨ad, rfl, hc⟩ := h3 _ u hj
  have hne : ¬ c = k := by omega
  refine ⟨ad.add (k * 1), by simp [hne], ?_⟩
  rw [add_add', Nat.mul_one]
  exact hc

/-- a slice of a list of numbers that is read, from k to m -/
theorem slice_ints {w : World} {A : Option Addr} {n c : Nat} {zs : List Int} (h : Ints w (.slice A n c) zs) {k m : Nat} (hk : k ≤ m) (hm : m ≤ zs.length) :
    ∃ X, sliced A k m c 1 = .slice X (m - k) (c - k) ∧ Ints w (.slice X (m - k) (c - k)) ((zs.take m).drop k) := by
  obtain ⟨X, h1, h2⟩ := sliced_cells h.1 hk (by rw [ints_len]; exact hm)
  refine ⟨X, h1, ?_, fun z hz => h.2 z (List.mem_of_mem_take (List.mem_of_mem_drop hz))⟩
  simpa [ints, List.map_take, List.map_drop] using h2

/-- rows that can be read: each a list of numbers in a block from B on -/
def RR (w : World) (B : Nat) (vs : List Value) (xss : List (List Int)) : Prop :=
  vs.length = xss.length ∧ ∀ (k : Nat) (u : Value) (zs : List Int), vs[k]? = some u → xss[k]? = some zs → OwnInts w B tI u zs
section
variable {w w' : World} {B : Nat} {vs : List Value} {xss : List (List Int)}
theorem RR.nil (w : World) (B : Nat) : RR w B [] [] := ⟨rfl, fun k u zs h => by simp at h⟩
theorem RR.below (h : RR w B vs xss) (hb : Below w.heap.size w w') : RR w' B vs xss := ⟨h.1, fun k u zs hu hz => (h.2 k u zs hu hz).below hb⟩
theorem RR.mono {B' : Nat} (h : RR w B vs xss) (hB : B' ≤ B) : RR w B' vs xss := ⟨h.1, fun k u zs hu hz => (h.2 k u zs hu hz).mono hB⟩
theorem RR.snoc {u : Value} {zs : List Int} (h : RR w B vs xss) (hu : OwnInts w B tI u zs) : RR w B (vs ++ [u]) (xss ++ [zs]) := by
  refine ⟨by simp [h.1], fun k u' zs' hk hz => ?_⟩
  by_cases hlt : k < vs.length
  · rw [List.getElem?_append_left hlt] at hk
    rw [List.getElem?_append_left (by rw [← h.1]; exact hlt)] at hz
    exact h.2 k u' zs' hk hz
  · have hkl := (List.getElem?_eq_some_iff.1 hk).1
    simp at hkl
    have : k = vs.length := by omega
    subst this
    rw [List.getElem?_append_right (Nat.le_refl _)] at hk
    rw [List.getElem?_append_right (by rw [h.1]; exact Nat.le_refl _), h.1] at hz
    simp at hk hz
    subst hk; subst hz
    exact hu
theorem RR.set {k : Nat} {u : Value} {zs : List Int} (h : RR w B vs xss) (hu : OwnInts w B tI u zs) : RR w B (vs.set k u) (xss.set k zs) := by
  refine ⟨by simp [h.1], fun j u' zs' hj hz => ?_⟩
  rw [List.getElem?_set] at hj hz
  by_cases hjk : k = j
  · subst hjk
    rw [if_pos rfl] at hj hz
    split at hj
    · rw [if_pos (by rw [← h.1]; assumption)] at hz
      injection hj with hj; injection hz with hz
      subst hj; subst hz
      exact hu
    · cases hj
  · rw [if_neg hjk] at hj hz
    exact h.2 j u' zs' hj hz
/-- a block whose elements have another type has turned -/
theorem RR.other {v : Value} {e : TypeId} {B' : Nat} {us : List Value} (h : RR w B vs xss) (hg : w.grownBy w' v.ownBlock) (ho : Own w B' e v us) (hne : tI ≠ e) : RR w' B vs xss :=
  ⟨h.1, fun k u zs hu hz => (h.2 k u zs hu hz).kept hg ((h.2 k u zs hu hz).1.ne_of_type ho hne)⟩
theorem RR.rows {v : Value} {e : TypeId} {B' : Nat} (h : RR w B vs xss) (ho : Own w B' e v vs) : Rows w v xss :=
  ⟨vs, ho.cells, h.1, fun k u zs hu hz => (h.2 k u zs hu hz).ints⟩
theorem RR.oneCell (h : RR w B vs xss) : ∀ u ∈ vs, u.oneCell' = true := by
  intro u hu
  obtain ⟨k, hk, rfl⟩ := List.getElem_of_mem hu
  have hx : xss[k]? = some (xss[k]'(by rw [← h.1]; exact hk)) := List.getElem?_eq_getElem _
  rcases (h.2 k _ _ (List.getElem?_eq_getElem hk) hx).1.cases with ⟨e, _⟩ | ⟨g, cap, cur, e, _⟩ <;> rw [e] <;> rfl
end

/-- a list of lists of one's own whose rows can be read -/
def LL (w : World) (B : Nat) (v : Value) (xss : List (List Int)) : Prop := ∃ vs, Own w B tL v vs ∧ RR w B vs xss
section
variable {w w' : World} {B : Nat} {v : Value} {xss : List (List Int)}
theorem LL.rows (h : LL w B v xss) : Rows w v xss := by obtain ⟨vs, h1, h2⟩ := h; exact h2.rows h1
theorem LL.below (h : LL w B v xss) (hb : Below w.heap.size w w') : LL w' B v xss := by obtain ⟨vs, h1, h2⟩ := h; exact ⟨vs, h1.below hb, h2.below hb⟩
theorem LL.mono {B' : Nat} (h : LL w B v xss) (hB : B' ≤ B) : LL w B' v xss := by obtain ⟨vs, h1, h2⟩ := h; exact ⟨vs, h1.mono hB, h2.mono hB⟩
theorem LL.nil (w : World) (B : Nat) : LL w B (.slice none 0 0) [] := ⟨[], Own.nil _ _ _, RR.nil _ _⟩
/-- one row more, made after all else -/
theorem LL.snoc {w1 : World} {vs : List Value} {u v1 : Value} {zs : List Int} (h1 : Own w B tL v vs) (h2 : RR w B vs xss) (hu : OwnInts w B tI u zs) (ho : Own w1 B tL v1 (vs ++ [u])) (hg : w.grownBy w1 v.ownBlock) : RR w1 B (vs ++ [u]) (xss ++ [zs]) :=
  (h2.snoc hu).other hg h1 (by decide)
end

/-- branches that are gathered: rows whose blocks lie before M, and the last row of one's own from M on -/
structure BrS (w : World) (B M : Nat) (o : Value) (vs : List Value) (bs : List (List Int)) : Prop where
  own : Own w B tL o vs
  rows : RR w B vs bs
  old : ∀ (k : Nat) (u : Value), k + 1 < vs.length → vs[k]? = some u → ∀ b, u.ownBlock = some b → b < M
  last : ∀ (u : Value) (zs : List Int), vs[vs.length - 1]? = some u → bs[vs.length - 1]? = some zs → OwnInts w M tI u zs
  le : B ≤ M
  lt : M ≤ w.heap.size

theorem BrS.push {w w1 : World} {B M : Nat} {o v1 u : Value} {vs : List Value} {bs : List (List Int)} {zs : List Int} (h : BrS w B M o vs bs) (hu : OwnInts w w.heap.size tI u zs) (ho : Own w1 B tL v1 (vs ++ [u])) (hg : w.grownBy w1 o.ownBlock) (hge : ∀ b, u.ownBlock = some b → w.heap.size ≤ b) :
    BrS w1 B w.heap.size v1 (vs ++ [u]) (bs ++ [zs]) := by
  have hB : B ≤ w.heap.size := Nat.le_trans h.le h.lt
  have hr := LL.snoc h.own h.rows (hu.mono hB) ho hg
  have hkeep := hu.kept hg (hu.1.ne_of_type h.own (by decide))
  refine ⟨ho, hr, fun k u' hk hu' b hb => ?_, fun u' zs' hu' hz' => ?_, hB, hg.size⟩
  · simp at hk
    rw [List.getElem?_append_left hk] at hu'
    have hx : bs[k]? = some (bs[k]'(by rw [← h.rows.1]; exact hk)) := List.getElem?_eq_getElem _
    exact (h.rows.2 k u' _ hu' hx).1.lt b hb
  · simp at hu'
    have e : (vs ++ [u]).length - 1 = bs.length := by simp [h.rows.1]
    rw [e, List.getElem?_append_right (Nat.le_refl _)] at hz'
    simp at hz'
    subst hu'; subst hz'
    exact hkeep

/-- the last row has grown: it is stored -/
theorem BrS.grow {w w1 : World} {B M g : Nat} {o u u1 : Value} {vs : List Value} {bs : List (List Int)} {zs zs1 : List Int} (h : BrS w B M o vs bs) (hu : vs[vs.length - 1]? = some u) (hz : bs[vs.length - 1]? = some zs)
    (ho : OwnInts w1 M tI u1 zs1) (hg : w.grownBy w1 u.ownBlock) (hob : o.ownBlock = some g) (hown : Own (w1.setCell ⟨g, vs.length - 1, none⟩ u1) B tL o (vs.set (vs.length - 1) u1)) :
    BrS (w1.setCell ⟨g, vs.length - 1, none⟩ u1) B M o (vs.set (vs.length - 1) u1) (bs.set (vs.length - 1) zs1) := by
  have hl := h.last u zs hu hz
  have hpos := (List.getElem?_eq_some_iff.1 hu).1
  have how1 : Own w1 B tL o vs := h.own.kept hg (h.own.ne_of_type hl.1 (by decide))
  have hset : w1.grownBy (w1.setCell ⟨g, vs.length - 1, none⟩ u1) o.ownBlock := by
    rw [hob]
    exact ((Chg.refl g (g + 1) w1).setCell (p := ⟨g, vs.length - 1, none⟩) (Nat.le_refl _) (by simp) u1) |> fun c => ⟨c.os, c.tape, c.output, c.size, fun b hb hne => c.block b hb (by have : b ≠ g := fun e => hne (by rw [e]); omega)⟩
  have hrow1 : RR w1 B (vs.set (vs.length - 1) u1) (bs.set (vs.length - 1) zs1) := by
    refine ⟨by simp [h.rows.1], fun k u' zs' hk hz' => ?_⟩
    rw [List.getElem?_set] at hk hz'
    by_cases hkl : vs.length - 1 = k
    · subst hkl
      rw [if_pos rfl, if_pos hpos] at hk
      rw [if_pos rfl, if_pos (by rw [← h.rows.1]; exact hpos)] at hz'
      injection hk with hk; injection hz' with hz'
      subst hk; subst hz'
      exact ho.mono h.le
    · rw [if_neg hkl] at hk hz'
      have hkk := (List.getElem?_eq_some_iff.1 hk).1
      have hr := h.rows.2 k u' zs' hk hz'
      refine hr.kept hg ?_
      have hold := h.old k u' (by omega) hk
      cases hb : u'.ownBlock with
      | none => exact .inl hb
      | some b => exact .inr fun e => by have h1 := hold b hb; have h2 := hl.1.ge b (e.symm.trans hb); omega
  refine ⟨hown, hrow1.other hset how1 (by decide), fun k u' hk hu' b hb => ?_, fun u' zs' hu' hz' => ?_, h.le, ?_⟩
  · simp at hk
    rw [List.getElem?_set_ne (by omega)] at hu'
    exact h.old k u' hk hu' b hb
  · simp only [List.length_set] at hu' hz'
    rw [List.getElem?_set_self hpos] at hu'
    rw [List.getElem?_set_self (by rw [← h.rows.1]; exact hpos)] at hz'
    injection hu' with hu'; injection hz' with hz'
    subst hu'; subst hz'
    exact ho.kept hset (ho.1.ne_of_type how1 (by decide))
  · have h1 := hg.size
    have h2 := hset.size
    have h3 := h.lt
    omega

theorem BrS.openLast {w : World} {B M m : Nat} {o : Value} {vs : List Value} {bs : List (List Int)} (h : BrS w B M o vs bs) (hm : vs.length = m + 1) :
    ∃ g cap u zs, o = .slice (some ⟨g, 0, none⟩) (m + 1) cap ∧ m + 1 ≤ cap ∧ cap ≤ 9223372036854775807 ∧ vs[m]? = some u ∧ bs[m]? = some zs ∧ OwnInts w M tI u zs ∧ w.cell? ⟨g, m, none⟩ = some u := by
  have hbl : bs.length = m + 1 := by rw [← h.rows.1]; exact hm
  have hu : vs[m]? = some (vs[m]'(by omega)) := List.getElem?_eq_getElem _
  have hz : bs[m]? = some (bs[m]'(by omega)) := List.getElem?_eq_getElem _
  have hl := h.last _ _ (by rw [hm]; exact hu) (by rw [hm]; exact hz)
  rcases h.own.cases with ⟨_, e⟩ | ⟨g, cap, cur, e, h1, h2, h3, h4, h5, h6, h7⟩
  · rw [e] at hm; simp at hm
  · refine ⟨g, cap, _, _, by rw [e, hm], by omega, by simpa [maxLen] using h5, hu, hz, hl, ?_⟩
    subst e
    obtain ⟨ad, n', c', he, hc⟩ := h.own.cells.at_ hu
    simp only [Value.slice.injEq, Option.some.injEq] at he
    obtain ⟨rfl, -, -⟩ := he
    have e : (⟨g, 0, none⟩ : Addr).add m = ⟨g, m, none⟩ := by
      by_cases h0 : m = 0 <;> simp [Addr.add, h0]
    rwa [e] at hc

/-- behind the append to the last row: what the store wants -/
theorem BrS.ready {w w1 : World} {B M m g cap : Nat} {u u1 : Value} {vs : List Value} {bs : List (List Int)} {zs zs1 : List Int} (h : BrS w B M (.slice (some ⟨g, 0, none⟩) (m + 1) cap) vs bs) (hm : vs.length = m + 1) (hu : vs[m]? = some u) (hz : bs[m]? = some zs)
    (ho : OwnInts w1 M tI u1 zs1) (hg : w.grownBy w1 u.ownBlock) :
    (∃ u0, w1.cell? ⟨g, m, none⟩ = some u0) ∧ w1.frozen? ⟨g, m, none⟩ = false ∧ BrS (w1.setCell ⟨g, m, none⟩ u1) B M (.slice (some ⟨g, 0, none⟩) (m + 1) cap) (vs.set m u1) (bs.set m zs1) := by
  have hlu := h.last u zs (by rw [hm]; exact hu) (by rw [hm]; exact hz)
  have how1 : Own w1 B tL (.slice (some ⟨g, 0, none⟩) (m + 1) cap) vs := h.own.kept hg (h.own.ne_of_type hlu.1 (by decide))
  obtain ⟨u0, -, hc, hf, -, -, hown, -⟩ := how1.storeAt (k := m) (by omega) u1
  have e : m = vs.length - 1 := by omega
  refine ⟨⟨u0, hc⟩, hf, ?_⟩
  have := h.grow (g := g) (u1 := u1) (by rw [← e]; exact hu) (by rw [← e]; exact hz) ho hg rfl (by rw [← e]; exact hown)
  rwa [← e] at this

/-- an empty row more -/
theorem BrS.pushNil {w w1 : World} {B M : Nat} {o v1 : Value} {vs : List Value} {bs : List (List Int)} (h : BrS w B M o vs bs) (ho : Own w1 B tL v1 (vs ++ [.slice none 0 0])) (hg : w.grownBy w1 o.ownBlock) :
    ∃ g cap, v1 = .slice (some ⟨g, 0, none⟩) (vs.length + 1) cap ∧ vs.length + 1 ≤ cap ∧ cap ≤ 9223372036854775807 ∧ BrS w1 B w.heap.size (.slice (some ⟨g, 0, none⟩) (vs.length + 1) cap) (vs ++ [.slice none 0 0]) (bs ++ [[]]) ∧
      w1.cell? ⟨g, vs.length, none⟩ = some (.slice none 0 0) ∧ g < w1.heap.size ∧ B ≤ g ∧ (vs ++ [Value.slice none 0 0])[vs.length]? = some (.slice none 0 0) ∧ (bs ++ [[]])[vs.length]? = some [] := by
  have hp := h.push (u := .slice none 0 0) (zs := []) (OwnInts.nil _ _ _) ho hg (fun b hb => by simp [Value.ownBlock] at hb)
  obtain ⟨g, cap, u, zs, e, h1, h2, hu, hz, hl, hc⟩ := hp.openLast (m := vs.length) (by simp)
  subst e
  have eu : (vs ++ [Value.slice none 0 0])[vs.length]? = some (.slice none 0 0) := by simp
  have ez : (bs ++ [[]])[vs.length]? = some [] := by rw [h.rows.1]; simp
  rw [eu] at hu
  injection hu with hu
  subst hu
  exact ⟨g, cap, rfl, h1, h2, hp, hc, World.block_lt_of_cell? w1 _ hc, hp.own.ge g rfl, eu, ez⟩

theorem BrS.below {w w' : World} {B M : Nat} {o : Value} {vs : List Value} {bs : List (List Int)} (h : BrS w B M o vs bs) (hb : Below w.heap.size w w') : BrS w' B M o vs bs :=
  ⟨h.own.below hb, h.rows.below hb, h.old, fun u zs hu hz => (h.last u zs hu hz).below hb, h.le, Nat.le_trans h.lt hb.size⟩

/-- an empty row more, which a literal has laid -/
theorem BrS.pushLit {w w1 : World} {B M : Nat} {o v1 : Value} {vs : List Value} {bs : List (List Int)} (h : BrS w B M o vs bs) (ho : Own w1 B tL v1 (vs ++ [.slice (some ⟨w.heap.size, 0, none⟩) 0 0])) (hg : (w.alloc (.cells #[] tI)).grownBy w1 o.ownBlock) :
    ∃ g cap, v1 = .slice (some ⟨g, 0, none⟩) (vs.length + 1) cap ∧ vs.length + 1 ≤ cap ∧ cap ≤ 9223372036854775807 ∧ BrS w1 B w.heap.size (.slice (some ⟨g, 0, none⟩) (vs.length + 1) cap) (vs ++ [.slice (some ⟨w.heap.size, 0, none⟩) 0 0]) (bs ++ [[]]) ∧
      w1.cell? ⟨g, vs.length, none⟩ = some (.slice (some ⟨w.heap.size, 0, none⟩) 0 0) ∧ g < w1.heap.size ∧ B ≤ g ∧ (vs ++ [Value.slice (some ⟨w.heap.size, 0, none⟩) 0 0])[vs.length]? = some (.slice (some ⟨w.heap.size, 0, none⟩) 0 0) ∧ (bs ++ [[]])[vs.length]? = some [] ∧
      OwnInts w1 w.heap.size tI (.slice (some ⟨w.heap.size, 0, none⟩) 0 0) [] := by
  have h' := h.below (below1 w (.cells #[] tI))
  have hB : B ≤ w.heap.size := Nat.le_trans h.le h.lt
  have hu : OwnInts (w.alloc (.cells #[] tI)) w.heap.size tI (.slice (some ⟨w.heap.size, 0, none⟩) 0 0) [] := ⟨own_lit w tI [] (by simp [maxLen]), fun z hz => by simp at hz⟩
  have hkeep := hu.kept hg (hu.1.ne_of_type h'.own (by decide))
  have hr := LL.snoc h'.own h'.rows (hu.mono hB) ho hg
  have hsz := hg.size
  have hp : BrS w1 B w.heap.size v1 (vs ++ [.slice (some ⟨w.heap.size, 0, none⟩) 0 0]) (bs ++ [[]]) := by
    refine ⟨ho, hr, fun k u' hk hu' b hb => ?_, fun u' zs' hu' hz' => ?_, hB, by rw [size_alloc'] at hsz; omega⟩
    · simp at hk
      rw [List.getElem?_append_left hk] at hu'
      have hx : bs[k]? = some (bs[k]'(by rw [← h.rows.1]; exact hk)) := List.getElem?_eq_getElem _
      exact (h.rows.2 k u' _ hu' hx).1.lt b hb
    · simp at hu'
      have e : (vs ++ [Value.slice (some ⟨w.heap.size, 0, none⟩) 0 0]).length - 1 = bs.length := by simp [h.rows.1]
      rw [e, List.getElem?_append_right (Nat.le_refl _)] at hz'
      simp at hz'
      subst hu'; subst hz'
      exact hkeep
  obtain ⟨g, cap, u, zs, e, h1, h2, hu2, hz, hl, hc⟩ := hp.openLast (m := vs.length) (by simp)
  subst e
  have eu : (vs ++ [Value.slice (some ⟨w.heap.size, 0, none⟩) 0 0])[vs.length]? = some (.slice (some ⟨w.heap.size, 0, none⟩) 0 0) := by simp
  have ez : (bs ++ [[]])[vs.length]? = some [] := by rw [h.rows.1]; simp
  rw [eu] at hu2
  injection hu2 with hu2
  subst hu2
  exact ⟨g, cap, rfl, h1, h2, hp, hc, World.block_lt_of_cell? w1 _ hc, hp.own.ge g rfl, eu, ez, hkeep⟩
end Go.Proofs.YtngdpoeondnchaaGreat

