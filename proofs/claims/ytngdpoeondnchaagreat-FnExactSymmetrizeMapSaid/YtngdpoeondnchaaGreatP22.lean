/- Plain: the convolution by a table of cuts; it is associative, and an inverse on one side is one on the other. No walk. | Plain: the cuts of a tree as the reference reckons them, with every premise of the walk; they are the program's. -/
import Derived.Test.YtngdpoeondnchaaGreatP21
import Derived.Test.YtngdpoeondnchaaGreatP5
set_option maxRecDepth 100000
set_option linter.unusedVariables false
set_option linter.unusedSimpArgs false
namespace Go.Proofs.YtngdpoeondnchaaGreat

/-! ### the convolution over integers -/
theorem blt_lt {a b : Nat} (h : Nat.blt a b = true) : a < b := Nat.le_of_ble_eq_true h
abbrev MCt := (List Nat × Nat) × Nat
def pz (a : Nat → Int) (ps : List Nat) : Int := prodZ (ps.map a)
theorem pz_nil (a : Nat → Int) : pz a [] = 1 := rfl
theorem pz_cons (a : Nat → Int) (p : Nat) (ps : List Nat) : pz a (p :: ps) = a p * pz a ps := rfl
theorem pz_append (a : Nat → Int) (ps qs : List Nat) : pz a (ps ++ qs) = pz a ps * pz a qs := by unfold pz; rw [List.map_append, prodZ_append]
def CP (p : Nat) : List MCt := match p with
  | 0 => [(([], 0), 1)]
  | n + 1 => CTab.getD n []
def cvT (a b : Nat → Int) (x : MCt) : Int := (x.2 : Int) * (pz a x.1.1 * b x.1.2)
def cv (a b : Nat → Int) (p : Nat) : Int := sumF (cvT a b) (CP p)

/-! ### sums and products -/
theorem sumF_mul {α : Type} (g : α → Int) (k : Int) (l : List α) : k * sumF g l = sumF (fun x => k * g x) l := by
  induction l with
  | nil => simp [sumF]
  | cons x l ih => simp only [sumF]; rw [Int.mul_add, ih]
theorem sumF_mulR {α : Type} (g : α → Int) (k : Int) (l : List α) : sumF g l * k = sumF (fun x => g x * k) l := by
  induction l with
  | nil => simp [sumF]
  | cons x l ih => simp only [sumF]; rw [Int.add_mul, ih]
theorem sumF_flat {α β : Type} (g : β → Int) (f : α → List β) (l : List α) : sumF g (l.flatMap f) = sumF (fun x => sumF g (f x)) l := by
  induction l with
  | nil => rfl
  | cons x l ih => simp only [List.flatMap_cons, sumF_append, sumF, ih]
/-- a product of sums -/
abbrev EX2 := (List Nat × List Nat) × Nat
def exp2 : List Nat → List EX2
  | [] => [(([], []), 1)]
  | s :: ss => (CP s).flatMap fun y => (exp2 ss).map fun e => ((y.1.1 ++ e.1.1, y.1.2 :: e.1.2), y.2 * e.2)
def exV2 (a b : Nat → Int) (e : EX2) : Int := (e.2 : Int) * (pz a e.1.1 * pz b e.1.2)
theorem exp2_is (a b : Nat → Int) (ss : List Nat) : pz (cv a b) ss = sumF (exV2 a b) (exp2 ss) := by
  induction ss with
  | nil => simp [exp2, sumF, exV2, pz_nil]
  | cons s ss ih =>
    rw [pz_cons, ih, exp2, sumF_flat]
    unfold cv
    rw [sumF_mulR]
    refine sumF_congr fun y _ => ?_
    rw [sumF_mul, sumF_map]
    refine sumF_congr fun e _ => ?_
    unfold cvT exV2
    simp only
    rw [pz_append, pz_cons, Int.natCast_mul]
    simp only [Int.mul_assoc, Int.mul_left_comm, Int.mul_comm]
/-! ### terms in three maps -/
abbrev TM := ((List Nat × List Nat) × Nat) × Nat
def tmV (a b c : Nat → Int) (x : TM) : Int := (x.2 : Int) * (pz a x.1.1.1 * (pz b x.1.1.2 * c x.1.2))
def lhs3 (p : Nat) : List TM := (CP p).flatMap fun x => (exp2 x.1.1).map fun e => (((e.1.1, e.1.2), x.1.2), x.2 * e.2)
def rhs3 (p : Nat) : List TM := (CP p).flatMap fun x => (CP x.1.2).map fun y => (((x.1.1, y.1.1), y.1.2), x.2 * y.2)
theorem lhs3_is (a b c : Nat → Int) (p : Nat) : cv (cv a b) c p = sumF (tmV a b c) (lhs3 p) := by
  unfold cv lhs3
  rw [sumF_flat]
  refine sumF_congr fun x _ => ?_
  show (x.2 : Int) * (pz (cv a b) x.1.1 * c x.1.2) = _
  rw [exp2_is, sumF_mulR, sumF_mul, sumF_map]
  refine sumF_congr fun e _ => ?_
  unfold exV2 tmV
  simp only
  rw [Int.natCast_mul]
  simp only [Int.mul_assoc, Int.mul_left_comm, Int.mul_comm]
theorem rhs3_is (a b c : Nat → Int) (p : Nat) : cv a (cv b c) p = sumF (tmV a b c) (rhs3 p) := by
  unfold rhs3
  show sumF (cvT a (cv b c)) (CP p) = _
  rw [sumF_flat]
  refine sumF_congr fun x _ => ?_
  show (x.2 : Int) * (pz a x.1.1 * sumF (cvT b c) (CP x.1.2)) = _
  rw [sumF_mul, sumF_mul, sumF_map]
  refine sumF_congr fun y _ => ?_
  unfold cvT tmV
  simp only
  rw [Int.natCast_mul]
  simp only [Int.mul_assoc, Int.mul_left_comm, Int.mul_comm]
/-! ### normal forms -/
def insZ (p : Nat) : List Nat → List Nat
  | [] => [p]
  | q :: qs => bif Nat.ble p q then p :: q :: qs else q :: insZ p qs
def srtZ : List Nat → List Nat
  | [] => []
  | p :: ps => insZ p (srtZ ps)
def nz : List Nat → List Nat
  | [] => []
  | p :: ps => bif Nat.beq p 0 then nz ps else p :: nz ps
def nrmT (x : TM) : TM := (((srtZ x.1.1.1, srtZ (nz x.1.1.2)), x.1.2), x.2)
/-- 0 equal, 1 less, 2 greater -/
def cmpN : List Nat → List Nat → Nat
  | [], [] => 0
  | [], _ :: _ => 1
  | _ :: _, [] => 2
  | a :: us, b :: vs => bif Nat.beq a b then cmpN us vs else bif Nat.blt a b then 1 else 2
def cmpK3 (x y : (List Nat × List Nat) × Nat) : Nat := match cmpN x.1.1 y.1.1 with
  | 0 => (match cmpN x.1.2 y.1.2 with
    | 0 => bif Nat.beq x.2 y.2 then 0 else bif Nat.blt x.2 y.2 then 1 else 2
    | k + 1 => k + 1)
  | k + 1 => k + 1
def insT (x : TM) : List TM → List TM
  | [] => [x]
  | y :: ys => match cmpK3 x.1 y.1 with
    | 0 => (y.1, y.2 + x.2) :: ys
    | 1 => x :: y :: ys
    | _ => y :: insT x ys
def nrm : List TM → List TM
  | [] => []
  | x :: xs => insT (nrmT x) (nrm xs)
theorem insZ_pz (a : Nat → Int) (p : Nat) (ps : List Nat) : pz a (insZ p ps) = a p * pz a ps := by
  induction ps with
  | nil => rfl
  | cons q qs ih =>
    unfold insZ
    cases Nat.ble p q with
    | true => rfl
    | false => simp only [cond_false, pz_cons, ih]; rw [Int.mul_left_comm]
theorem srtZ_pz (a : Nat → Int) (ps : List Nat) : pz a (srtZ ps) = pz a ps := by
  induction ps with
  | nil => rfl
  | cons p ps ih => rw [srtZ, insZ_pz, ih, pz_cons]
theorem nz_pz {a : Nat → Int} (h : a 0 = 1) (ps : List Nat) : pz a (nz ps) = pz a ps := by
  induction ps with
  | nil => rfl
  | cons p ps ih =>
    unfold nz
    cases hp : Nat.beq p 0 with
    | true =>
      have := Nat.eq_of_beq_eq_true hp
      subst this
      rw [cond_true, ih, pz_cons, h, Int.one_mul]
    | false => rw [cond_false, pz_cons, pz_cons, ih]
theorem nrmT_is (a b c : Nat → Int) (h : b 0 = 1) (x : TM) : tmV a b c (nrmT x) = tmV a b c x := by
  unfold tmV nrmT
  simp only
  rw [srtZ_pz, srtZ_pz, nz_pz h]
theorem cmpN_zero : ∀ {x y : List Nat}, cmpN x y = 0 → x = y
  | [], [], _ => rfl
  | [], _ :: _, h => by cases h
  | _ :: _, [], h => by cases h
  | a :: x, b :: y, h => by
    rw [cmpN] at h
    cases hb : Nat.beq a b with
    | true => rw [hb, cond_true] at h; rw [cmpN_zero h, Nat.eq_of_beq_eq_true hb]
    | false => rw [hb, cond_false] at h; cases h2 : Nat.blt a b <;> rw [h2] at h <;> cases h
theorem cmpK3_zero {x y : (List Nat × List Nat) × Nat} (h : cmpK3 x y = 0) : x = y := by
  obtain ⟨⟨a, b⟩, c⟩ := x
  obtain ⟨⟨a', b'⟩, c'⟩ := y
  unfold cmpK3 at h
  simp only at h
  cases h1 : cmpN a a' with
  | succ k => rw [h1] at h; cases h
  | zero =>
    rw [h1] at h
    simp only at h
    cases h2 : cmpN b b' with
    | succ k => rw [h2] at h; cases h
    | zero =>
      rw [h2] at h
      simp only at h
      cases h3 : Nat.beq c c' with
      | true => rw [cmpN_zero h1, cmpN_zero h2, Nat.eq_of_beq_eq_true h3]
      | false => rw [h3, cond_false] at h; cases h4 : Nat.blt c c' <;> rw [h4] at h <;> cases h
theorem insT_is (a b c : Nat → Int) (x : TM) (ys : List TM) : sumF (tmV a b c) (insT x ys) = tmV a b c x + sumF (tmV a b c) ys := by
  induction ys with
  | nil => rfl
  | cons y ys ih =>
    unfold insT
    split
    · next h =>
      have := cmpK3_zero h
      simp only [sumF]
      unfold tmV
      rw [← this]
      simp only
      rw [Int.natCast_add, Int.add_mul]
      omega
    · rfl
    · simp only [sumF, ih]; omega
theorem nrm_is (a b c : Nat → Int) (h : b 0 = 1) (xs : List TM) : sumF (tmV a b c) (nrm xs) = sumF (tmV a b c) xs := by
  induction xs with
  | nil => rfl
  | cons x xs ih => rw [nrm, insT_is, ih, nrmT_is a b c h]; rfl
def eqT3 (x y : TM) : Bool := Nat.beq (cmpK3 x.1 y.1) 0 && Nat.beq x.2 y.2
def eqTs : List TM → List TM → Bool
  | [], [] => true
  | x :: xs, y :: ys => eqT3 x y && eqTs xs ys
  | _, _ => false
theorem eqTs_iff : ∀ {xs ys : List TM}, eqTs xs ys = true → xs = ys
  | [], [], _ => rfl
  | [], _ :: _, h => by cases h
  | _ :: _, [], h => by cases h
  | (k, n) :: xs, (k', n') :: ys, h => by
    unfold eqTs eqT3 at h
    simp only [Bool.and_eq_true] at h
    rw [eqTs_iff h.2, cmpK3_zero (Nat.eq_of_beq_eq_true h.1.1), Nat.eq_of_beq_eq_true h.1.2]
theorem as3 : (List.range 38).all (fun p => eqTs (nrm (lhs3 p)) (nrm (rhs3 p))) = true := by decide +kernel
/-- the convolution is associative -/
theorem cv_assoc {a b c : Nat → Int} (h : b 0 = 1) {p : Nat} (hp : p < 38) : cv (cv a b) c p = cv a (cv b c) p := by
  have h1 := as3
  rw [List.all_eq_true] at h1
  have h2 := eqTs_iff (h1 p (by simpa using hp))
  rw [lhs3_is, rhs3_is, ← nrm_is a b c h, h2, nrm_is a b c h]
/-! ### units -/
def un (p : Nat) : Int := if p = 0 then 1 else 0
def okUn (p : Nat) (x : MCt) : Bool := (match x.1.1 with
    | [] => Nat.beq x.1.2 p && Nat.beq x.2 1
    | k :: _ => Nat.blt 0 k) && (bif Nat.beq x.1.2 0 then (match x.1.1 with
      | [k] => Nat.beq k p && Nat.beq x.2 1
      | [] => Nat.beq p 0
      | _ => false) else true)
def cntE : List MCt → Nat
  | [] => 0
  | x :: xs => (match x.1.1 with | [] => 1 | _ => 0) + cntE xs
def cntZ : List MCt → Nat
  | [] => 0
  | x :: xs => (bif Nat.beq x.1.2 0 then 1 else 0) + cntZ xs
theorem un3 : (List.range 38).all (fun p => (CP p).all (okUn p) && (Nat.beq (cntE (CP p)) 1 && Nat.beq (cntZ (CP p)) 1)) = true := by decide +kernel
theorem un_at {p : Nat} (hp : p < 38) : (∀ x ∈ CP p, okUn p x = true) ∧ cntE (CP p) = 1 ∧ cntZ (CP p) = 1 := by
  have h1 := un3
  rw [List.all_eq_true] at h1
  have h2 := h1 p (by simpa using hp)
  simp only [Bool.and_eq_true, List.all_eq_true] at h2
  exact ⟨h2.1, Nat.eq_of_beq_eq_true h2.2.1, Nat.eq_of_beq_eq_true h2.2.2⟩
theorem unL_sum (b : Nat → Int) (p : Nat) : ∀ l : List MCt, (∀ x ∈ l, okUn p x = true) → sumF (cvT un b) l = (cntE l : Int) * b p
  | [], _ => by simp [sumF, cntE]
  | ((cr, tr), n) :: l, h => by
    have h1 := h ((cr, tr), n) (by simp)
    have ih := unL_sum b p l fun x hx => h x (by simp [hx])
    simp only [sumF, ih, cntE]
    unfold okUn at h1
    simp only [Bool.and_eq_true] at h1
    cases cr with
    | nil =>
      simp only at h1
      have e1 := Nat.eq_of_beq_eq_true (Bool.and_eq_true _ _ ▸ h1.1).1
      have e2 := Nat.eq_of_beq_eq_true (Bool.and_eq_true _ _ ▸ h1.1).2
      subst e1 e2
      unfold cvT
      simp only [pz_nil, Int.natCast_add, Int.add_mul]
      simp
    | cons k ks =>
      simp only at h1
      have hk := blt_lt h1.1
      have : un k = 0 := if_neg (by omega)
      unfold cvT
      simp only [pz_cons, this, Int.zero_mul, Int.mul_zero, Nat.zero_add]
      omega
theorem cv_unL (b : Nat → Int) {p : Nat} (hp : p < 38) : cv un b p = b p := by
  obtain ⟨h1, h2, -⟩ := un_at hp
  unfold cv
  rw [unL_sum b p _ h1, h2]
  simp
/-- what the whole tree in the crown adds, and the rest -/
def posT (a b : Nat → Int) (x : MCt) : Int := bif Nat.blt 0 x.1.2 then cvT a b x else 0
def posE (a b : Nat → Int) (x : MCt) : Int := match x.1.1 with
  | [] => 0
  | _ :: _ => cvT a b x
theorem posT_sum (a b : Nat → Int) {p : Nat} (h0 : 0 < p) : ∀ l : List MCt, (∀ x ∈ l, okUn p x = true) → sumF (cvT a b) l = sumF (posT a b) l + (cntZ l : Int) * (a p * b 0)
  | [], _ => by simp [sumF, cntZ]
  | ((cr, tr), n) :: l, h => by
    have h1 := h ((cr, tr), n) (by simp)
    have ih := posT_sum a b h0 l fun x hx => h x (by simp [hx])
    simp only [sumF, ih, cntZ]
    unfold okUn at h1
    simp only [Bool.and_eq_true] at h1
    cases tr with
    | zero =>
      have h2 := h1.2
      rw [Nat.beq_refl, cond_true] at h2
      cases cr with
      | nil => simp only at h2; have := Nat.eq_of_beq_eq_true h2; omega
      | cons k ks =>
        cases ks with
        | cons k2 ks => cases h2
        | nil =>
          simp only [Bool.and_eq_true] at h2
          have e1 := Nat.eq_of_beq_eq_true h2.1
          have e2 := Nat.eq_of_beq_eq_true h2.2
          subst e1 e2
          unfold posT cvT
          simp only [pz_cons, pz_nil]
          have e3 : Nat.blt 0 0 = false := rfl
          have e4 : Nat.beq 0 0 = true := rfl
          rw [e3, e4, cond_false, cond_true, Int.natCast_add, Int.add_mul]
          simp
          omega
    | succ tr =>
      have e3 : Nat.blt 0 (tr + 1) = true := Nat.ble_eq_true_of_le (by omega)
      have e4 : Nat.beq (tr + 1) 0 = false := rfl
      unfold posT
      simp only [e3, e4, cond_true, cond_false, Nat.zero_add]
      omega
theorem cv_pos (a b : Nat → Int) {p : Nat} (h0 : 0 < p) (hp : p < 38) : cv a b p = sumF (posT a b) (CP p) + a p * b 0 := by
  obtain ⟨h1, -, h3⟩ := un_at hp
  unfold cv
  rw [posT_sum a b h0 _ h1, h3]
  simp
theorem posE_sum (a b : Nat → Int) (p : Nat) : ∀ l : List MCt, (∀ x ∈ l, okUn p x = true) → sumF (cvT a b) l = sumF (posE a b) l + (cntE l : Int) * b p
  | [], _ => by simp [sumF, cntE]
  | ((cr, tr), n) :: l, h => by
    have h1 := h ((cr, tr), n) (by simp)
    have ih := posE_sum a b p l fun x hx => h x (by simp [hx])
    simp only [sumF, ih, cntE]
    unfold okUn at h1
    simp only [Bool.and_eq_true] at h1
    cases cr with
    | nil =>
      simp only at h1
      have e1 := Nat.eq_of_beq_eq_true (Bool.and_eq_true _ _ ▸ h1.1).1
      have e2 := Nat.eq_of_beq_eq_true (Bool.and_eq_true _ _ ▸ h1.1).2
      subst e1 e2
      unfold cvT posE
      simp only [pz_nil, Int.natCast_add, Int.add_mul]
      simp
      omega
    | cons k ks =>
      unfold posE
      simp only [Nat.zero_add]
      omega
theorem cv_rest (a b : Nat → Int) {p : Nat} (hp : p < 38) : cv a b p = sumF (posE a b) (CP p) + b p := by
  obtain ⟨h1, h2, -⟩ := un_at hp
  unfold cv
  rw [posE_sum a b p _ h1, h2]
  simp
theorem cv_unR (a : Nat → Int) (h : a 0 = 1) {p : Nat} (hp : p < 38) : cv a un p = a p := by
  by_cases h0 : 0 < p
  · rw [cv_pos a un h0 hp]
    have : sumF (posT a un) (CP p) = sumF (fun _ => 0) (CP p) := sumF_congr fun x _ => by
      unfold posT cvT
      cases hx : Nat.blt 0 x.1.2 with
      | false => rfl
      | true =>
        have := blt_lt hx
        have h2 : un x.1.2 = 0 := if_neg (by omega)
        rw [h2]; simp
    rw [this]
    have hz : ∀ l : List MCt, sumF (fun _ => (0 : Int)) l = 0 := fun l => by
      induction l with
      | nil => rfl
      | cons x l ih => simp only [sumF, ih]; rfl
    rw [hz]
    simp [un]
  · have : p = 0 := by omega
    subst this
    rw [h]; rfl
/-! ### modulo the prime -/
theorem pz_mod {a a' : Nat → Int} {ps : List Nat} (h : ∀ p ∈ ps, a p % 10007 = a' p % 10007) : pz a ps % 10007 = pz a' ps % 10007 := by
  induction ps with
  | nil => rfl
  | cons p ps ih =>
    rw [pz_cons, pz_cons, Int.mul_emod, h p (by simp), ih fun q hq => h q (by simp [hq]), ← Int.mul_emod]
theorem sumF_modc {α : Type} {g g' : α → Int} : ∀ {l : List α}, (∀ x ∈ l, g x % 10007 = g' x % 10007) → sumF g l % 10007 = sumF g' l % 10007
  | [], _ => rfl
  | x :: l, h => by
    have h1 := h x (by simp)
    have h2 := sumF_modc (l := l) fun y hy => h y (by simp [hy])
    simp only [sumF]
    omega
theorem cvT_mod {a a' b b' : Nat → Int} {x : MCt} (h : ∀ p ∈ x.1.1, a p % 10007 = a' p % 10007) (h' : b x.1.2 % 10007 = b' x.1.2 % 10007) : cvT a b x % 10007 = cvT a' b' x % 10007 := by
  unfold cvT
  rw [Int.mul_emod, Int.mul_emod (pz a x.1.1), pz_mod h, h', ← Int.mul_emod (pz a' x.1.1), ← Int.mul_emod]
/-- the places in the cuts of a tree are places of maps -/
def okPc (p : Nat) (x : MCt) : Bool := x.1.1.all (fun k => Nat.ble k p) && Nat.ble x.1.2 p
theorem pc3 : (List.range 38).all (fun p => (CP p).all (okPc p)) = true := by decide +kernel
theorem pc_at {p : Nat} (hp : p < 38) {x : MCt} (hx : x ∈ CP p) : (∀ k ∈ x.1.1, k ≤ p) ∧ x.1.2 ≤ p := by
  have h1 := pc3
  rw [List.all_eq_true] at h1
  have h2 := h1 p (by simpa using hp)
  rw [List.all_eq_true] at h2
  have h3 := h2 x hx
  unfold okPc at h3
  simp only [Bool.and_eq_true, List.all_eq_true] at h3
  exact ⟨fun k hk => Nat.le_of_ble_eq_true (h3.1 k hk), Nat.le_of_ble_eq_true h3.2⟩
theorem cv_mod {a a' b b' : Nat → Int} {p : Nat} (hp : p < 38) (h : ∀ k, k ≤ p → a k % 10007 = a' k % 10007) (h' : ∀ k, k ≤ p → b k % 10007 = b' k % 10007) : cv a b p % 10007 = cv a' b' p % 10007 := by
  unfold cv
  exact sumF_modc fun x hx => cvT_mod (fun k hk => h k ((pc_at hp hx).1 k hk)) (h' _ (pc_at hp hx).2)
/-- an inverse on the left and one on the right are the same -/
theorem inv_both {a x y : Nat → Int} (ha : a 0 = 1) (hx : x 0 = 1) (h1 : ∀ p, p < 38 → cv x a p % 10007 = un p % 10007) (h2 : ∀ p, p < 38 → cv a y p % 10007 = un p % 10007) : ∀ p, p < 38 → x p % 10007 = y p % 10007 := by
  intro p hp
  have e1 : cv (cv x a) y p % 10007 = y p % 10007 := by
    rw [← cv_unL y hp]
    exact cv_mod hp (fun k hk => h1 k (by omega)) fun k _ => rfl
  have e2 : cv x (cv a y) p % 10007 = x p % 10007 := by
    rw [← cv_unR x hx hp]
    exact cv_mod hp (fun k _ => rfl) fun k hk => h2 k (by omega)
  rw [← e1, ← e2, cv_assoc ha hp]
end Go.Proofs.YtngdpoeondnchaaGreat

set_option maxRecDepth 100000
set_option linter.unusedVariables false
set_option linter.unusedSimpArgs false
namespace Go.Proofs.YtngdpoeondnchaaGreat
open Go.RowKit

abbrev SC := SP × Nat
/-! ### the order of cuts: 0 for equal ones, 1 for less, 2 for greater -/
def scan5 : List (List Nat) → List (List Nat) → Nat
  | x :: f, y :: g => bif befN x y then 1 else bif befN y x then 2 else scan5 f g
  | _, _ => 0
def cmp5 (f g : List (List Nat)) : Nat := bif Nat.beq f.length g.length then scan5 f g else bif Nat.blt f.length g.length then 1 else 2
def ord5 (a b : SP) : Nat := bif Nat.beq (ndN a.1) (ndN b.1) then (match cmp5 a.1 b.1 with
    | 0 => cmp5 a.2 b.2
    | k + 1 => k + 1)
  else bif Nat.blt (ndN a.1) (ndN b.1) then 1 else 2
def cod5 : Nat → Int
  | 0 => 0
  | 1 => -1
  | _ => 1
/-! ### one more cut -/
def step5 (cut : SC) (st : List SC × Bool) (own : SC) : List SC × Bool := match st.2 with
  | true => (st.1 ++ [own], true)
  | false => match ord5 cut.1 own.1 with
    | 0 => (st.1 ++ [(own.1, own.2 + cut.2)], true)
    | 1 => (st.1 ++ [cut] ++ [own], true)
    | _ => (st.1 ++ [own], false)
def put5S (cut : SC) (l : List SC) : List SC × Bool := l.foldl (step5 cut) ([], false)
def put5 (l : List SC) (cut : SC) : List SC := match (put5S cut l).2 with
  | true => (put5S cut l).1
  | false => (put5S cut l).1 ++ [cut]
def tim5 (x y : SC) : SC := ((srtB (x.1.1 ++ y.1.1), srtB (x.1.2 ++ y.1.2)), x.2 * y.2)
def row5 (b : List SC) (x : SC) (out : List SC) : List SC := b.foldl (fun out y => put5 out (tim5 x y)) out
def times5 (a b : List SC) : List SC := a.foldl (fun out x => row5 b x out) []
/-! ### premises -/
def okC5 (x : SC) : Bool := okS1 x.1 && Nat.ble x.2 100
def okL5 (l : List SC) : Bool := Nat.ble l.length 100 && l.all okC5
def loop5 (g : List Nat → Option (List SC)) : List (List Nat) → List SC → Option (List SC)
  | [], acc => some acc
  | b :: bs, acc => match g b with
    | none => none
    | some lb => bif okL5 acc && (okL5 lb && okL5 (times5 acc lb)) then loop5 g bs (times5 acc lb) else none
def root5 (x : SC) : Option SC := bif okT1 (rootN x.1.2) && Nat.ble (brLen x.1.2) 1000 then match canO 9 (rootN x.1.2) with
    | none => none
    | some r => bif okT1 r then some ((x.1.1, [r]), x.2) else none
  else none
def tree5 : Nat → List Nat → Option (List SC)
  | 0, _ => none
  | f + 1, t => bif okT1 t then match canO 9 t with
      | none => none
      | some c => bif okT1 c then match brO c with
        | none => none
        | some ps => bif Nat.ble ps.length 100 && ps.all okT1 then match loop5 (tree5 f) (srtB ps) [(([], []), 1)] with
          | none => none
          | some l => bif okL5 l then match mapO root5 l with
            | none => none
            | some l2 => bif okL5 l2 && okL5 (l2.foldl put5 [(([t], []), 1)]) then some (l2.foldl put5 [(([t], []), 1)]) else none
          else none
        else none
      else none
  else none
/-- the cuts of a tree -/
def cut5 (x : SC) : CU := ((x.1.1, x.1.2.headD []), x.2)
/-- by places -/
def mcR (c : CU) : MC := ((c.1.1.map (fndN T6n), fndN T6n c.1.2), c.2)
def eqMC (x y : MC) : Bool := eqN x.1.1 y.1.1 && (Nat.beq x.1.2 y.1.2 && Nat.beq x.2 y.2)
def eqML : List MC → List MC → Bool
  | [], [] => true
  | x :: xs, y :: ys => eqMC x y && eqML xs ys
  | _, _ => false
def okMC (n : Nat) (x : MC) : Bool := x.1.1.all (fun p => Nat.ble 1 p && Nat.ble p n) && (Nat.ble x.1.2 n && (Nat.ble x.1.1.length 100 && Nat.ble x.2 100))
/-- the places in the cuts of tree n: the crown's go up to its own, the trunk's too -/
def okCt (n : Nat) : Bool := match tree5 9 (T6n.getD n []) with
  | some l => eqML (cutsI T6n (T6n.getD n [])) (CTab.getD n []) && (eqML ((l.map cut5).map mcR) (CTab.getD n []) && (CTab.getD n []).all (okMC (n + 1)))
  | none => false
theorem okCt_all : (List.range 37).all okCt = true := by decide +kernel
theorem eqML_iff : ∀ {xs ys : List MC}, eqML xs ys = true → xs = ys
  | [], [], _ => rfl
  | [], _ :: _, h => by cases h
  | _ :: _, [], h => by cases h
  | ((a, b), c) :: xs, ((a', b'), c') :: ys, h => by
    unfold eqML eqMC at h
    simp only [Bool.and_eq_true] at h
    rw [eqML_iff h.2, eqN_iff.1 h.1.1, Nat.eq_of_beq_eq_true h.1.2.1, Nat.eq_of_beq_eq_true h.1.2.2]

theorem cut_at {n : Nat} (h : n < 37) : ∃ l, tree5 9 (T6n.getD n []) = some l ∧ cutsI T6n (T6n.getD n []) = CTab.getD n [] ∧ (l.map cut5).map mcR = CTab.getD n [] ∧ ∀ x ∈ CTab.getD n [], (∀ p ∈ x.1.1, 1 ≤ p ∧ p ≤ n + 1) ∧ x.1.2 ≤ n + 1 ∧ x.1.1.length ≤ 100 ∧ x.2 ≤ 100 := by
  have h1 := okCt_all
  rw [List.all_eq_true] at h1
  have h2 := h1 n (by simpa using h)
  unfold okCt at h2
  cases ht : tree5 9 (T6n.getD n []) with
  | none => rw [ht] at h2; cases h2
  | some l =>
    rw [ht] at h2
    simp only [Bool.and_eq_true, List.all_eq_true] at h2
    refine ⟨l, rfl, eqML_iff h2.1, eqML_iff h2.2.1, fun x hx => ?_⟩
    have h3 := h2.2.2 x hx
    unfold okMC at h3
    simp only [Bool.and_eq_true, List.all_eq_true] at h3
    exact ⟨fun p hp => ⟨Nat.le_of_ble_eq_true (h3.1 p hp).1, Nat.le_of_ble_eq_true (h3.1 p hp).2⟩, Nat.le_of_ble_eq_true h3.2.1, Nat.le_of_ble_eq_true h3.2.2.1, Nat.le_of_ble_eq_true h3.2.2.2⟩

/-! ### bounds on the way -/
def Bd5 (l : List SC) (n M : Nat) : Prop := l.length ≤ n ∧ ∀ x ∈ l, x.2 ≤ M
theorem step5_bd {cut own : SC} {st : List SC × Bool} {n M : Nat} (h : st.1.length ≤ n + (bif st.2 then 1 else 0)) (h2 : ∀ x ∈ st.1, x.2 ≤ M + cut.2) (ho : own.2 ≤ M) :
    (step5 cut st own).1.length ≤ n + 1 + (bif (step5 cut st own).2 then 1 else 0) ∧ ∀ x ∈ (step5 cut st own).1, x.2 ≤ M + cut.2 := by
  obtain ⟨out, d⟩ := st
  cases d with
  | true =>
    show (out ++ [own]).length ≤ n + 1 + 1 ∧ ∀ x ∈ out ++ [own], x.2 ≤ M + cut.2
    simp only [cond_true] at h
    refine ⟨by simp; omega, fun x hx => ?_⟩
    rcases List.mem_append.1 hx with hx | hx
    · exact h2 x hx
    · simp at hx; subst hx; omega
  | false =>
    simp only [cond_false] at h
    unfold step5
    simp only
    split
    · simp only [cond_true]
      refine ⟨by simp; omega, fun x hx => ?_⟩
      rcases List.mem_append.1 hx with hx | hx
      · exact h2 x hx
      · simp at hx; subst hx; simp only; omega
    · simp only [cond_true]
      refine ⟨by simp; omega, fun x hx => ?_⟩
      simp only [List.mem_append, List.mem_singleton] at hx
      rcases hx with (hx | rfl) | rfl
      · exact h2 x hx
      · omega
      · omega
    · simp only [cond_false]
      refine ⟨by simp; omega, fun x hx => ?_⟩
      rcases List.mem_append.1 hx with hx | hx
      · exact h2 x hx
      · simp at hx; subst hx; omega
theorem put5S_bd {cut : SC} {M : Nat} : ∀ (l : List SC) (st : List SC × Bool) (n : Nat), st.1.length ≤ n + (bif st.2 then 1 else 0) → (∀ x ∈ st.1, x.2 ≤ M + cut.2) → (∀ x ∈ l, x.2 ≤ M) →
    (l.foldl (step5 cut) st).1.length ≤ n + l.length + (bif (l.foldl (step5 cut) st).2 then 1 else 0) ∧ ∀ x ∈ (l.foldl (step5 cut) st).1, x.2 ≤ M + cut.2
  | [], st, n, h, h2, _ => ⟨by simpa using h, h2⟩
  | y :: l, st, n, h, h2, h3 => by
    obtain ⟨a, b⟩ := step5_bd (own := y) h h2 (h3 y (by simp))
    have := put5S_bd l (step5 cut st y) (n + 1) a b fun x hx => h3 x (by simp [hx])
    rw [List.foldl_cons, List.length_cons]
    exact ⟨by omega, this.2⟩
theorem put5S_bd0 {cut : SC} {M : Nat} {l : List SC} (h : ∀ x ∈ l, x.2 ≤ M) : (put5S cut l).1.length ≤ l.length + (bif (put5S cut l).2 then 1 else 0) ∧ ∀ x ∈ (put5S cut l).1, x.2 ≤ M + cut.2 := by
  have := put5S_bd (cut := cut) l ([], false) 0 (by simp) (by simp) h
  rw [Nat.zero_add] at this
  exact this
theorem put5_bd {cut : SC} {l : List SC} {n M : Nat} (h : Bd5 l n M) : Bd5 (put5 l cut) (n + 1) (M + cut.2) := by
  obtain ⟨a, b⟩ := put5S_bd0 (cut := cut) h.2
  have hl := h.1
  unfold put5
  split
  · next e => rw [e, cond_true] at a; exact ⟨by omega, b⟩
  · next e =>
    rw [e, cond_false] at a
    refine ⟨by simp; omega, fun x hx => ?_⟩
    rcases List.mem_append.1 hx with hx | hx
    · exact b x hx
    · simp at hx; subst hx; omega
theorem put5S_snoc (cut : SC) (l : List SC) (x : SC) : put5S cut (l ++ [x]) = step5 cut (put5S cut l) x := by simp [put5S]
theorem row5_snoc (b : List SC) (x y : SC) (out : List SC) : row5 (b ++ [y]) x out = put5 (row5 b x out) (tim5 x y) := by simp [row5]
theorem row5_bd {x : SC} {out : List SC} {n M K L : Nat} (ho : Bd5 out n M) (hx : x.2 ≤ K) : ∀ b : List SC, (∀ y ∈ b, y.2 ≤ L) → Bd5 (row5 b x out) (n + b.length) (M + b.length * (K * L)) := by
  intro b
  induction b generalizing out n M with
  | nil => intro _; simpa [row5] using ho
  | cons y b ih =>
    intro h
    have h1 : (tim5 x y).2 ≤ K * L := Nat.mul_le_mul hx (h y (by simp))
    have h2 := put5_bd (cut := tim5 x y) ho
    have h3 : Bd5 (put5 out (tim5 x y)) (n + 1) (M + K * L) := ⟨h2.1, fun z hz => by have := h2.2 z hz; omega⟩
    have h4 := ih h3 fun z hz => h z (by simp [hz])
    have e : row5 (y :: b) x out = row5 b x (put5 out (tim5 x y)) := rfl
    rw [e]
    refine ⟨by have := h4.1; rw [List.length_cons]; omega, fun z hz => ?_⟩
    have h5 := h4.2 z hz
    rw [List.length_cons, Nat.add_mul]
    omega
theorem times5_snoc (a b : List SC) (x : SC) : times5 (a ++ [x]) b = row5 b x (times5 a b) := by simp [times5]
theorem times5_bd {b : List SC} {K L : Nat} (hb : ∀ y ∈ b, y.2 ≤ L) : ∀ k (a : List SC), (∀ x ∈ a, x.2 ≤ K) → a.length = k → Bd5 (times5 a b) (k * b.length) (k * (b.length * (K * L))) := by
  intro k
  induction k with
  | zero => intro a _ h; have := List.eq_nil_of_length_eq_zero h; subst this; exact ⟨by simp [times5], by simp [times5]⟩
  | succ k ih =>
    intro a ha h
    obtain ⟨a', x, rfl⟩ : ∃ a' x, a = a' ++ [x] := by
      have hne : a ≠ [] := fun e => by rw [e] at h; cases h
      exact ⟨a.dropLast, a.getLast hne, (List.dropLast_concat_getLast hne).symm⟩
    have h1 := ih a' (fun z hz => ha z (by simp [hz])) (by simpa using h)
    rw [times5_snoc]
    have h2 := row5_bd h1 (ha x (by simp)) b hb
    refine ⟨by have := h2.1; rw [Nat.add_mul]; omega, fun z hz => ?_⟩
    have := h2.2 z hz
    rw [Nat.add_mul]
    omega
theorem okC5_of {x : SC} (h : okC5 x = true) : (SmallF x.1.1 ∧ SmallF x.1.2) ∧ (∀ b ∈ x.1.1, b.length ≤ 50 ∧ ∀ l ∈ b, l ≤ 1000) ∧ (∀ b ∈ x.1.2, b.length ≤ 50 ∧ ∀ l ∈ b, l ≤ 1000) ∧ x.2 ≤ 100 := by
  unfold okC5 okS1 at h
  simp only [Bool.and_eq_true] at h
  exact ⟨⟨(okF1_of h.1.1).1, (okF1_of h.1.2).1⟩, (okF1_of h.1.1).2, (okF1_of h.1.2).2, Nat.le_of_ble_eq_true h.2⟩
theorem okL5_of {l : List SC} (h : okL5 l = true) : l.length ≤ 100 ∧ ∀ x ∈ l, okC5 x = true := by
  unfold okL5 at h
  rw [Bool.and_eq_true, List.all_eq_true] at h
  exact ⟨Nat.le_of_ble_eq_true h.1, h.2⟩
theorem loop5_cons {g : List Nat → Option (List SC)} {b : List Nat} {bs : List (List Nat)} {acc r : List SC} (h : loop5 g (b :: bs) acc = some r) : ∃ lb, g b = some lb ∧ okL5 acc = true ∧ okL5 lb = true ∧ okL5 (times5 acc lb) = true ∧ loop5 g bs (times5 acc lb) = some r := by
  rw [loop5] at h
  cases h1 : g b with
  | none => rw [h1] at h; cases h
  | some lb =>
    rw [h1] at h
    simp only at h
    cases h2 : okL5 acc with
    | false => rw [h2] at h; cases h
    | true =>
      cases h3 : okL5 lb with
      | false => rw [h2, h3] at h; cases h
      | true =>
        cases h4 : okL5 (times5 acc lb) with
        | false => rw [h2, h3, h4] at h; cases h
        | true => rw [h2, h3, h4] at h; exact ⟨lb, rfl, rfl, h3, h4, h⟩
theorem root5_some {s s' : SC} (h : root5 s = some s') : okT1 (rootN s.1.2) = true ∧ brLen s.1.2 ≤ 1000 ∧ ∃ r, canO 9 (rootN s.1.2) = some r ∧ okT1 r = true ∧ s' = ((s.1.1, [r]), s.2) := by
  unfold root5 at h
  cases h1 : okT1 (rootN s.1.2) with
  | false => rw [h1] at h; cases h
  | true =>
    cases h2 : Nat.ble (brLen s.1.2) 1000 with
    | false => rw [h1, h2] at h; cases h
    | true =>
      rw [h1, h2] at h
      simp only [Bool.and_self, cond_true] at h
      refine ⟨rfl, Nat.le_of_ble_eq_true h2, ?_⟩
      cases h3 : canO 9 (rootN s.1.2) with
      | none => rw [h3] at h; cases h
      | some r =>
        rw [h3] at h
        simp only at h
        cases h4 : okT1 r with
        | false => rw [h4] at h; cases h
        | true => rw [h4] at h; injection h with h; exact ⟨r, rfl, h4, h.symm⟩
theorem tree5_succ {f : Nat} {t : List Nat} {r : List SC} (h : tree5 (f + 1) t = some r) : okT1 t = true ∧ ∃ c ps l l2, canO 9 t = some c ∧ okT1 c = true ∧ brO c = some ps ∧ ps.length ≤ 100 ∧ (∀ p ∈ ps, okT1 p = true) ∧ loop5 (tree5 f) (srtB ps) [(([], []), 1)] = some l ∧ okL5 l = true ∧ mapO root5 l = some l2 ∧ okL5 l2 = true ∧ okL5 r = true ∧ r = l2.foldl put5 [(([t], []), 1)] := by
  rw [tree5] at h
  cases h1 : okT1 t with
  | false => rw [h1] at h; cases h
  | true =>
    rw [h1] at h
    refine ⟨rfl, ?_⟩
    simp only [cond_true] at h
    cases h2 : canO 9 t with
    | none => rw [h2] at h; cases h
    | some c =>
      rw [h2] at h
      simp only at h
      cases h3 : okT1 c with
      | false => rw [h3] at h; cases h
      | true =>
        rw [h3] at h
        simp only [cond_true] at h
        cases h4 : brO c with
        | none => rw [h4] at h; cases h
        | some ps =>
          rw [h4] at h
          simp only at h
          cases h5 : Nat.ble ps.length 100 with
          | false => rw [h5] at h; cases h
          | true =>
            cases h6 : ps.all okT1 with
            | false => rw [h5, h6] at h; cases h
            | true =>
              rw [h5, h6] at h
              simp only [Bool.and_self, cond_true] at h
              cases h7 : loop5 (tree5 f) (srtB ps) [(([], []), 1)] with
              | none => rw [h7] at h; cases h
              | some l =>
                rw [h7] at h
                simp only at h
                cases h8 : okL5 l with
                | false => rw [h8] at h; cases h
                | true =>
                  rw [h8] at h
                  simp only [cond_true] at h
                  cases h9 : mapO root5 l with
                  | none => rw [h9] at h; cases h
                  | some l2 =>
                    rw [h9] at h
                    simp only at h
                    cases h10 : okL5 l2 with
                    | false => rw [h10] at h; cases h
                    | true =>
                      cases h11 : okL5 (l2.foldl put5 [(([t], []), 1)]) with
                      | false => rw [h10, h11] at h; cases h
                      | true =>
                        rw [h10, h11] at h
                        simp only [Bool.and_self, cond_true] at h
                        injection h with h
                        rw [List.all_eq_true] at h6
                        exact ⟨c, ps, l, l2, rfl, h3, h4, Nat.le_of_ble_eq_true h5, h6, h7, h8, h9, h10, by rw [← h]; exact h11, h.symm⟩
end Go.Proofs.YtngdpoeondnchaaGreat

