import Derived.Test.YtofabikjjkapmaaGreatSm29
import Derived.Test.YtofabikjjkapmaaGreatSm23
import Derived.Test.YtofabikjjkapmaaGreatSm11
import Derived.Test.YtofabikjjkapmaaGreatSm12
import Derived.Test.YtofabikjjkapmaaGreatSm20
import Derived.Test.YtofabikjjkapmaaGreatSm21
import Derived.Test.YtofabikjjkapmaaGreatSm19
import Derived.Test.YtofabikjjkapmaaGreatSm24
set_option maxRecDepth 100000
set_option linter.unusedVariables false
set_option linter.unusedSimpArgs false
namespace Go.Proofs.YtofabikjjkapmaaGreat
open Go.RowKit
def mapH (o : Nat) : List Nat -> Option (List Nat × Bool)
 | [] => some ([], true)
 | k :: ks => match hc k with
  | (0, _) => none
  | (i + 1, s) => match mapH o ks with
   | none => none
   | some (l, t) => some ((o + i) :: l, s == t)
def subH (o : Nat) : Pol -> Pol
 | [] => []
 | t :: P => match mapH o t.1 with
  | none => subH o P
  | some (l, b) => insP (srtZ l, bif b then t.2 else 10007 - t.2 % 10007) (subH o P)
def shf (o : Nat) (z : Nat -> Int) (i : Nat) : Int := z (o + i)
theorem mapH_pz (o : Nat) (z : Nat -> Int) : ∀ ks : List Nat, match mapH o ks with
  | none => pz (cval (shf o z)) ks = 0
  | some (l, b) => pz (cval (shf o z)) ks = bif b then pz z l else - pz z l
 | [] => by show pz _ [] = bif true then pz z [] else _; rfl
 | k :: ks => by
  have ih := mapH_pz o z ks
  unfold mapH
  rw [pz_cons]
  cases hk : hc k with
  | mk i s =>
   cases i with
   | zero =>
    show cval (shf o z) k * _ = 0
    unfold cval
    rw [hk]
    exact Int.zero_mul _
   | succ i =>
    have hv : cval (shf o z) k = bif s then z (o + i) else - z (o + i) := by unfold cval; rw [hk]; rfl
    simp only
    cases hm : mapH o ks with
    | none => rw [hm] at ih; simp only at ih ⊢; rw [ih, Int.mul_zero]
    | some lt =>
     obtain ⟨l, t⟩ := lt
     rw [hm] at ih
     simp only at ih ⊢
     rw [hv, ih, pz_cons]
     cases s <;> cases t <;> simp [Int.neg_mul, Int.mul_neg]
theorem neg_coef (n : Nat) (x : Int) : ((10007 - n % 10007 : Nat) : Int) * x % 10007 = -((n : Int) * x) % 10007 := by
 have h2 : ((10007 - n % 10007 : Nat) : Int) = 10007 - (n : Int) % 10007 := by omega
 rw [h2, <- Int.neg_mul, Int.mul_emod, Int.mul_emod (-(n : Int))]
 congr 2
 omega
theorem subH_pv (o : Nat) (z : Nat -> Int) (P : Pol) : pv z (subH o P) % 10007 = pv (cval (shf o z)) P % 10007 := by
 induction P with
 | nil => rfl
 | cons t P ih =>
  have hm := mapH_pz o z t.1
  unfold subH
  show _ = (tmv (cval (shf o z)) t + pv (cval (shf o z)) P) % 10007
  cases h : mapH o t.1 with
  | none =>
   rw [h] at hm
   simp only at hm ⊢
   unfold tmv
   rw [hm, Int.mul_zero, Int.zero_add]
   exact ih
  | some lb =>
   obtain ⟨l, b⟩ := lb
   rw [h] at hm
   simp only at hm ⊢
   rw [insP_pv]
   have e : tmv z (srtZ l, bif b then t.2 else 10007 - t.2 % 10007) % 10007 = tmv (cval (shf o z)) t % 10007 := by
    unfold tmv
    rw [hm]
    show ((bif b then t.2 else 10007 - t.2 % 10007 : Nat) : Int) * pz z (srtZ l) % 10007 = _
    rw [srtZ_pz]
    cases b with
    | true => rfl
    | false => rw [cond_false, cond_false, neg_coef, Int.mul_neg]
   omega
def hE (o p : Nat) : Pol := subH o (eT p)
theorem hE_pv (o : Nat) (z : Nat -> Int) {p : Nat} (hp : p < 38) : pv z (hE o p) % 10007 = eV (cval (shf o z)) 6 p % 10007 := by
 unfold hE
 rw [subH_pv, eV_pv _ hp]
def okSy (X : Nat -> Pol) (i k : Nat) : Bool := bif Nat.ble (szT (i + 1) + szT (k + 1)) 6 then eqPl (dz (addP (X (gP i k)) (X (gP k i)))) (dz (mulP (X (i + 1)) (X (k + 1)))) else true
theorem sy1 : (List.range 37).all (fun i => (List.range 37).all (okSy (hE 0) i)) = true := by decide +kernel
theorem okSy_at {X : Nat -> Pol} (h : (List.range 37).all (fun i => (List.range 37).all (okSy X i)) = true) {i k : Nat} (hi : i < 37) (hk : k < 37) (hs : szT (i + 1) + szT (k + 1) <= 6) (z : Nat -> Int) :
  (pv z (X (gP i k)) + pv z (X (gP k i))) % 10007 = pv z (X (i + 1)) * pv z (X (k + 1)) % 10007 := by
 rw [List.all_eq_true] at h
 have h2 := h i (List.mem_range.2 hi)
 rw [List.all_eq_true] at h2
 have h3 := h2 k (List.mem_range.2 hk)
 unfold okSy at h3
 rw [Nat.ble_eq_true_of_le hs, cond_true] at h3
 rw [<- addP_pv, pv_eq h3, mulP_pv]
theorem gP_bd {i k : Nat} (hi : i < 37) (hk : k < 37) (hs : szT (i + 1) + szT (k + 1) <= 6) : 0 < gP i k /\ gP i k < 38 := by
 obtain ⟨r, -, -, -, -, h1, h2, -⟩ := gOk_at (tr_mem hi) (tr_mem hk) (by rw [<- szT_tr hi, <- szT_tr hk]; exact hs)
 exact ⟨h1, by show gIdx _ _ < 38; omega⟩
theorem sum_mul_mod {a b c d a' b' c' d' : Int} (h : (a + b) % 10007 = c * d % 10007) (ha : a % 10007 = a' % 10007) (hb : b % 10007 = b' % 10007) (hc : c % 10007 = c' % 10007) (hd : d % 10007 = d' % 10007) : (a' + b') % 10007 = c' * d' % 10007 := by
 rw [<- Int.emod_add_emod, <- ha, Int.emod_add_emod, <- Int.add_emod_emod, <- hb, Int.add_emod_emod, h, Int.mul_emod, hc, hd, <- Int.mul_emod]
theorem toR_of {X : Nat -> Pol} (h : (List.range 37).all (fun i => (List.range 37).all (okSy X i)) = true) {y : List Int} {z : Nat -> Int} (hy : ∀ p, p < 38 -> pv z (X p) % 10007 = gz y p % 10007) : ToR y 1 6 := by
 refine ⟨Nat.le_refl _, fun i k hi hk hs => ?_, .inl rfl⟩
 have hs' : szT (i + 1) + szT (k + 1) <= 6 := by rw [szT_tr hi, szT_tr hk]; exact hs
 have g1 := gP_bd hi hk hs'
 have g2 := gP_bd hk hi (by omega)
 have e := sum_mul_mod (okSy_at h hi hk hs' z) (hy _ g1.2) (hy _ g2.2) (hy _ (by omega)) (hy _ (by omega))
 show (gz y (gP i k) + gz y (gP k i)) % 10007 = 1 * (gz y (i + 1) * gz y (k + 1) % 10007) % 10007
 rw [e, Int.one_mul, Int.emod_emod_of_dvd _ (Int.dvd_refl _)]
theorem shf_zero (z : Nat -> Int) : shf 0 z = z := by funext i; show z (0 + i) = z i; rw [Nat.zero_add]
theorem hamZ_cv (zs : List Int) {p : Nat} (hp : p < 38) : gz (hamZ zs) p % 10007 = cval (gz zs) p % 10007 := by
 by_cases h0 : 0 < p
 · exact hamZ_gz zs hp h0
 · have : p = 0 := by omega
   subst this
   rfl
theorem expZ_ham (zs : List Int) {p : Nat} (hp : p < 38) : gz (expZ (hamZ zs)) p % 10007 = eV (cval (gz zs)) 6 p % 10007 := by
 rw [expZ_gz _ hp, Int.emod_emod_of_dvd _ (Int.dvd_refl _)]
 exact eV_mod (fun k hk => hamZ_cv zs hk) hp
theorem sym_exp (zs : List Int) : ToR (expZ (hamZ zs)) 1 6 := toR_of sy1 (z := gz zs) fun p hp => by
 rw [hE_pv 0 _ hp, shf_zero, expZ_ham zs hp]
def two (x y : Nat -> Int) (i : Nat) : Int := if i < 10 then x i else y (i - 10)
theorem cval_congr {x y : Nat -> Int} (h : ∀ i, i < 10 -> x i = y i) {p : Nat} (hp : p < 38) : cval x p = cval y p := by
 by_cases h0 : 0 < p
 · obtain ⟨-, -, h3⟩ := hv_at h0 hp
   unfold cval
   cases hi : (hc p).1 with
   | zero => rfl
   | succ i => simp only; rw [h i (by omega)]
 · have : p = 0 := by omega
   subst this
   rfl
theorem shf_two1 (x y : Nat -> Int) {i : Nat} (h : i < 10) : shf 0 (two x y) i = x i := by unfold shf two; rw [if_pos (by omega), Nat.zero_add]
theorem shf_two2 (x y : Nat -> Int) (i : Nat) : shf 10 (two x y) i = y i := by unfold shf two; rw [if_neg (by omega), Nat.add_sub_cancel_left]
def cP (p : Nat) : Pol := cvL (hE 0) (hE 10) (CP p)
theorem sy2 : (List.range 37).all (fun i => (List.range 37).all (okSy cP i)) = true := by decide +kernel
theorem eV_cv {x y : Nat -> Int} (h : ∀ i, i < 10 -> x i = y i) {p : Nat} (hp : p < 38) : eV (cval x) 6 p % 10007 = eV (cval y) 6 p % 10007 := eV_mod (fun k hk => by rw [cval_congr h hk]) hp
theorem sym_mul (zs ys : List Int) : ToR (cvZ (expZ (hamZ zs)) (expZ (hamZ ys))) 1 6 := toR_of sy2 (z := two (gz zs) (gz ys)) fun p hp => by
 unfold cP
 rw [cvZ_cv _ _ hp]
 exact cvL_pv (x := gz (expZ (hamZ zs))) (y := gz (expZ (hamZ ys))) fun c hc' => by
  have hpc := pc_at hp hc'
  refine ⟨fun k hk => ?_, ?_⟩
  · have hk38 : k < 38 := by have := hpc.1 k hk; omega
    rw [hE_pv 0 _ hk38, expZ_ham zs hk38]
    exact eV_cv (fun i hi => shf_two1 _ _ hi) hk38
  · have ht38 : c.1.2 < 38 := by have := hpc.2; omega
    rw [hE_pv 10 _ ht38, expZ_ham ys ht38]
    exact eV_cv (fun i hi => shf_two2 _ _ i) ht38
def negL (zs : List Int) : List Int := zs.map fun z => (-z) % 10007
theorem negL_gz (zs : List Int) (i : Nat) : gz (negL zs) i % 10007 = (- gz zs i) % 10007 := by
 show (zs.map fun z => (-z) % 10007).getD i 0 % 10007 = (- zs.getD i 0) % 10007
 rw [List.getD_eq_getElem?_getD, List.getD_eq_getElem?_getD, List.getElem?_map]
 cases zs[i]? with
 | none => rfl
 | some z => show (-z) % 10007 % 10007 = _; rw [Int.emod_emod_of_dvd _ (Int.dvd_refl _)]; rfl
theorem cval_neg {x y : Nat -> Int} (h : ∀ i, x i % 10007 = (- y i) % 10007) (p : Nat) : cval x p % 10007 = (- cval y p) % 10007 := by
 unfold cval
 cases (hc p).1 with
 | zero => rfl
 | succ i =>
  simp only
  have := h i
  cases (hc p).2 with
  | true => exact this
  | false =>
   rw [cond_false, cond_false]
   generalize x i = a at *
   generalize y i = b at *
   omega
theorem iv_expZ (zs : List Int) : iv (expZ (hamZ zs)) = expZ (hamZ (negL zs)) := by
 refine (iv_unique (chr_expZ _) (chr_expZ _) ?_).symm
 refine nums_ext (cvZ_nums (expZ_nums _)) unM_nums (cvZ_len _ _) unM_len fun p hp => ?_
 rw [cvZ_cv _ _ hp, unM_gz hp, <- exp_neg (cval (gz zs)) hp]
 refine cv_mod hp (fun k hk => ?_) fun k hk => expZ_ham zs (by omega)
 rw [expZ_ham _ (show k < 38 by omega)]
 exact eV_mod (fun q _ => cval_neg (negL_gz zs) q) (by omega)
theorem sym_inv (zs : List Int) : ToR (iv (expZ (hamZ zs))) 1 6 := by rw [iv_expZ]; exact sym_exp _
theorem lg_ar {y1 y2 h1 h2 l1 l2 c1 c2 e1 e2 f1 f2 : Int} (ey : (y1 + y2) % 10007 = (h1 + h2) % 10007) (a1 : (e1 - l1) % 10007 = (f1 - c1) % 10007) (a2 : (e2 - l2) % 10007 = (f2 - c2) % 10007)
  (b1 : e1 % 10007 = y1 % 10007) (b2 : e2 % 10007 = y2 % 10007) (d1 : h1 % 10007 = f1 % 10007) (d2 : h2 % 10007 = f2 % 10007) (hs : c1 + c2 = 0) : (l1 + l2) % 10007 = 0 := by omega
theorem lg_cval {y : List Int} (hy : Chr y) (ht : ToR y 1 6) : ∀ p, p < 38 -> gz (lgZ y) p % 10007 = cval (gz (frL (lgZ y))) p % 10007 := by
 obtain ⟨L, hL⟩ : ∃ L, L = lgZ y := ⟨_, rfl⟩
 obtain ⟨z, hz⟩ : ∃ z, z = frL L := ⟨_, rfl⟩
 rw [<- hL, <- hz]
 have heL : ∀ p, p < 38 -> eV (gz L) 6 p % 10007 = gz y p % 10007 := fun p hp => by
  have e := exp_lgZ hy
  have e2 := expZ_gz (lgZ y) hp
  rw [e] at e2
  rw [hL, e2, Int.emod_emod_of_dvd _ (Int.dvd_refl _)]
 have main : ∀ n, ∀ p, p < 38 -> szT p <= n -> gz L p % 10007 = cval (gz z) p % 10007 := by
  intro n
  induction n with
  | zero =>
   intro p hp hs
   have hp0 : ¬ 0 < p := fun h => by have := szT_pos h hp; omega
   have : p = 0 := by omega
   subst this
   show L.getD 0 0 % 10007 = _
   rw [hL, lgZ_head]
   rfl
  | succ n ih =>
   intro p hp hs
   by_cases hsn : szT p <= n
   · exact ih p hp hsn
   · have h0 : 0 < p := by
      cases p with
      | zero => exact absurd (Nat.zero_le n) hsn
      | succ p => omega
     refine chain (d := gz L) (z := gz z) (S := fun m => m = n + 1) (fun i k hi hk h6 hS => ?_) (fun q hq hS => ?_) p h0 hp (by omega)
     · obtain ⟨-, s1, s2⟩ := hp_at hi hk h6
       have g1 := gP_bd hi hk h6
       have g2 := gP_bd hk hi (by omega)
       have hsum := cval_pair (gz z) hi hk h6
       have hti := szT_pos (p := k + 1) (by omega) (by omega)
       have htk := szT_pos (p := i + 1) (by omega) (by omega)
       have small : ∀ q, q < 38 -> szT q <= n -> eV (gz L) 6 q % 10007 = eV (cval (gz z)) 6 q % 10007 := fun q hq hqs => by
        by_cases hq0 : 0 < q
        · have e := eV_part (x := gz L) (y := cval (gz z)) hq0 hq fun r hr hrs => ih r hr (by omega)
          have e2 := ih q hq hqs
          generalize eV (gz L) 6 q = u1 at *
          generalize eV (cval (gz z)) 6 q = u2 at *
          generalize gz L q = u3 at *
          generalize cval (gz z) q = u4 at *
          omega
        · have : q = 0 := by omega
          subst this
          rw [eV_zero, eV_zero]
       have ey := ht.all i k hi hk (by rw [<- szT_tr hi, <- szT_tr hk]; exact h6)
       have eh := (sym_exp z).all i k hi hk (by rw [<- szT_tr hi, <- szT_tr hk]; exact h6)
       change (gz y (gP i k) + gz y (gP k i)) % 10007 = 1 * (gz y (i + 1) * gz y (k + 1) % 10007) % 10007 at ey
       change (gz (expZ (hamZ z)) (gP i k) + gz (expZ (hamZ z)) (gP k i)) % 10007 = 1 * (gz (expZ (hamZ z)) (i + 1) * gz (expZ (hamZ z)) (k + 1) % 10007) % 10007 at eh
       have pi := small (i + 1) (by omega) (by omega)
       have pk := small (k + 1) (by omega) (by omega)
       rw [heL _ (by omega), <- expZ_ham z (by omega)] at pi pk
       rw [Int.mul_emod (gz y (i + 1)), pi, pk, <- Int.mul_emod] at ey
       have ey := ey.trans eh.symm
       have a1 := eV_part (x := gz L) (y := cval (gz z)) g1.1 g1.2 fun r hr hrs => ih r hr (by omega)
       have a2 := eV_part (x := gz L) (y := cval (gz z)) g2.1 g2.2 fun r hr hrs => ih r hr (by omega)
       have b1 := heL _ g1.2
       have b2 := heL _ g2.2
       have c1 := expZ_ham z g1.2
       have c2 := expZ_ham z g2.2
       exact lg_ar ey a1 a2 b1 b2 c1 c2 hsum
     · obtain ⟨j, hj, hjq⟩ := List.mem_iff_getElem.1 hq
       have hj10 : j < 10 := hj
       have eq : q = HBas.getD j 0 := by rw [List.getD_eq_getElem?_getD, List.getElem?_eq_getElem hj, <- hjq]; rfl
       rw [eq, cval_base _ hj10]
       show L.getD _ 0 % 10007 = z.getD j 0 % 10007
       rw [hz, frL_at L hj10]
 exact fun p hp => main _ p hp (Nat.le_refl _)
theorem ham_of_cval {x : List Int} {z : Nat -> Int} (h : ∀ p, p < 38 -> gz x p % 10007 = cval z p % 10007) : ToR x 0 6 := by
 refine ⟨Nat.le_refl _, fun i k hi hk hs => ?_, .inl rfl⟩
 have hs' : szT (i + 1) + szT (k + 1) <= 6 := by rw [szT_tr hi, szT_tr hk]; exact hs
 have hsum := cval_pair z hi hk hs'
 have e1 := h _ (gP_bd hi hk hs').2
 have e2 := h _ (gP_bd hk hi (by omega)).2
 show (gz x (gP i k) + gz x (gP k i)) % 10007 = 0 * _ % 10007
 rw [Int.zero_mul]
 exact ar3 e1 e2 hsum
theorem ham_log {y : List Int} (hy : Chr y) (ht : ToR y 1 6) : ToR (lgZ y) 0 6 := ham_of_cval (lg_cval hy ht)
def vP (o k : Nat) : Pol := match hc k with
 | (0, _) => []
 | (i + 1, s) => [([o + i], bif s then 1 else 10006)]
theorem vP_pv (o : Nat) (z : Nat -> Int) (k : Nat) : pv z (vP o k) % 10007 = cval (shf o z) k % 10007 := by
 unfold vP cval
 cases hk : hc k with
 | mk i s =>
  cases i with
  | zero => rfl
  | succ i =>
   simp only
   show (((bif s then 1 else 10006 : Nat) : Int) * (z (o + i) * 1) + 0) % 10007 = (bif s then z (o + i) else - z (o + i)) % 10007
   cases s with
   | true => simp
   | false =>
    rw [cond_false, cond_false]
    generalize z (o + i) = x
    omega
def acL (X Y : Nat -> Pol) : List MCt -> Pol
 | [] => []
 | c :: cs => match c.1.1 with
  | [k] => addP (sclP c.2 (mulP (X k) (Y c.1.2))) (acL X Y cs)
  | _ => acL X Y cs
theorem acL_pv {z x y : Nat -> Int} {X Y : Nat -> Pol} : ∀ {l : List MCt}, (∀ c ∈ l, (∀ k ∈ c.1.1, pv z (X k) % 10007 = x k % 10007) /\ pv z (Y c.1.2) % 10007 = y c.1.2 % 10007) -> pv z (acL X Y l) % 10007 = sumF (actT x y) l % 10007
 | [], _ => rfl
 | c :: l, h => by
  obtain ⟨h1, h2⟩ := h c (by simp)
  have ih := acL_pv (l := l) fun d hd => h d (by simp [hd])
  obtain ⟨⟨cr, tr⟩, n⟩ := c
  match cr with
  | [] => show pv z (acL X Y l) % 10007 = (0 + sumF (actT x y) l) % 10007; rw [Int.zero_add]; exact ih
  | [k] =>
   show pv z (addP (sclP n (mulP (X k) (Y tr))) (acL X Y l)) % 10007 = ((n : Int) * (x k * y tr) + sumF (actT x y) l) % 10007
   rw [addP_pv]
   have e3 := sclP_pv z n (mulP (X k) (Y tr))
   have e4 : pv z (mulP (X k) (Y tr)) % 10007 = x k * y tr % 10007 := by rw [mulP_pv, Int.mul_emod, h1 k (by simp), h2, <- Int.mul_emod]
   have e5 : (n : Int) * pv z (mulP (X k) (Y tr)) % 10007 = (n : Int) * (x k * y tr) % 10007 := by rw [Int.mul_emod, e4, <- Int.mul_emod]
   omega
  | k :: j :: ks => show pv z (acL X Y l) % 10007 = (0 + sumF (actT x y) l) % 10007; rw [Int.zero_add]; exact ih
def bP (p : Nat) : Pol := addP (acL (vP 0) (vP 10) (CP p)) (sclP 10006 (acL (vP 10) (vP 0) (CP p)))
def okS0 (X : Nat -> Pol) (i k : Nat) : Bool := bif Nat.ble (szT (i + 1) + szT (k + 1)) 6 then eqPl (dz (addP (X (gP i k)) (X (gP k i)))) [] else true
theorem sy3 : (List.range 37).all (fun i => (List.range 37).all (okS0 bP i)) = true := by decide +kernel
def acI (b x : List Int) (c : MC) : Int := match c.1.1 with
 | [k] => (c.2 : Int) * (b.getD k 0 * x.getD c.1.2 0 % 10007) % 10007
 | _ => 0
def acZ (b x : List Int) : List Int := 0 :: (List.range 37).map fun n => sumF (acI b x) (CTab.getD n []) % 10007
theorem acI_mod (b x : List Int) (c : MC) : acI b x c % 10007 = actT (gz b) (gz x) c % 10007 := by
 obtain ⟨⟨cr, tr⟩, n⟩ := c
 match cr with
 | [] => rfl
 | [k] =>
  show (n : Int) * (b.getD k 0 * x.getD tr 0 % 10007) % 10007 % 10007 = (n : Int) * (b.getD k 0 * x.getD tr 0) % 10007
  rw [Int.emod_emod_of_dvd _ (Int.dvd_refl _), mul_modR]
 | k :: j :: ks => rfl
theorem acZ_gz (b x : List Int) {p : Nat} (hp : p < 38) : gz (acZ b x) p % 10007 = actV (gz b) (gz x) p % 10007 := by
 cases p with
 | zero => rfl
 | succ n =>
  have e : gz (acZ b x) (n + 1) = sumF (acI b x) (CTab.getD n []) % 10007 := by
   show (acZ b x).getD (n + 1) 0 = _
   unfold acZ
   simp [List.getD_eq_getElem?_getD, show n < 37 by omega]
  rw [e, Int.emod_emod_of_dvd _ (Int.dvd_refl _)]
  exact sumF_modc fun c _ => acI_mod b x c
def brZ (b c : List Int) : List Int := (List.range 38).map fun p => ((acZ b c).getD p 0 + 10006 * (acZ c b).getD p 0) % 10007
theorem brZ_gz (b c : List Int) {p : Nat} (hp : p < 38) : gz (brZ b c) p % 10007 = (actV (gz b) (gz c) p - actV (gz c) (gz b) p) % 10007 := by
 have e : gz (brZ b c) p = ((acZ b c).getD p 0 + 10006 * (acZ c b).getD p 0) % 10007 := by
  show (brZ b c).getD p 0 = _
  unfold brZ
  simp [List.getD_eq_getElem?_getD, hp]
 have e1 := acZ_gz b c hp
 have e2 := acZ_gz c b hp
 change (acZ b c).getD p 0 % 10007 = _ at e1
 change (acZ c b).getD p 0 % 10007 = _ at e2
 rw [e]
 generalize (acZ b c).getD p 0 = u at *
 generalize (acZ c b).getD p 0 = v at *
 generalize actV (gz b) (gz c) p = s at *
 generalize actV (gz c) (gz b) p = t at *
 omega
theorem bP_pv (zs ys : List Int) {p : Nat} (hp : p < 38) : pv (two (gz zs) (gz ys)) (bP p) % 10007 = gz (brZ (hamZ zs) (hamZ ys)) p % 10007 := by
 have v1 : ∀ k, k < 38 -> pv (two (gz zs) (gz ys)) (vP 0 k) % 10007 = gz (hamZ zs) k % 10007 := fun k hk => by
  rw [vP_pv, hamZ_cv zs hk, cval_congr (fun i hi => shf_two1 (gz zs) (gz ys) hi) hk]
 have v2 : ∀ k, k < 38 -> pv (two (gz zs) (gz ys)) (vP 10 k) % 10007 = gz (hamZ ys) k % 10007 := fun k hk => by
  rw [vP_pv, hamZ_cv ys hk, cval_congr (fun i _ => shf_two2 (gz zs) (gz ys) i) hk]
 have a1 := acL_pv (z := two (gz zs) (gz ys)) (x := gz (hamZ zs)) (y := gz (hamZ ys)) (X := vP 0) (Y := vP 10) (l := CP p) fun c hcp => by
  have hpc := pc_at hp hcp
  exact ⟨fun k hk => v1 k (by have := hpc.1 k hk; omega), v2 _ (by have := hpc.2; omega)⟩
 have a2 := acL_pv (z := two (gz zs) (gz ys)) (x := gz (hamZ ys)) (y := gz (hamZ zs)) (X := vP 10) (Y := vP 0) (l := CP p) fun c hcp => by
  have hpc := pc_at hp hcp
  exact ⟨fun k hk => v2 k (by have := hpc.1 k hk; omega), v1 _ (by have := hpc.2; omega)⟩
 rw [brZ_gz _ _ hp]
 unfold bP
 rw [addP_pv]
 have a3 := sclP_pv (two (gz zs) (gz ys)) 10006 (acL (vP 10) (vP 0) (CP p))
 change _ = sumF (actT (gz (hamZ zs)) (gz (hamZ ys))) (CP p) % 10007 at a1
 change _ = sumF (actT (gz (hamZ ys)) (gz (hamZ zs))) (CP p) % 10007 at a2
 show _ = (sumF (actT (gz (hamZ zs)) (gz (hamZ ys))) (CP p) - sumF (actT (gz (hamZ ys)) (gz (hamZ zs))) (CP p)) % 10007
 generalize sumF (actT (gz (hamZ zs)) (gz (hamZ ys))) (CP p) = s1 at *
 generalize sumF (actT (gz (hamZ ys)) (gz (hamZ zs))) (CP p) = s2 at *
 generalize pv (two (gz zs) (gz ys)) (acL (vP 0) (vP 10) (CP p)) = q1 at *
 generalize pv (two (gz zs) (gz ys)) (acL (vP 10) (vP 0) (CP p)) = q2 at *
 generalize pv (two (gz zs) (gz ys)) (sclP 10006 (acL (vP 10) (vP 0) (CP p))) = q3 at *
 clear v1 v2
 omega
theorem ham_br (zs ys : List Int) : ToR (brZ (hamZ zs) (hamZ ys)) 0 6 := by
 refine ⟨Nat.le_refl _, fun i k hi hk hs => ?_, .inl rfl⟩
 have hs' : szT (i + 1) + szT (k + 1) <= 6 := by rw [szT_tr hi, szT_tr hk]; exact hs
 have g1 := gP_bd hi hk hs'
 have g2 := gP_bd hk hi (by omega)
 have h := sy3
 rw [List.all_eq_true] at h
 have h2 := h i (List.mem_range.2 hi)
 rw [List.all_eq_true] at h2
 have h3 := h2 k (List.mem_range.2 hk)
 unfold okS0 at h3
 rw [Nat.ble_eq_true_of_le hs', cond_true] at h3
 have e := eqPl_iff h3
 have e2 := dz_pv (two (gz zs) (gz ys)) (addP (bP (gP i k)) (bP (gP k i)))
 rw [e, addP_pv] at e2
 have b1 := bP_pv zs ys g1.2
 have b2 := bP_pv zs ys g2.2
 show (gz (brZ (hamZ zs) (hamZ ys)) (gP i k) + gz (brZ (hamZ zs) (hamZ ys)) (gP k i)) % 10007 = 0 * _ % 10007
 rw [Int.zero_mul]
 change (0 : Int) % 10007 = _ at e2
 generalize gz (brZ (hamZ zs) (hamZ ys)) (gP i k) = u1 at *
 generalize gz (brZ (hamZ zs) (hamZ ys)) (gP k i) = u2 at *
 generalize pv (two (gz zs) (gz ys)) (bP (gP i k)) = u3 at *
 generalize pv (two (gz zs) (gz ys)) (bP (gP k i)) = u4 at *
 clear h h2 h3 e
 omega
def okB (j : Nat) : Bool := Nat.beq (CD.getD j []).length (szT (HBas.getD j 0)) && eqN (T6n.getD (HBas.getD j 0 - 1) []) (CD.getD j [])
theorem rd1 : (List.range 10).all okB = true := by decide +kernel
theorem rd_at {j : Nat} (h : j < 10) : (CD.getD j []).length = szT (HBas.getD j 0) /\ tr (HBas.getD j 0 - 1) = CD.getD j [] := by
 have h1 := rd1
 rw [List.all_eq_true] at h1
 have h2 := h1 j (List.mem_range.2 h)
 unfold okB at h2
 rw [Bool.and_eq_true] at h2
 exact ⟨Nat.eq_of_beq_eq_true h2.1, eqN_iff.1 h2.2⟩
theorem EX_at {p : Nat} (h0 : 0 < p) (hp : p < 38) : EX.getD p 0 = ((exV (tr (p - 1)) : Nat) : Int) := by
 obtain ⟨q, rfl⟩ : ∃ q, p = q + 1 := ⟨p - 1, by omega⟩
 rw [List.getD_eq_getElem?_getD, EX_succ (tr_get (by omega))]
 rfl
theorem cd_iff (x : List Int) {j : Nat} (h : j < 10) : cdV x (CD.getD j []) = x.getD (HBas.getD j 0) 0 /\ ((exV (CD.getD j []) : Nat) : Int) = EX.getD (HBas.getD j 0) 0 := by
 obtain ⟨h1, -, -⟩ := hb_at h
 obtain ⟨-, h2⟩ := rd_at h
 have hb := HBas_bd h
 refine ⟨by unfold cdV; rw [h1], ?_⟩
 rw [EX_at hb.1 hb.2, h2]
theorem CD_get {j : Nat} (h : j < 10) : CD[j]? = some (CD.getD j []) := by
 have hl : j < CD.length := h
 rw [List.getD_eq_getElem?_getD, List.getElem?_eq_getElem hl]; rfl
theorem rd_spec (x : List Int) : (∀ j, j < 10 -> (szT (HBas.getD j 0) : Int) <= rdV x -> x.getD (HBas.getD j 0) 0 = EX.getD (HBas.getD j 0) 0) /\ (rdV x = 6 \/ ∃ j, j < 10 /\ rdV x = (szT (HBas.getD j 0) : Int) - 1 /\ x.getD (HBas.getD j 0) 0 ≠ EX.getD (HBas.getD j 0) 0) := by
 by_cases hex : ∃ j, j < 10 /\ x.getD (HBas.getD j 0) 0 ≠ EX.getD (HBas.getD j 0) 0
 · obtain ⟨j, hj, hne, hmin⟩ : ∃ j, j < 10 /\ x.getD (HBas.getD j 0) 0 ≠ EX.getD (HBas.getD j 0) 0 /\ ∀ i, i < j -> x.getD (HBas.getD i 0) 0 = EX.getD (HBas.getD i 0) 0 := by
    obtain ⟨j0, hj0, hne0⟩ := hex
    have : ∀ n, ∀ j, j <= n -> j < 10 -> x.getD (HBas.getD j 0) 0 ≠ EX.getD (HBas.getD j 0) 0 -> ∃ j, j < 10 /\ x.getD (HBas.getD j 0) 0 ≠ EX.getD (HBas.getD j 0) 0 /\ ∀ i, i < j -> x.getD (HBas.getD i 0) 0 = EX.getD (HBas.getD i 0) 0 := by
     intro n
     induction n with
     | zero => intro j hj h10 hne; exact ⟨j, h10, hne, fun i hi => by omega⟩
     | succ n ih =>
      intro j hj h10 hne
      by_cases h : ∃ i, i < j /\ x.getD (HBas.getD i 0) 0 ≠ EX.getD (HBas.getD i 0) 0
      · obtain ⟨i, hi, hi2⟩ := h
        exact ih i (by omega) (by omega) hi2
      · exact ⟨j, h10, hne, fun i hi => by
         by_cases e : x.getD (HBas.getD i 0) 0 = EX.getD (HBas.getD i 0) 0
         · exact e
         · exact absurd ⟨i, hi, e⟩ h⟩
    exact this j0 j0 (Nat.le_refl _) hj0 hne0
   have hr : rdV x = ((CD.getD j []).length : Int) - 1 := rdV_hit (k := j) (fun i t' hi ht => by
     have hi10 : i < 10 := by omega
     rw [CD_get hi10] at ht
     injection ht with ht
     subst ht
     obtain ⟨e1, e2⟩ := cd_iff x hi10
     rw [e1, e2]
     exact hmin i hi) (CD_get hj) (by
     obtain ⟨e1, e2⟩ := cd_iff x hj
     rw [e1, e2]
     exact hne)
   rw [(rd_at hj).1] at hr
   refine ⟨fun i hi hs => ?_, .inr ⟨j, hj, hr, hne⟩⟩
   rw [hr] at hs
   have hsort : (List.range 10).all (fun i => (List.range 10).all fun k => Nat.blt k i || Nat.ble (szT (HBas.getD i 0)) (szT (HBas.getD k 0))) = true := by decide +kernel
   rw [List.all_eq_true] at hsort
   by_cases hij : i < j
   · exact hmin i hij
   · have h1 := hsort j (List.mem_range.2 hj)
     rw [List.all_eq_true] at h1
     have h2 := h1 i (List.mem_range.2 hi)
     rw [Bool.or_eq_true] at h2
     rcases h2 with h2 | h2
     · have := blt_lt h2; omega
     · have := Nat.le_of_ble_eq_true h2; omega
 · have hall : ∀ j, j < 10 -> x.getD (HBas.getD j 0) 0 = EX.getD (HBas.getD j 0) 0 := fun j hj => by
     by_cases e : x.getD (HBas.getD j 0) 0 = EX.getD (HBas.getD j 0) 0
     · exact e
     · exact absurd ⟨j, hj, e⟩ hex
   refine ⟨fun j hj _ => hall j hj, .inl (rdV_miss fun i t' hi ht => ?_)⟩
   rw [CD_get hi] at ht
   injection ht with ht
   subst ht
   obtain ⟨e1, e2⟩ := cd_iff x hi
   rw [e1, e2]
   exact hall i hi
theorem ag_spec (x : List Int) : (∀ p, p < 38 -> (szT p : Int) <= agZ x EX -> x.getD p 0 = EX.getD p 0) /\ (agZ x EX = 6 /\ (∀ p, p < 38 -> x.getD p 0 = EX.getD p 0) \/ ∃ p, p < 38 /\ agZ x EX = (szT p : Int) - 1 /\ x.getD p 0 ≠ EX.getD p 0) := by
 have hsort : (List.range 38).all (fun i => (List.range 38).all fun k => Nat.blt k i || Nat.ble (szT i) (szT k)) = true := by decide +kernel
 rw [List.all_eq_true] at hsort
 cases hf : (List.range 38).find? (fun k => x.getD k 0 != EX.getD k 0) with
 | none =>
  rw [List.find?_range_eq_none] at hf
  have hall : ∀ p, p < 38 -> x.getD p 0 = EX.getD p 0 := fun p hp => by have := hf p hp; simpa using this
  exact ⟨fun p hp _ => hall p hp, .inl ⟨agZ_miss hall, hall⟩⟩
 | some k =>
  rw [List.find?_range_eq_some] at hf
  obtain ⟨h1, h2, h3⟩ := hf
  have hk : k < 38 := by simpa using h2
  have hne : x.getD k 0 ≠ EX.getD k 0 := by simpa using h1
  have hmin : ∀ i, i < k -> x.getD i 0 = EX.getD i 0 := fun i hi => by have := h3 i hi; simpa using this
  have ha := agZ_hit hmin hk hne
  rw [<- szT_is hk] at ha
  refine ⟨fun p hp hs => ?_, .inr ⟨k, hk, ha, hne⟩⟩
  rw [ha] at hs
  by_cases hpk : p < k
  · exact hmin p hpk
  · have h4 := hsort k (List.mem_range.2 hk)
    rw [List.all_eq_true] at h4
    have h5 := h4 p (List.mem_range.2 hp)
    rw [Bool.or_eq_true] at h5
    rcases h5 with h5 | h5
    · have := blt_lt h5; omega
    · have := Nat.le_of_ble_eq_true h5; omega
theorem red_ge (x : List Int) : agZ x EX <= rdV x := by
 rcases (rd_spec x).2 with h | ⟨j, hj, hr, hne⟩
 · rw [h]; exact (agZ_bd x EX).2
 · have hb := HBas_bd hj
   by_cases h : (szT (HBas.getD j 0) : Int) <= agZ x EX
   · exact absurd ((ag_spec x).1 _ hb.2 h) hne
   · omega
def okEX (i k : Nat) : Bool := bif Nat.ble (szT (i + 1) + szT (k + 1)) 6 then decide ((EX.getD (gP i k) 0 + EX.getD (gP k i) 0) % 10007 = EX.getD (i + 1) 0 * EX.getD (k + 1) 0 % 10007) else true
theorem rd2 : (List.range 37).all (fun i => (List.range 37).all (okEX i)) = true := by decide +kernel
theorem EX_pair {i k : Nat} (hi : i < 37) (hk : k < 37) (hs : szT (i + 1) + szT (k + 1) <= 6) : (EX.getD (gP i k) 0 + EX.getD (gP k i) 0) % 10007 = EX.getD (i + 1) 0 * EX.getD (k + 1) 0 % 10007 := by
 have h := rd2
 rw [List.all_eq_true] at h
 have h2 := h i (List.mem_range.2 hi)
 rw [List.all_eq_true] at h2
 have h3 := h2 k (List.mem_range.2 hk)
 unfold okEX at h3
 rw [Nat.ble_eq_true_of_le hs, cond_true] at h3
 exact of_decide_eq_true h3
theorem red_ar {x1 x2 e1 e2 u : Int} (h1 : (x1 + x2) % 10007 = u) (h2 : (e1 + e2) % 10007 = u) : ((x1 - e1) + (x2 - e2)) % 10007 = 0 := by omega
theorem red_eq {x : List Int} (hx : Chr x) (ht : ToR x 1 6) : rdV x = agZ x EX := by
 have hge := red_ge x
 have hrs := (rd_spec x).1
 have main : ∀ m : Nat, (m : Int) <= rdV x -> ∀ p, p < 38 -> szT p <= m -> x.getD p 0 = EX.getD p 0 := by
  intro m
  induction m with
  | zero =>
   intro _ p hp hs
   have hp0 : ¬ 0 < p := fun h => by have := szT_pos h hp; omega
   have : p = 0 := by omega
   subst this
   rw [hx.one]; rfl
  | succ m ih =>
   intro hm p hp hs
   by_cases hsn : szT p <= m
   · exact ih (by omega) p hp hsn
   · have h0 : 0 < p := by
      cases p with
      | zero => exact absurd (Nat.zero_le m) hsn
      | succ p => omega
     have hd := chain (d := fun q => x.getD q 0 - EX.getD q 0) (z := fun _ => 0) (S := fun s => s = m + 1) (fun i k hi hk h6 hS => by
       have htk := szT_pos (p := k + 1) (by omega) (by omega)
       have hti := szT_pos (p := i + 1) (by omega) (by omega)
       have e1 := ht.all i k hi hk (by rw [<- szT_tr hi, <- szT_tr hk]; exact h6)
       change (x.getD (gP i k) 0 + x.getD (gP k i) 0) % 10007 = 1 * (x.getD (i + 1) 0 * x.getD (k + 1) 0 % 10007) % 10007 at e1
       rw [ih (by omega) (i + 1) (by omega) (by omega), ih (by omega) (k + 1) (by omega) (by omega), Int.one_mul, Int.emod_emod_of_dvd _ (Int.dvd_refl _)] at e1
       exact red_ar e1 (EX_pair hi hk h6)) (fun q hq hS => by
       obtain ⟨j, hj, hjq⟩ := List.mem_iff_getElem.1 hq
       have hj10 : j < 10 := hj
       have eq : q = HBas.getD j 0 := by rw [List.getD_eq_getElem?_getD, List.getElem?_eq_getElem hj, <- hjq]; rfl
       subst eq
       rw [cval_base _ hj10]
       show (x.getD _ 0 - EX.getD _ 0) % 10007 = _
       rw [hrs j hj10 (by omega), Int.sub_self]) p h0 hp (by omega)
     have hz : cval (fun _ => 0) p = 0 := by
      unfold cval
      cases (hc p).1 with
      | zero => rfl
      | succ i => simp only; cases (hc p).2 <;> rfl
     rw [hz] at hd
     have b1 := getD_nums hx.num p
     have b2 := getD_nums EX_nums p
     change (x.getD p 0 - EX.getD p 0) % 10007 = 0 % 10007 at hd
     generalize x.getD p 0 = u at *
     generalize EX.getD p 0 = v at *
     clear hrs ih hz
     omega
 rcases (ag_spec x).2 with ⟨h, -⟩ | ⟨p, hp, ha, hne⟩
 · rw [h] at hge ⊢
   have : rdV x <= 6 := by
    rcases (rd_spec x).2 with h1 | ⟨j, hj, hr, -⟩
    · omega
    · have := szT_le (HBas_bd hj).2; omega
   omega
 · by_cases hlt : (szT p : Int) <= rdV x
   · exact absurd (main (szT p) hlt p hp (Nat.le_refl _)) hne
   · omega
theorem LA.keptLt' {w w' : World} {B g : Nat} {v : Value} {xss : List (List Int)} (h : LA w B v xss) (hg : w.grownBy w' (some g)) (hlt : g < B) : LA w' B v xss := by
 obtain ⟨vs, h1, h2, h3⟩ := h
 have ne : ∀ u : Value, (∀ b, u.ownBlock = some b -> B <= b) -> u.ownBlock = none \/ u.ownBlock ≠ some g := fun u hu => by
  cases hb : u.ownBlock with
  | none => exact .inl rfl
  | some b => exact .inr fun e => by injection e with e; have := hu b hb; omega
 exact ⟨vs, h1.kept hg (ne v h1.ge), ⟨h2.1, fun k u zs hu hz => ⟨(h2.2 k u zs hu hz).1.kept hg (ne u (h2.2 k u zs hu hz).1.ge), (h2.2 k u zs hu hz).2⟩⟩, h3⟩
set_option maxHeartbeats 8000000 in
theorem i_ReducedOrder (w : World) (v : Value) (a : List Int) (ha : Ints w v a) :
  Calls Tryz.prog 17 #[v] w fun e w' => e = .returned (.tuple #[.int .i64 (rdoR a), .int .i64 (chrC a)]) /\ Below w.heap.size w w' := by
 have HA := Lib.hid ha
 have HCH := Lib.hid (i_checkCharacter w v a ha)
 obtain ⟨A, c, rfl, -, -, -⟩ := ha.open_
 clear ha
 by_cases hc : chrC a = 0
 · rw [hc] at HCH
   obtain ⟨hm, ha0⟩ := chr_of' hc
   have hmt := mapB_true hm
   have hl := hmt.1
   have HN := Lib.hid (show Nums a from hmt.2)
   rw [hl] at HA HCH ⊢
   have HR := Lib.hid (show rdoR a = rdV a from by rw [rdoR, if_pos hc])
   have HC := Lib.hid hc
   clear hc hm ha0 hmt hl
   go_enter Tryz.func17, Tryz.ntmps17
   go_wp2_with (first
    | (go_at_call 48; refine HCH.out.mono ?_; rintro e w0 ⟨rfl, rfl⟩)
    | (go_at_call 46; go_loud (refine (i_newForms _).mono ?_; rintro e w1 ⟨f, rfl, hf, hb1⟩; obtain ⟨Af, cf, Ay, my, cy, rfl, hrf⟩ := hf.opens'; have HRF := Lib.hid hrf; have HB1 := Lib.hid hb1; clear hf hrf hb1))
    | (go_at_call 55; go_loud (refine (i_allConditions _).mono ?_; rintro e w2 ⟨x2, rfl, hl2, hb2⟩; rw [CD_eq] at hl2; obtain ⟨A2, c2, he2, -, -, -⟩ := hl2.rows.open_; rw [List.length_map, show CD.length = 10 from rfl] at he2; subst he2; have HL2 := Lib.hid hl2.rows; have HB2 := Lib.hid (((below1 w1 (.cells #[.slice Af 37 cf, .slice Ay my cy] tFo)).trans (hb2.mono (by simp)))); have HKF := Lib.hid ((Blk.new w1 #[.slice Af 37 cf, .slice Ay my cy] tFo).below hb2 (by simp)); clear hl2 hb2)))
   have HRW := Lib.hid (HRF.out.below HB2.out)
   have HAW := Lib.hid ((HA.out.below HB1.out).below HB2.out)
   go_loopw [16] (fun x wr => ∃ k : Nat, k <= 10 /\ x = .int .i64 k /\ Hid (∀ i t', i < k -> CD[i]? = some t' -> cdV a t' = ((exV t' : Nat) : Int)) /\ Below w2.heap.size w2 wr) (fun x _ => 10 - (intOf x).toNat)
   case atStart => exact ⟨0, Nat.zero_le _, rfl, fun i t h => by omega, Below.refl _ _⟩
   case round =>
    obtain ⟨k, hk, rfl, hI, hb⟩ := hrel
    have HB := Lib.hid hb
    clear hb
    by_cases hlt : k < 10
    · obtain ⟨ad, At, ct, t, rfl, ht, hti, hcr⟩ := (HL2.out.below HB.out).cond hlt
      have htm := List.mem_of_getElem? ht
      obtain ⟨p, hp1, -, hp7, hpt, ht6, ht1, htl⟩ := CD_at htm
      obtain ⟨dn, hd1, hd2, hd3, hd4, hd5⟩ := T6n_den (List.mem_of_getElem? hpt)
      obtain ⟨_, he, hcx, hx0, hx1⟩ := map_cell ((HAW.out.below HB.out)) HN.out (k := p + 1) (by omega)
      subst he
      rename Addr => a1
      have hcv : cdV a t = a.getD (p + 1) 0 := by unfold cdV; rw [hp1]
      obtain ⟨p1, hep⟩ : ∃ p1 : Nat, p1 = p + 1 := ⟨_, rfl⟩
      rw [<- hep] at hcx hcv hx0 hx1
      have hex := exV_le t
      have HIF := Lib.hid (red_iff (x := a.getD p1 0) (d := dn) hx0 hx1 hex hd4)
      generalize a.getD p1 0 = z at *
      have hpl : (p1 : Int) < 38 := by omega
      have hpl2 : p1 < 38 := by omega
      have hmod : (dn : Int) % 10007 = (dn : Int) := by omega
      have hmul := mul_bd 10006 720 hx0 hx1 (show (0 : Int) <= (dn : Int) by omega) (show (dn : Int) <= 720 by omega)
      obtain ⟨S, hS1, hS2⟩ : ∃ S : World -> Prop, (∀ W, S W -> Below wr.heap.size wr W) /\ (∀ W, Below wr.heap.size wr W -> S W) := ⟨fun W => Below wr.heap.size wr W, fun _ h => h, fun _ h => h⟩
      have HSE := Lib.hid (show ∀ x : GW S, Below wr.heap.size wr x.w from fun x => hS1 _ x.h)
      have HSI := Lib.hid (show S wr.drew from hS2 _ (Below.refl wr.heap.size wr).drew)
      have HRR := Lib.hid (HRW.out.below HB.out)
      have HTI := Lib.hid hti
      have HPL := Lib.hid (show ∀ x : GW S, Calls Tryz.prog 57 #[.agg #[.slice Af 37 cf, .slice Ay my cy], .slice At t.length ct] x.w (fun e w' => e = .returned (.int .i64 (p1 : Nat)) /\ S w') from fun x => (i_place x.w _ _ Ay my cy T6n t (HRR.out.below (HSE.out x)) (HTI.out.below (HSE.out x)) (by rw [T6n_len]; omega)).mono (by rintro e w7 ⟨rfl, hw7⟩; refine ⟨by rw [hp1, hep], hS2 _ ?_⟩; rw [hw7]; exact (HSE.out x).trans ((below1 _ _).mono (HSE.out x).size)))
      have HDE := Lib.hid (show ∀ x : GW S, Calls Tryz.prog 58 #[.slice At t.length ct] x.w (fun e w' => e = .returned (.int .i64 (dn : Nat)) /\ S w') from fun x => (i_density 9 x.w _ t dn (HTI.out.below (HSE.out x)) hd1 (by omega) (fun l hl => by have := htl l hl; omega)).mono (by rintro e w7 ⟨rfl, hb7⟩; exact ⟨rfl, hS2 _ ((HSE.out x).trans (hb7.mono (HSE.out x).size))⟩))
      have HNU := Lib.hid (show ∀ x : GW S, Calls Tryz.prog 56 #[.int .i64 (dn : Int)] x.w (fun e w' => e = .returned (.int .i64 (dn : Int)) /\ S w') from fun x => (i_num (dn : Int) x.w (by omega) (by omega)).mono (by rintro e w7 ⟨rfl, rfl⟩; exact ⟨by rw [hmod], hS2 _ (HSE.out x)⟩))
      have HNV := Lib.hid (show ∀ x : GW S, Calls Tryz.prog 56 #[.int .i64 (z * (dn : Int))] x.w (fun e w' => e = .returned (.int .i64 (z * (dn : Int) % 10007)) /\ S w') from fun x => (i_num (z * (dn : Int)) x.w (by omega) (by omega)).mono (by rintro e w7 ⟨rfl, rfl⟩; exact ⟨rfl, hS2 _ (HSE.out x)⟩))
      have hws : IntKind.i64.wrap (z * (dn : Int)) = z * (dn : Int) := IntWalk.i64_in _ (by omega)
      have hbk := HKF.out.below HB.out HKF.out.lt
      have hx0 : ∀ x : GW S, x.w.cell? ⟨w1.heap.size, 0, none⟩ = some (.slice Af 37 cf) := fun x => keepCell (HSE.out x) (hbk.cell 0)
      have hx1 : ∀ x : GW S, x.w.cell? ⟨w1.heap.size, 1, none⟩ = some (.slice Ay my cy) := fun x => keepCell (HSE.out x) (hbk.cell 1)
      have hx2 : ∀ x : GW S, x.w.cell? (a1.add p1) = some (.int .i64 z) := fun x => keepCell (HSE.out x) hcx
      have HLN := Lib.hid (fun W (h : Ints W (.slice At t.length ct) (up t)) => show Calls Tryz.prog 59 #[.slice At t.length ct] W fun e w' => e = .returned (.int .i64 t.length) /\ W = w' from by have h2 := lib_lengthI W _ _ h; rw [up_len] at h2; exact h2)
      have hkk : (k : Int) < 10 := by omega
      have HT := Lib.hid ht
      have HCV := Lib.hid hcv
      generalize hq : z * (dn : Int) % 10007 = q at HNV HIF
      clear ht htm hp1 hp7 hpt htl hd1 hd2 hd3 hd4 hd5 hep hex hmod hmul hti hcx hcv hS1 hS2 hbk hq
      go_upto_region 8 with fail
      refine wp_region_grow S (by kernel_rfl) (by kernel_rfl) HSI.out (fun hne => ?_)
      repeat (go_big_quiet_step ((first
       | (go_at_call 57; exact grow_call (HPL.out _))
       | (go_at_call 58; exact grow_call (HDE.out _))
       | (go_at_call_of 56 z; exact grow_call (HNV.out _))
       | (go_at_call 56; exact grow_call (HNU.out _)))))
      refine wpQuiet_nil ?_
      rintro _ ⟨xq, rfl⟩
      clear hx0 hx1 hx2
      by_cases hqq : q = 1
      · have hne1 : (q != 1) = false := by simp [hqq]
        have HI2 := Lib.hid (show ∀ i t', i < k + 1 -> CD[i]? = some t' -> cdV a t' = ((exV t' : Nat) : Int) from fun i t' hi ht' => by
         by_cases e : i = k
         · subst e
           rw [HT.out] at ht'
           injection ht' with ht'
           subst ht'
           rw [HCV.out]
           exact HIF.out.1 hqq
         · exact hI i t' (by omega) ht')
        clear hqq hI
        go_wp2_with fail
        go_roundw
        case rel => exact ⟨k + 1, by omega, by go_num, HI2.out, HB.out.trans ((HSE.out xq).mono HB.out.size)⟩
        case measure => simp [intOf]; omega
      · have hne1 : (q != 1) = true := by simp [hqq]
        have HZ := Lib.hid (rdV_hit hI HT.out (by rw [HCV.out]; exact fun h => hqq (HIF.out.2 h)))
        clear hqq hI
        go_wp2_with (go_at_call 59; refine (HLN.out _ (HTI.out.below (HSE.out xq))).mono ?_; rintro e w8 ⟨rfl, rfl⟩)
        go_ret2
        rw [HR.out, HC.out, HZ.out]
        have hb := HB1.out.trans (HB2.out.mono HB1.out.size)
        exact ⟨rfl, (hb.trans (HB.out.mono hb.size)).trans ((HSE.out xq).mono (Nat.le_trans hb.size HB.out.size))⟩
    · have HZ := Lib.hid (rdV_miss (a := a) (fun i t' hi h => hI i t' (by omega) h))
      clear hI
      go_wp2_with fail
      go_ret2
      rw [HR.out, HC.out, HZ.out]
      have hb := HB1.out.trans (HB2.out.mono HB1.out.size)
      exact ⟨rfl, hb.trans (HB.out.mono hb.size)⟩
 · have HR := Lib.hid (show rdoR a = 0 from by rw [rdoR, if_neg hc])
   have hd : (chrC a != 0) = true := by simp [hc]
   rw [HR.out]
   generalize chrC a = cc at *
   clear hc HR
   go_enter Tryz.func17, Tryz.ntmps17
   go_wp2_with (go_at_call 48; refine HCH.out.mono ?_; rintro e w0 ⟨rfl, rfl⟩)
   go_ret2
   exact ⟨rfl, Below.refl _ _⟩
theorem chr_of {a : List Int} (h : chrC a = 0) : mapB a = true /\ a.getD 0 0 = 1 := by
 unfold chrC at h
 cases hm : mapB a with
 | false => rw [hm] at h; simp at h
 | true =>
  rw [hm] at h
  refine ⟨rfl, ?_⟩
  by_cases e : a.getD 0 0 = 1
  · exact e
  · rw [if_pos rfl, if_neg e] at h; exact absurd h (by decide)
end Go.Proofs.YtofabikjjkapmaaGreat
