import Derived.Test.YtofabikjjkapmaaGreatSm20
import Derived.Test.YtofabikjjkapmaaGreatSm21
import Derived.Test.YtofabikjjkapmaaGreatSm22
import Derived.Test.YtofabikjjkapmaaGreatSm11
set_option maxRecDepth 100000
set_option linter.unusedVariables false
set_option linter.unusedSimpArgs false
namespace Go.Proofs.YtofabikjjkapmaaGreat
open Go.RowKit
def okTp (p : Nat) (x : MCt) : Bool := (bif Nat.blt 0 x.1.2 then x.1.1.all (fun k => Nat.blt k p || Nat.beq p 0) else true) && (match x.1.1 with | [] => true | _ :: _ => Nat.blt x.1.2 p)
theorem tp3 : (List.range 38).all (fun p => (CP p).all (okTp p)) = true := by decide +kernel
theorem tp_at {p : Nat} (hp : p < 38) (h0 : 0 < p) {x : MCt} (hx : x ∈ CP p) : (0 < x.1.2 -> ∀ k ∈ x.1.1, k < p) /\ (x.1.1 ≠ [] -> x.1.2 < p) := by
 have h1 := tp3
 rw [List.all_eq_true] at h1
 have h2 := h1 p (by simpa using hp)
 rw [List.all_eq_true] at h2
 have h3 := h2 x hx
 unfold okTp at h3
 rw [Bool.and_eq_true] at h3
 refine ⟨fun h k hk => ?_, fun h => ?_⟩
 · have e : Nat.blt 0 x.1.2 = true := Nat.ble_eq_true_of_le h
   have h4 := h3.1
   rw [e, cond_true, List.all_eq_true] at h4
   have h5 := h4 k hk
   rw [Bool.or_eq_true] at h5
   rcases h5 with h5 | h5
   · exact blt_lt h5
   · have := Nat.eq_of_beq_eq_true h5; omega
 · cases he : x.1.1 with
   | nil => exact absurd he h
   | cons a l =>
    have h4 := h3.2
    rw [he] at h4
    exact blt_lt h4
def tpI (b a : List Int) (x : MC) : Int := bif Nat.blt 0 x.1.2 then tcI b a x else 0
theorem tpI_bd (b a : List Int) (x : MC) : 0 <= tpI b a x /\ tpI b a x <= 10006 := by
 unfold tpI
 cases Nat.blt 0 x.1.2 with
 | true => exact tcI_bd b a x
 | false => simp
def invL (a : List Int) : Nat -> List Int
 | 0 => [1]
 | n + 1 => invL a n ++ [(-(sumF (tpI (invL a n) a) (CTab.getD n []))) % 10007]
theorem invL_len (a : List Int) (n : Nat) : (invL a n).length = n + 1 := by
 induction n with
 | zero => rfl
 | succ n ih => simp only [invL, List.length_append, List.length_singleton, ih]
theorem invL_nums (a : List Int) (n : Nat) : Nums (invL a n) := by
 induction n with
 | zero => intro z hz; simp only [invL, List.mem_singleton] at hz; omega
 | succ n ih =>
  intro z hz
  simp only [invL] at hz
  rcases List.mem_append.1 hz with h | h
  · exact ih z h
  · have := List.mem_singleton.1 h
    omega
theorem invL_get (a : List Int) {n m k : Nat} (hk : k <= n) (hm : n <= m) : (invL a m).getD k 0 = (invL a n).getD k 0 := by
 obtain ⟨d, rfl⟩ := Nat.exists_eq_add_of_le hm
 clear hm
 induction d with
 | zero => rfl
 | succ d ih =>
  rw [<- ih]
  show (invL a (n + d + 1)).getD k 0 = _
  rw [invL, List.getD_eq_getElem?_getD, List.getElem?_append_left (by rw [invL_len]; omega), <- List.getD_eq_getElem?_getD]
theorem invL_new (a : List Int) {n m : Nat} (hm : n + 1 <= m) : (invL a m).getD (n + 1) 0 = (-(sumF (tpI (invL a n) a) (CTab.getD n []))) % 10007 := by
 rw [invL_get a (Nat.le_refl _) hm, invL, List.getD_eq_getElem?_getD, List.getElem?_append_right (by rw [invL_len]; omega), invL_len, Nat.sub_self]
 rfl
theorem cvT_zero (x y : Nat -> Int) : cv x y 0 = y 0 := by
 show sumF (cvT x y) [(([], 0), 1)] = _
 simp [sumF, cvT, pz_nil]
theorem inv_left {a : List Int} (h0 : a.getD 0 0 = 1) : ∀ p, p < 38 -> cv (gz (invL a 37)) (gz a) p % 10007 = un p % 10007 := by
 intro p hp
 cases p with
 | zero => rw [cvT_zero]; show a.getD 0 0 % 10007 = _; rw [h0]; rfl
 | succ n =>
  rw [cv_pos _ _ (by omega) hp]
  have e1 : gz a 0 = 1 := h0
  have e2 : gz (invL a 37) (n + 1) = (-(sumF (tpI (invL a n) a) (CTab.getD n []))) % 10007 := invL_new a (by omega)
  have e3 : sumF (posT (gz (invL a 37)) (gz a)) (CP (n + 1)) % 10007 = sumF (tpI (invL a n) a) (CTab.getD n []) % 10007 := by
   refine sumF_modc fun x hx => ?_
   unfold posT tpI
   cases hb : Nat.blt 0 x.1.2 with
   | false => rfl
   | true =>
    rw [cond_true, cond_true, tcI_is, Int.emod_emod_of_dvd _ (Int.dvd_refl _)]
    refine cvT_mod (fun k hk => ?_) rfl
    have := (tp_at hp (by omega) hx).1 (blt_lt hb) k hk
    show (invL a 37).getD k 0 % 10007 = (invL a n).getD k 0 % 10007
    rw [invL_get a (show k <= n by omega) (by omega)]
  have e4 : un (n + 1) = 0 := if_neg (by omega)
  rw [e1, e2, e4, Int.mul_one]
  omega
def unM : List Int := filT EX 1
theorem unM_is : unM = 1 :: List.replicate 37 0 := rfl
def refL (a : List Int) : Nat -> List Int
 | 0 => unM
 | n + 1 => (refL a n).set (n + 1) ((0 - (cvZ a (refL a n)).getD (n + 1) 0) % 10007)
theorem refL_len (a : List Int) (n : Nat) : (refL a n).length = 38 := by
 induction n with
 | zero => rfl
 | succ n ih => rw [refL, List.length_set, ih]
theorem refL_nums (a : List Int) (n : Nat) : Nums (refL a n) := by
 induction n with
 | zero =>
  intro z hz
  change z ∈ unM at hz
  rw [unM_is] at hz
  rcases List.mem_cons.1 hz with rfl | hz
  · omega
  · have := List.eq_of_mem_replicate hz
    omega
 | succ n ih =>
  intro z hz
  rw [refL] at hz
  rcases List.mem_or_eq_of_mem_set hz with h | h
  · exact ih z h
  · omega
theorem refL_same (a : List Int) {n k : Nat} (h : k ≠ n + 1) : (refL a (n + 1)).getD k 0 = (refL a n).getD k 0 := by
 rw [refL, List.getD_eq_getElem?_getD, List.getElem?_set_ne (by omega), <- List.getD_eq_getElem?_getD]
theorem refL_get (a : List Int) {n m k : Nat} (hk : k <= n) (hm : n <= m) : (refL a m).getD k 0 = (refL a n).getD k 0 := by
 obtain ⟨d, rfl⟩ := Nat.exists_eq_add_of_le hm
 clear hm
 induction d with
 | zero => rfl
 | succ d ih =>
  rw [<- ih]
  exact refL_same a (show k ≠ n + d + 1 by omega)
theorem refL_zero (a : List Int) {n k : Nat} (hk : n < k) : (refL a n).getD k 0 = 0 := by
 induction n with
 | zero =>
  show unM.getD k 0 = 0
  rw [unM_is]
  obtain ⟨j, rfl⟩ : ∃ j, k = j + 1 := ⟨k - 1, by omega⟩
  rw [List.getD_cons_succ, List.getD_eq_getElem?_getD, List.getElem?_replicate]
  split <;> rfl
 | succ n ih => rw [refL_same a (by omega)]; exact ih (by omega)
theorem refL_head (a : List Int) (n : Nat) : (refL a n).getD 0 0 = 1 := refL_get a (Nat.le_refl 0) (Nat.zero_le n)
theorem refL_new (a : List Int) {n m : Nat} (h : n < 37) (hm : n + 1 <= m) : (refL a m).getD (n + 1) 0 = (0 - (cvZ a (refL a n)).getD (n + 1) 0) % 10007 := by
 rw [refL_get a (Nat.le_refl _) hm, refL, List.getD_eq_getElem?_getD, List.getElem?_set_self (by rw [refL_len]; omega)]
 rfl
theorem inv_right (a : List Int) : ∀ p, p < 38 -> cv (gz a) (gz (refL a 37)) p % 10007 = un p % 10007 := by
 intro p hp
 cases p with
 | zero => rw [cvT_zero]; show (refL a 37).getD 0 0 % 10007 = _; rw [refL_head]; rfl
 | succ n =>
  rw [cv_rest _ _ hp]
  have e1 : (cvZ a (refL a n)).getD (n + 1) 0 = sumF (tcI a (refL a n)) (CTab.getD n []) % 10007 := by
   rw [List.getD_eq_getElem?_getD, cvZ_get a _ (by omega)]; rfl
  have e2 : gz (refL a 37) (n + 1) = (0 - (cvZ a (refL a n)).getD (n + 1) 0) % 10007 := refL_new a (by omega) (by omega)
  have e3 : sumF (tcI a (refL a n)) (CTab.getD n []) % 10007 = cv (gz a) (gz (refL a n)) (n + 1) % 10007 := by
   show _ = sumF (cvT (gz a) (gz (refL a n))) (CTab.getD n []) % 10007
   refine sumF_modc fun x hx => ?_
   rw [tcI_is, Int.emod_emod_of_dvd _ (Int.dvd_refl _)]
  have e4 : gz (refL a n) (n + 1) = 0 := refL_zero a (by omega)
  rw [cv_rest _ _ hp, e4] at e3
  have e5 : sumF (posE (gz a) (gz (refL a 37))) (CP (n + 1)) % 10007 = sumF (posE (gz a) (gz (refL a n))) (CP (n + 1)) % 10007 := by
   refine sumF_modc fun x hx => ?_
   unfold posE
   cases hcr : x.1.1 with
   | nil => rfl
   | cons u us =>
    refine cvT_mod (fun k _ => rfl) ?_
    have := (tp_at hp (by omega) hx).2 (by rw [hcr]; simp)
    show (refL a 37).getD x.1.2 0 % 10007 = (refL a n).getD x.1.2 0 % 10007
    rw [refL_get a (show x.1.2 <= n by omega) (by omega)]
  have e6 : un (n + 1) = 0 := if_neg (by omega)
  rw [e2, e1, e6]
  omega
theorem nums_getD {zs : List Int} (h : Nums zs) (k : Nat) : 0 <= zs.getD k 0 /\ zs.getD k 0 <= 10006 := by
 rw [List.getD_eq_getElem?_getD]
 cases hk : zs[k]? with
 | none => simp
 | some z => exact h z (List.mem_of_getElem? hk)
theorem inv_eq {a : List Int} (h0 : a.getD 0 0 = 1) : invL a 37 = refL a 37 := by
 have h := inv_both (a := gz a) (x := gz (invL a 37)) (y := gz (refL a 37)) h0 (by show (invL a 37).getD 0 0 = 1; rw [invL_get a (Nat.le_refl 0) (by omega)]; rfl) (inv_left h0) (inv_right a)
 refine List.ext_getElem? fun k => ?_
 by_cases hk : k < 38
 · have h1 := h k hk
   have b1 := nums_getD (invL_nums a 37) k
   have b2 := nums_getD (refL_nums a 37) k
   have h2 : (invL a 37).getD k 0 = (refL a 37).getD k 0 := by
    have h3 : (invL a 37).getD k 0 % 10007 = (refL a 37).getD k 0 % 10007 := h1
    omega
   rw [List.getD_eq_getElem?_getD, List.getD_eq_getElem?_getD] at h2
   have hk1 : k < (invL a 37).length := by rw [invL_len]; exact hk
   have hk2 : k < (refL a 37).length := by rw [refL_len]; exact hk
   rw [List.getElem?_eq_getElem hk1, List.getElem?_eq_getElem hk2] at h2 ⊢
   simpa using h2
 · rw [List.getElem?_eq_none (by rw [invL_len]; omega), List.getElem?_eq_none (by rw [refL_len]; omega)]
def scZ (a : List Int) (k : Int) : List Int := (List.range 38).map fun j => a.getD j 0 * pw k (szN j) % 10007
theorem scZ_len (a : List Int) (k : Int) : (scZ a k).length = 38 := by simp [scZ]
theorem scZ_nums (a : List Int) (k : Int) : Nums (scZ a k) := by
 intro z hz
 obtain ⟨j, -, rfl⟩ := List.mem_map.1 hz
 omega
theorem scZ_get (a : List Int) (k : Int) {i : Nat} (h : i < 38) : (scZ a k)[i]? = some (a.getD i 0 * pw k (szN i) % 10007) := by
 unfold scZ
 simp [h]
theorem unM_len : unM.length = 38 := rfl
theorem unM_nums : Nums unM := refL_nums [] 0
structure Chr (a : List Int) : Prop where
 len : a.length = 38
 num : Nums a
 one : a.getD 0 0 = 1
theorem chr_cvZ {a b : List Int} (ha : Chr a) (hb : Chr b) : Chr (cvZ a b) := ⟨cvZ_len _ _, cvZ_nums hb.num, hb.one⟩
def iv (a : List Int) : List Int := invL a 37
theorem iv_head (a : List Int) : (iv a).getD 0 0 = 1 := by unfold iv; rw [invL_get a (Nat.zero_le 0) (Nat.zero_le 37)]; rfl
theorem chr_iv (a : List Int) : Chr (iv a) := ⟨invL_len _ _, invL_nums _ _, iv_head a⟩
theorem unM_gz {p : Nat} (hp : p < 38) : gz unM p = un p := by
 have h1 : (List.range 38).all (fun p => decide (gz unM p = un p)) = true := by decide +kernel
 rw [List.all_eq_true] at h1
 exact of_decide_eq_true (h1 p (List.mem_range.2 hp))
theorem cvZ_assoc {a b c : List Int} (hb : b.getD 0 0 = 1) (hc : Nums c) : cvZ (cvZ a b) c = cvZ a (cvZ b c) := by
 refine nums_ext (cvZ_nums hc) (cvZ_nums (cvZ_nums hc)) (cvZ_len _ _) (cvZ_len _ _) fun p hp => ?_
 rw [cvZ_cv _ _ hp, cvZ_cv _ _ hp]
 rw [cv_mod (a := gz (cvZ a b)) (a' := cv (gz a) (gz b)) (b := gz c) (b' := gz c) hp (fun k hk => cvZ_cv a b (by omega)) (fun k _ => rfl)]
 rw [cv_mod (a := gz a) (a' := gz a) (b := gz (cvZ b c)) (b' := cv (gz b) (gz c)) hp (fun k _ => rfl) (fun k hk => cvZ_cv b c (by omega))]
 rw [cv_assoc hb hp]
theorem cvZ_unL {a : List Int} (ha : Nums a) (la : a.length = 38) : cvZ unM a = a := by
 refine nums_ext (cvZ_nums ha) ha (cvZ_len _ _) la fun p hp => ?_
 rw [cvZ_cv _ _ hp, cv_mod (a := gz unM) (a' := un) (b := gz a) (b' := gz a) hp (fun k hk => by rw [unM_gz (by omega)]) (fun k _ => rfl), cv_unL _ hp]
theorem cvZ_unR {a : List Int} (ha : Chr a) : cvZ a unM = a := by
 refine nums_ext (cvZ_nums unM_nums) ha.num (cvZ_len _ _) ha.len fun p hp => ?_
 rw [cvZ_cv _ _ hp, cv_mod (a := gz a) (a' := gz a) (b := gz unM) (b' := un) hp (fun k _ => rfl) (fun k hk => by rw [unM_gz (by omega)]), cv_unR _ ha.one hp]
theorem iv_right {a : List Int} (ha : Chr a) : cvZ a (iv a) = unM := by
 refine nums_ext (cvZ_nums (chr_iv a).num) unM_nums (cvZ_len _ _) unM_len fun p hp => ?_
 rw [cvZ_cv _ _ hp, unM_gz hp]
 unfold iv
 rw [inv_eq ha.one]
 exact inv_right a p hp
theorem iv_unique {x a : List Int} (hx : Chr x) (ha : Chr a) (h : cvZ x a = unM) : x = iv a := by
 have e : cvZ (cvZ x a) (iv a) = iv a := by rw [h]; exact cvZ_unL (chr_iv a).num (chr_iv a).len
 rw [cvZ_assoc ha.one (chr_iv a).num, iv_right ha, cvZ_unR hx] at e
 exact e
def expZ (b : List Int) : List Int := (List.range 38).map fun p => eV (gz b) 6 p % 10007
theorem expZ_len (b : List Int) : (expZ b).length = 38 := by simp [expZ]
theorem expZ_nums (b : List Int) : Nums (expZ b) := by
 intro z hz
 obtain ⟨p, -, rfl⟩ := List.mem_map.1 hz
 omega
theorem expZ_gz (b : List Int) {p : Nat} (hp : p < 38) : gz (expZ b) p = eV (gz b) 6 p % 10007 := by
 show (expZ b).getD p 0 = _
 unfold expZ
 simp [List.getD_eq_getElem?_getD, hp]
theorem eV_zero (x : Nat -> Int) : eV x 6 0 % 10007 = 1 := by rw [eV_pv x (by omega)]; rfl
theorem expZ_head (b : List Int) : (expZ b).getD 0 0 = 1 := by
 have h := expZ_gz b (p := 0) (by omega)
 rw [eV_zero] at h
 exact h
theorem chr_expZ (b : List Int) : Chr (expZ b) := ⟨expZ_len b, expZ_nums b, expZ_head b⟩
theorem eV_mod {x y : Nat -> Int} (h : ∀ k, k < 38 -> x k % 10007 = y k % 10007) {p : Nat} (hp : p < 38) : eV x 6 p % 10007 = eV y 6 p % 10007 := by
 cases p with
 | zero => rw [eV_zero, eV_zero]
 | succ p =>
  have e := eV_part (x := x) (y := y) (p := p + 1) (by omega) hp fun k hk _ => h k hk
  have e2 := h (p + 1) hp
  omega
def lgS (a : List Int) : Nat -> List Int
 | 0 => List.replicate 38 0
 | n + 1 => (List.range 38).map fun p => if szT p = n + 1 then (a.getD p 0 - (expZ (lgS a n)).getD p 0) % 10007 else (lgS a n).getD p 0
def lgZ (a : List Int) : List Int := lgS a 6
theorem lgS_len (a : List Int) (n : Nat) : (lgS a n).length = 38 := by cases n <;> simp [lgS]
theorem lgS_nums (a : List Int) (n : Nat) : Nums (lgS a n) := by
 induction n with
 | zero => intro z hz; have := List.eq_of_mem_replicate hz; omega
 | succ n ih =>
  intro z hz
  obtain ⟨p, -, rfl⟩ := List.mem_map.1 hz
  split
  · omega
  · exact getD_nums ih p
theorem lgS_get (a : List Int) (n : Nat) {p : Nat} (hp : p < 38) : (lgS a (n + 1)).getD p 0 = if szT p = n + 1 then (a.getD p 0 - (expZ (lgS a n)).getD p 0) % 10007 else (lgS a n).getD p 0 := by
 rw [lgS]
 simp [List.getD_eq_getElem?_getD, hp]
theorem lgS_zero (a : List Int) {p : Nat} (hp : p < 38) : (lgS a 0).getD p 0 = 0 := by
 rw [lgS, List.getD_eq_getElem?_getD, List.getElem?_replicate, if_pos hp]; rfl
theorem szT_pos {p : Nat} (h0 : 0 < p) (hp : p < 38) : 1 <= szT p := by
 obtain ⟨q, rfl⟩ : ∃ q, p = q + 1 := ⟨p - 1, by omega⟩
 rw [szT_is hp]
 exact szN_pos (by omega)
theorem szT_le {p : Nat} (hp : p < 38) : szT p <= 6 := by rw [szT_is hp]; exact szN_le p
theorem lgS_head (a : List Int) (n : Nat) : (lgS a n).getD 0 0 = 0 := by
 induction n with
 | zero => exact lgS_zero a (by omega)
 | succ n ih => rw [lgS_get a n (by omega), if_neg (by show ¬ 0 = n + 1; omega)]; exact ih
theorem lgS_great (a : List Int) : ∀ (n : Nat) {p : Nat}, p < 38 -> n < szT p -> (lgS a n).getD p 0 = 0
 | 0, p, hp, _ => lgS_zero a hp
 | n + 1, p, hp, h => by rw [lgS_get a n hp, if_neg (by omega)]; exact lgS_great a n hp (by omega)
theorem lgS_stay (a : List Int) {n m : Nat} (h : n <= m) {p : Nat} (hp : p < 38) (hs : szT p <= n) : (lgS a m).getD p 0 = (lgS a n).getD p 0 := by
 obtain ⟨d, rfl⟩ := Nat.exists_eq_add_of_le h
 clear h
 induction d with
 | zero => rfl
 | succ d ih =>
  rw [show n + (d + 1) = (n + d) + 1 by omega, lgS_get a (n + d) hp, if_neg (by omega)]
  exact ih
theorem exp_lgZ {a : List Int} (ha : Chr a) : expZ (lgZ a) = a := by
 refine nums_ext (expZ_nums _) ha.num (expZ_len _) ha.len fun p hp => ?_
 rw [expZ_gz _ hp, Int.emod_emod_of_dvd _ (Int.dvd_refl _)]
 by_cases h0 : 0 < p
 · obtain ⟨n, hn⟩ : ∃ n, szT p = n + 1 := ⟨szT p - 1, by have := szT_pos h0 hp; omega⟩
   have h6 := szT_le hp
   have e := eV_part (x := gz (lgZ a)) (y := gz (lgS a n)) (p := p) h0 hp fun k hk hs => by
    show (lgS a 6).getD k 0 % 10007 = (lgS a n).getD k 0 % 10007
    rw [lgS_stay a (show n <= 6 by omega) hk (by omega)]
   have e1 : gz (lgS a n) p = 0 := lgS_great a n hp (by omega)
   have e2 : gz (lgZ a) p = (a.getD p 0 - (expZ (lgS a n)).getD p 0) % 10007 := by
    show (lgS a 6).getD p 0 = _
    rw [lgS_stay a (show n + 1 <= 6 by omega) hp (by omega), lgS_get a n hp, if_pos hn]
   have e3 : (expZ (lgS a n)).getD p 0 = eV (gz (lgS a n)) 6 p % 10007 := expZ_gz _ hp
   rw [e3] at e2
   show _ = a.getD p 0 % 10007
   omega
 · have : p = 0 := by omega
   subst this
   rw [eV_zero]
   show _ = a.getD 0 0 % 10007
   rw [ha.one]
   rfl
theorem lgZ_len (a : List Int) : (lgZ a).length = 38 := lgS_len a 6
theorem lgZ_nums (a : List Int) : Nums (lgZ a) := lgS_nums a 6
theorem lgZ_head (a : List Int) : (lgZ a).getD 0 0 = 0 := lgS_head a 6
def facA : Nat -> Nat
 | 0 => 1
 | 1 => 1
 | 2 => 2
 | 3 => 6
 | 4 => 24
 | 5 => 120
 | _ => 720
theorem fac_step {n : Nat} (h2 : 2 <= n) (h6 : n <= 6) : (facA (n - 1) : Int) * (n : Int) = (facA n : Nat) := by
 obtain rfl | rfl | rfl | rfl | rfl : n = 2 \/ n = 3 \/ n = 4 \/ n = 5 \/ n = 6 := by omega
 all_goals decide
theorem facN_le (n : Nat) : facA n <= 720 := by
 unfold facA
 split <;> omega
set_option maxHeartbeats 1000000 in
theorem i_factorial (w : World) (k : Nat) (h1 : 1 <= k) (h6 : k <= 6) : Calls Tryz.prog 100 #[.int .i64 (k : Nat)] w fun e w' => e = .returned (.int .i64 (facA k : Nat)) /\ w = w' := by
 go_enter Tryz.func100, Tryz.ntmps100
 go_wp2_with fail
 go_loopw [3, 4] (fun x y wr => ∃ n f : Nat, y = .int .i64 (n : Nat) /\ 2 <= n /\ n <= k + 1 /\ x = .int .i64 (f : Nat) /\ Hid (f = facA (n - 1)) /\ wr = w) (fun _ y _ => k + 1 - (intOf y).toNat)
 case atStart => exact ⟨2, 1, rfl, by omega, by omega, rfl, rfl, rfl⟩
 case round =>
  obtain ⟨n, f, rfl, h2, h7, rfl, HF, rfl⟩ := hrel
  have hf : f <= 720 := by rw [HF.out]; exact facN_le _
  by_cases hle : n <= k
  · have hll : (n : Int) <= (k : Int) := by omega
    have hs := fac_step h2 (by omega)
    rw [<- HF.out] at hs
    have hg := facN_le n
    obtain ⟨g, hgg⟩ : ∃ g, g = facA n := ⟨_, rfl⟩
    rw [<- hgg] at hs hg
    have hw : wrap64 ((f : Int) * (n : Int)) = (g : Int) := by rw [hs]; exact w64_in' _ (by omega)
    have hw2 : IntKind.i64.wrap ((f : Int) * (n : Int)) = (g : Int) := by rw [hs]; exact IntWalk.i64_in _ (by omega)
    have HG := Lib.hid hgg
    clear hs hgg
    go_wp2_with fail
    go_roundw
    case rel => exact ⟨n + 1, g, by go_num, by omega, by omega, rfl, by show g = facA (n + 1 - 1); rw [Nat.add_sub_cancel]; exact HG.out, by first | rfl | trivial⟩
    case measure => simp [intOf]; omega
  · have hnk : n = k + 1 := by omega
    subst hnk
    have hll : ¬ (((k + 1 : Nat) : Int) <= (k : Int)) := by omega
    have hll2 : ¬ ((k : Int) + 1 <= (k : Int)) := by omega
    go_wp2_with fail
    go_ret
    exact ⟨by rw [HF.out]; rfl, rfl⟩
def acJ (b x : List Int) (c : MC) : Int := match c.1.1 with
 | [k] => (c.2 : Int) * (b.getD k 0 * x.getD c.1.2 0 % 10007) % 10007
 | _ => 0
def acY (b x : List Int) : List Int := 0 :: (List.range 37).map fun n => sumF (acJ b x) (CTab.getD n []) % 10007
theorem acY_len (b x : List Int) : (acY b x).length = 38 := by simp [acY]
theorem acY_nums (b x : List Int) : Nums (acY b x) := by
 intro z hz
 rcases List.mem_cons.1 hz with rfl | hz
 · omega
 · obtain ⟨n, -, rfl⟩ := List.mem_map.1 hz
   omega
theorem acJ_bd (b x : List Int) (c : MC) : 0 <= acJ b x c /\ acJ b x c <= 10006 := by
 unfold acJ
 split
 · omega
 · omega
theorem acY_get (b x : List Int) {i : Nat} (h : i < 37) : (acY b x)[i + 1]? = some (sumF (acJ b x) (CTab.getD i []) % 10007) := by
 unfold acY
 rw [List.getElem?_cons_succ, List.getElem?_map, List.getElem?_range h]
 rfl
set_option maxHeartbeats 16000000 in
theorem i_actOn (w : World) (vp va vb : Value) (Af : Option Addr) (cf Bp : Nat) (b x : List Int) (hP : FrC w Bp vp) (h1 : Ints w va b) (l1 : b.length = 38) (hN1 : Nums b) (h2 : Ints w vb x) (l2 : x.length = 38) (hN2 : Nums x) :
  Calls Tryz.prog 97 #[.agg #[.slice Af 37 cf, vp], va, vb] w fun e w' => ∃ r, e = .returned r /\ OwnInts w' w.heap.size tI r (acY b x) /\ Below w.heap.size w w' := by
 obtain ⟨AP, cP, rfl, -⟩ := hP.at_
 obtain ⟨Ab, cb, rfl, -, -, -⟩ := h1.open_
 obtain ⟨Ax, cx, rfl, -, -, -⟩ := h2.open_
 rw [l1] at h1 ⊢
 rw [l2] at h2 ⊢
 obtain ⟨adb, rfl, -, -, -⟩ := map_cell h1 hN1 (k := 0) (by omega)
 obtain ⟨adx, rfl, -, -, -⟩ := map_cell h2 hN2 (k := 0) (by omega)
 obtain ⟨wb, hwb⟩ : ∃ wb, wb = w.alloc (.cells #[.slice Af 37 cf, .slice AP 37 cP] tFo) := ⟨_, rfl⟩
 have hbb : Below w.heap.size w wb := by rw [hwb]; exact below1 w _
 have HBX := Lib.hid hbb
 have HF := Lib.hid (show Blk wb w.heap.size tFo #[.slice Af 37 cf, .slice AP 37 cP] from by rw [hwb]; exact Blk.new _ _ _)
 have HP := Lib.hid (hP.below hbb)
 have HB1 := Lib.hid (h1.below hbb)
 have HX1 := Lib.hid (h2.below hbb)
 have HNB := Lib.hid hN1
 have HNX := Lib.hid hN2
 have HSZ := Lib.hid (acY_len b x)
 have OL := Lib.hid (show Own (wb.alloc (.cells #[.int .i64 0] tI)) wb.heap.size tI (.slice (some ⟨wb.heap.size, 0, none⟩) 1 1) (ints ((acY b x).take 1)) from by rw [show ints ((acY b x).take 1) = [.int .i64 0] from rfl]; exact own_lit wb tI [.int .i64 0] (by simp [maxLen]))
 have hf1a : ∀ o, (wb.alloc o).cell? ⟨w.heap.size, 1, none⟩ = some (.slice AP 37 cP) := fun o => (HF.out.alloc o).cell 1
 clear hP h1 h2 l1 l2 hN1 hN2 hbb
 go_enter Tryz.func97, Tryz.ntmps97
 go_upto_region 1 with fail
 rw [<- hwb]
 clear hwb
 go_wp2_with fail
 clear hf1a
 go_loopw [7, 17] (fun o y wr => ∃ i : Nat, i <= 37 /\ y = .int .i64 i /\ Own wr wb.heap.size tI o (ints ((acY b x).take (i + 1))) /\ Below wb.heap.size wb wr) (fun _ y _ => 37 - (intOf y).toNat)
 case atStart => exact ⟨0, Nat.zero_le _, rfl, OL.out, below1 wb _⟩
 case round =>
  obtain ⟨i, hi, rfl, ho, hb⟩ := hrel
  rename World => wq
  clear OL
  have hel : ((acY b x).take (i + 1)).length = i + 1 := by rw [List.length_take, HSZ.out]; omega
  have hol := ho.cells.open_
  rw [ints_len, hel] at hol
  obtain ⟨Ao, co, rfl, -, -⟩ := hol
  have HEL := Lib.hid hel
  have HO := Lib.hid ho
  have HBQ := Lib.hid hb
  obtain ⟨AP', cP', he, hat⟩ := (HP.out.below hb).at_
  simp only [Value.slice.injEq, true_and] at he
  obtain ⟨rfl, rfl⟩ := he
  clear ho hel
  by_cases hlt : i < 37
  · obtain ⟨adp, css, A2, c2, rfl, ho2, hm2, hcp⟩ := hat i hlt
    have hpl := CTab_ln hlt
    obtain ⟨L, hL⟩ : ∃ L, L = CTab.getD i [] := ⟨_, rfl⟩
    rw [<- hL] at hm2 hpl
    have HLE := Lib.hid hL
    have HPL := Lib.hid hpl
    have hcl := hm2.1
    have HCL := Lib.hid hcl
    have hc5 : css.length <= 100 := by rw [hcl]; exact hpl
    have HO2 := Lib.hid ho2
    have HM2 := Lib.hid hm2
    have HTS := Lib.hid (show ints ((acY b x).take (i + 1 + 1)) = ints ((acY b x).take (i + 1)) ++ [.int .i64 (sumF (acJ b x) L % 10007)] from by
     have h1 : (acY b x)[i + 1]? = some (sumF (acJ b x) L % 10007) := by rw [hL]; exact acY_get b x hlt
     rw [List.take_add_one, h1, ints, ints, List.map_append]; rfl)
    have hii : (i : Int) < 37 := by omega
    clear hat hb hpl hL hcl ho2 hm2
    go_wp2_with fail
    go_loopw [10, 23] (fun s y wr => ∃ j : Nat, j <= css.length /\ y = .int .i64 j /\ s = .int .i64 (sumF (acJ b x) (L.take j)) /\ Below wq.heap.size wq wr) (fun _ y _ => css.length - (intOf y).toNat)
    case atStart => exact ⟨0, Nat.zero_le _, rfl, rfl, Below.refl _ _⟩
    case round =>
     obtain ⟨j, hj, rfl, rfl, hb⟩ := hrel
     rename World => wc
     have HBC := Lib.hid hb
     have hsb : 0 <= sumF (acJ b x) (L.take j) /\ sumF (acJ b x) (L.take j) <= 100 * 10006 := by
      have h := sumF_bd (acJ b x) 10006 (L.take j) fun c _ => acJ_bd b x c
      have h2 : (L.take j).length <= 100 := Nat.le_trans (List.length_take_le _ _) (by omega)
      have h3 := HPL.out
      rw [List.length_take] at h
      omega
     by_cases hlj : j < css.length
     · obtain ⟨⟨⟨cr, sk⟩, n⟩, hx⟩ : ∃ c, L[j]? = some c := ⟨_, List.getElem?_eq_getElem (by rw [<- HCL.out]; exact hlj)⟩
       have hxm := List.mem_of_getElem? hx
       obtain ⟨hcr, hsk, hn⟩ := CTab_at hlt (x := ((cr, sk), n)) (by rw [<- HLE.out]; exact hxm)
       have hn : n <= 100 := hn
       have hcr : ∀ p ∈ cr, p < 38 := hcr
       have hsk : sk < 38 := hsk
       obtain ⟨go, As, cs, rfl, hs1, hq0, hq1, hq2⟩ := part_at (HO2.out.below hb) (HM2.out.below hb) hx
       have hs1 : OwnInts wc Bp tN (.slice As cr.length cs) (up cr) := hs1
       have hq0 : wc.cell? ⟨go, j * 3, none⟩ = some (.int .i64 n) := hq0
       have hq1 : wc.cell? ⟨go, j * 3 + 1, none⟩ = some (.slice As cr.length cs) := hq1
       have hq2 : wc.cell? ⟨go, j * 3 + 2, none⟩ = some (.int .i64 sk) := hq2
       have HTJ := Lib.hid (show sumF (acJ b x) (L.take (j + 1)) = sumF (acJ b x) (L.take j) + acJ b x ((cr, sk), n) from by rw [sumF_take _ hx])
       have HCR := Lib.hid hcr
       generalize sumF (acJ b x) (L.take j) = sm at *
       have hjj : (j : Int) < (css.length : Int) := by omega
       clear hxm hcr hx hb
       go_upto_region 9 with fail
       obtain ⟨W, hW⟩ : ∃ W, W = wc.alloc (.cells #[.int .i64 n, .slice As cr.length cs, .int .i64 sk] tMc) := ⟨_, rfl⟩
       have hbw : Below wc.heap.size wc W := by rw [hW]; exact below1 wc _
       have HBW := Lib.hid hbw
       have HKP := Lib.hid (show Blk W wc.heap.size tMc #[.int .i64 n, .slice As cr.length cs, .int .i64 sk] from by rw [hW]; exact Blk.new _ _ _)
       have HSW := Lib.hid (hs1.below hbw).ints
       have HBB := Lib.hid ((HB1.out.below HBQ.out).below (HBC.out.trans (hbw.mono HBC.out.size)))
       have HXB := Lib.hid ((HX1.out.below HBQ.out).below (HBC.out.trans (hbw.mono HBC.out.size)))
       rw [<- hW]
       clear hW hs1 hbw hq0 hq1 hq2
       have kp1 : W.cell? ⟨wc.heap.size, 1, none⟩ = some (.slice As cr.length cs) := HKP.out.cell 1
       by_cases hc1 : cr.length = 1
       · have hd : ((cr.length : Int) == 1) = true := by simp [hc1]
         obtain ⟨p, rfl⟩ := List.length_eq_one_iff.1 hc1
         have hp38 : p < 38 := HCR.out p (by simp)
         obtain ⟨As', c', he, -, -, g2⟩ := HSW.out.open_
         obtain ⟨a2, z, hA2, hz, -, hcz⟩ := g2 0 (by simp [up])
         have hze : z = (p : Int) := by
          have h5 : (up [p])[0]? = some (p : Int) := rfl
          rw [h5] at hz
          injection hz with hz
          exact hz.symm
         subst hze
         simp only [Value.slice.injEq] at he
         obtain ⟨rfl, -, rfl⟩ := he
         subst hA2
         have hcz : W.cell? a2 = some (.int .i64 (p : Nat)) := by simpa [Addr.add] using hcz
         obtain ⟨_, he, hcb, hb0, hb1⟩ := map_cell HBB.out HNB.out (k := p) hp38
         simp only [Option.some.injEq] at he
         subst he
         obtain ⟨_, he, hcx, hx0, hx1⟩ := map_cell HXB.out HNX.out (k := sk) hsk
         simp only [Option.some.injEq] at he
         subst he
         have HTJ := Lib.hid (show sumF (acJ b x) (L.take (j + 1)) = sm + (n : Int) * (b.getD p 0 * x.getD sk 0 % 10007) % 10007 from HTJ.out)
         generalize b.getD p 0 = yb at *
         generalize x.getD sk 0 = yx at *
         obtain ⟨S, hS1, hS2⟩ : ∃ S : World -> Prop, (∀ Wx, S Wx -> Below W.heap.size W Wx) /\ (∀ Wx, Below W.heap.size W Wx -> S Wx) := ⟨fun Wx => Below W.heap.size W Wx, fun _ h => h, fun _ h => h⟩
         have HSE := Lib.hid (show ∀ x : GW S, Below W.heap.size W x.w from fun x => hS1 _ x.h)
         have HSI := Lib.hid (show S W.drew from hS2 _ (Below.refl W.heap.size W).drew)
         have y0 : ∀ x : GW S, x.w.cell? ⟨wc.heap.size, 0, none⟩ = some (.int .i64 n) := fun x => keepCell (HSE.out x) (HKP.out.cell 0)
         have y1 : ∀ x : GW S, x.w.cell? ⟨wc.heap.size, 1, none⟩ = some (.slice (some a2) [p].length cs) := fun x => keepCell (HSE.out x) (HKP.out.cell 1)
         have y2 : ∀ x : GW S, x.w.cell? ⟨wc.heap.size, 2, none⟩ = some (.int .i64 sk) := fun x => keepCell (HSE.out x) (HKP.out.cell 2)
         have y3 : ∀ x : GW S, x.w.cell? a2 = some (.int .i64 (p : Nat)) := fun x => keepCell (HSE.out x) hcz
         have y4 : ∀ x : GW S, x.w.cell? (adb.add p) = some (.int .i64 yb) := fun x => keepCell (HSE.out x) hcb
         have y5 : ∀ x : GW S, x.w.cell? (adx.add sk) = some (.int .i64 yx) := fun x => keepCell (HSE.out x) hcx
         obtain ⟨p1, p2⟩ := mul_bd 10006 10006 hb0 hb1 hx0 hx1
         have HN1 := Lib.hid (show ∀ x : GW S, Calls Tryz.prog 56 #[.int .i64 (yb * yx)] x.w (fun e w' => e = .returned (.int .i64 (yb * yx % 10007)) /\ S w') from fun x => (i_num (yb * yx) x.w (by omega) (by omega)).mono (by rintro e w7 ⟨rfl, rfl⟩; exact ⟨rfl, hS2 _ (HSE.out x)⟩))
         have hm1 : 0 <= yb * yx % 10007 /\ yb * yx % 10007 <= 10006 := by omega
         have hwr1 : IntKind.i64.wrap (yb * yx) = yb * yx := IntWalk.i64_in _ (by omega)
         generalize yb * yx % 10007 = m1 at *
         obtain ⟨q1, q2⟩ := mul_bd 100 10006 (show (0 : Int) <= (n : Int) by omega) (show (n : Int) <= 100 by omega) hm1.1 hm1.2
         have HN2 := Lib.hid (show ∀ x : GW S, Calls Tryz.prog 56 #[.int .i64 ((n : Int) * m1)] x.w (fun e w' => e = .returned (.int .i64 ((n : Int) * m1 % 10007)) /\ S w') from fun x => (i_num ((n : Int) * m1) x.w (by omega) (by omega)).mono (by rintro e w7 ⟨rfl, rfl⟩; exact ⟨rfl, hS2 _ (HSE.out x)⟩))
         have hwr2 : IntKind.i64.wrap ((n : Int) * m1) = (n : Int) * m1 := IntWalk.i64_in _ (by omega)
         have hm2 : 0 <= (n : Int) * m1 % 10007 /\ (n : Int) * m1 % 10007 <= 10006 := by omega
         generalize hmm2 : (n : Int) * m1 % 10007 = m2 at *
         have HMM := Lib.hid hmm2
         have hpp : (p : Int) < 38 := by omega
         have hss : (sk : Int) < 38 := by omega
         clear hmm2 hS1 hS2 hcz hcb hcx g2 p1 p2 q1 q2 hb0 hb1 hx0 hx1
         go_upto_region 10 with fail
         refine wp_region_grow S (by kernel_rfl) (by kernel_rfl) HSI.out (fun hne => ?_)
         repeat (go_big_quiet_step ((go_at_call 56; first | with_reducible exact grow_call (HN1.out _) | with_reducible exact grow_call (HN2.out _))))
         refine wpQuiet_nil ?_
         rintro _ ⟨xq, rfl⟩
         clear y0 y1 y2 y3 y4 y5
         go_wp2_with fail
         go_roundw
         case rel => exact ⟨j + 1, by omega, by go_num, by rw [HTJ.out], HBC.out.trans ((HBW.out.trans ((HSE.out xq).mono HBW.out.size)).mono HBC.out.size)⟩
         case measure => simp [intOf]; omega
       · have hd : ((cr.length : Int) == 1) = false := by simp; omega
         have HTJ := Lib.hid (show sumF (acJ b x) (L.take (j + 1)) = sm from by
          rw [HTJ.out]
          match cr, hc1 with
          | [], _ => exact Int.add_zero _
          | [_], h => exact absurd rfl h
          | _ :: _ :: _, _ => exact Int.add_zero _)
         clear hc1
         go_wp2_with fail
         go_roundw
         case rel => exact ⟨j + 1, by omega, by go_num, by rw [HTJ.out], HBC.out.trans (HBW.out.mono HBC.out.size)⟩
         case measure => simp [intOf]; omega
     · have hjl : L.take j = L := List.take_of_length_le (by rw [<- HCL.out]; omega)
       rw [hjl] at hsb ⊢
       have HOX := Lib.hid (HO.out.below HBC.out)
       clear hjl hb
       generalize sumF (acJ b x) L = sm at *
       go_wp2_with (first
        | (go_at_call 56; refine (i_num sm _ (by omega) (by omega)).mono ?_; rintro e w' ⟨rfl, rfl⟩)
        | (at_builtin; go_loud (refine wpList_app1 T_int HOX.out (by rw [ints_len, HEL.out]; omega) (Nat.le_trans HBQ.out.size HBC.out.size) (by rfl) rfl (by rfl) (by rfl) (by rfl) ?_; intro v1 w6 hown1 hgr1; have HN := Lib.hid hown1; have HGR := Lib.hid hgr1; clear hown1 hgr1)))
       go_roundw
       case rel =>
        refine ⟨i + 1, by omega, by go_num, ?_, HGR.out.below (HBQ.out.trans (HBC.out.mono HBQ.out.size)) (Nat.le_trans HBQ.out.size HBC.out.size) HO.out.ge⟩
        rw [HTS.out]; exact HN.out
       case measure => simp [intOf]; omega
  · have hil : i + 1 = (acY b x).length := by rw [HSZ.out]; omega
    have HFF := Lib.hid (show (acY b x).take (i + 1) = acY b x from by rw [hil]; exact List.take_length)
    clear hil
    go_wp2_with fail
    go_ret
    refine ⟨_, rfl, ⟨?_, fun z hz => in64_num (acY_nums b x z hz)⟩, HBX.out.trans (HBQ.out.mono HBX.out.size)⟩
    have h := HO.out
    rw [HFF.out] at h
    exact h.mono HBX.out.size
theorem neq_false {x y : Int} (h : x = y) : (x != y) = false := by simp [h]
theorem neq_true {x y : Int} (h : ¬ x = y) : (x != y) = true := by simp [h]
set_option maxHeartbeats 4000000 in
theorem i_agreeTo (w : World) (v va vb : Value) (B : Option Addr) (m d : Nat) (a b : List Int) (ha : Rows w v (T6n.map up)) (h1 : Ints w va a) (h2 : Ints w vb b) (l1 : a.length = 38) (l2 : b.length = 38) :
  Calls Tryz.prog 65 #[.agg #[v, .slice B m d], va, vb] w fun e w' => e = .returned (.int .i64 (agZ a b)) /\ Below w.heap.size w w' := by
 obtain ⟨A, c, he, -, -, -⟩ := ha.open_
 rw [List.length_map, T6n_len] at he
 subst he
 have hbel : Below w.heap.size w (w.alloc (.cells #[.slice A 37 c, .slice B m d] 57)) := below1 w _
 have HRA := Lib.hid (ha.below hbel)
 obtain ⟨A1, c1, rfl, -, -, g1⟩ := (h1.below hbel).open_
 obtain ⟨A2, c2, rfl, -, -, g2⟩ := (h2.below hbel).open_
 rw [l1] at g1 ⊢
 rw [l2] at g2 ⊢
 have G1 := Lib.hid g1
 have G2 := Lib.hid g2
 have HBX := Lib.hid (Blk.new w #[.slice A 37 c, .slice B m d] 57)
 have HBE := Lib.hid hbel
 clear ha hbel h1 h2 l1 l2 g1 g2
 go_enter Tryz.func65, Tryz.ntmps65
 go_wp2_with fail
 generalize hwq : (w.alloc (.cells #[.slice A 37 c, .slice B m d] 57)) = wq at HRA G1 G2 HBX HBE ⊢
 clear hwq
 go_loopw [10] (fun x wr => ∃ k n : Nat, k <= 38 /\ x = .int .i64 k /\ Hid (∀ i, i < k -> a.getD i 0 = b.getD i 0) /\ wr = wq.drewN n) (fun x _ => 38 - (intOf x).toNat)
 case atStart => exact ⟨0, 0, Nat.zero_le _, rfl, fun i hi => by omega, rfl⟩
 case round =>
  obtain ⟨k, n, hk, rfl, hI, rfl⟩ := hrel
  by_cases hlt : k < 38
  · obtain ⟨a1, x, rfl, hx, -, hcx⟩ := G1.out k hlt
    obtain ⟨a2, y, rfl, hy, -, hcy⟩ := G2.out k hlt
    have hgx := ints_getD hx
    have hgy := ints_getD hy
    have hkk : (k : Int) < 38 := by omega
    by_cases hxy : x = y
    · have hne := neq_false hxy
      have HI2 := Lib.hid (show ∀ i, i < k + 1 -> a.getD i 0 = b.getD i 0 from fun i hi => by
       by_cases e : i = k
       · subst e; rw [hgx, hgy]; exact hxy
       · exact hI i (by omega))
      clear hI hx hy hgx hgy hxy
      go_upto_region 4 with fail
      go_quiet (fail)
      go_wp2_with fail
      go_roundw
      case rel => exact ⟨k + 1, _, by omega, by go_num, HI2.out, by first | rfl | exact World.drewN_drewN ..⟩
      case measure => simp [intOf]; omega
    · have hne := neq_true hxy
      have HZ := Lib.hid (agZ_hit hI hlt (by rw [hgx, hgy]; exact hxy))
      have hs := szN_le k
      clear hI hx hy hgx hgy hxy
      go_upto_region 4 with fail
      go_quiet (fail)
      have hf0 : wq.cell? ⟨w.heap.size, 0, none⟩ = some (.slice A 37 c) := HBX.out.cell 0
      have hf1 : wq.cell? ⟨w.heap.size, 1, none⟩ = some (.slice B m d) := HBX.out.cell 1
      go_wp2_with (go_at_call 123; go_loud (refine (im_fnodes _ _ B m d k (HRA.out.below (below_drewN (Below.refl _ _) _)) (by omega)).mono ?_; rintro e w2 ⟨rfl, hw2⟩; have HB2 := Lib.hid (show Below w.heap.size w w2 from by rw [hw2]; exact (below_drewN HBE.out _).trans ((below1 _ _).mono (by have := HBE.out.size; simpa using this))); clear hw2))
      go_ret
      exact ⟨ret_i64 HZ.out.symm, HB2.out⟩
  · have HZ := Lib.hid (agZ_miss (a := a) (b := b) (fun i hi => hI i (by omega)))
    clear hI
    go_wp2_with fail
    go_ret
    exact ⟨ret_i64 HZ.out.symm, below_drewN HBE.out _⟩
set_option maxHeartbeats 4000000 in
theorem i_keep (w : World) (v va : Value) (B : Option Addr) (m d g : Nat) (c0 : Value) (p : Nat -> Bool) (a : List Int) (ha : Rows w v (T6n.map up)) (h1 : Ints w va a) (l1 : a.length = 38)
  (hcf : ∀ (args : Array Value) (w : World), Sem.run Tryz.prog (callFunc g args) w = .ok (.enter g args) w)
  (hp : ∀ (W : World) (n : Nat), Below w.heap.size w W -> Calls Tryz.prog g #[.int .i64 n, c0] W fun e w' => e = .returned (.bool (p n)) /\ W = w') :
  Calls Tryz.prog 106 #[.agg #[v, .slice B m d], va, .func (.func g) #[] #[c0]] w fun e w' => ∃ x, e = .returned x /\ OwnInts w' w.heap.size tI x (kpZ p a) /\ Below w.heap.size w w' := by
 obtain ⟨A, c, he, -, -, -⟩ := ha.open_
 rw [List.length_map, T6n_len] at he
 subst he
 have hbel : Below w.heap.size w (w.alloc (.cells #[.slice A 37 c, .slice B m d] 57)) := below1 w _
 have HRA := Lib.hid (ha.below hbel)
 have HIA := Lib.hid (h1.below hbel)
 obtain ⟨A1, c1, rfl, -, -, -⟩ := h1.open_
 rw [l1] at HIA ⊢
 have HLA := Lib.hid l1
 have HP := Lib.hid hp
 have HBX := Lib.hid (Blk.new w #[.slice A 37 c, .slice B m d] 57)
 have HBE := Lib.hid hbel
 clear ha hbel h1 l1 hp
 go_enter Tryz.func106, Tryz.ntmps106
 go_wp2_with (at_make; refine wpList_mk rfl _ _ _ rfl _ _ _ T_int 38 _ rfl rfl rfl (by omega) _ ?_; intro w1 hown hb hs1; rw [size_alloc'] at hown hb; have HOWN := Lib.hid hown; have HB1 := Lib.hid hb; clear hown hb)
 have HO0 := Lib.hid (show OwnInts w1 (w.heap.size + 1) tI (.slice (some ⟨(w.heap.size + 1), 0, none⟩) 38 38) (kpT p a 0) from by
  rw [kpT_zero]
  exact ⟨by simpa [ints] using HOWN.out, fun z hz => by have := List.eq_of_mem_replicate hz; subst this; unfold In64; omega⟩)
 clear HOWN hs1
 go_loopw [15] (fun x wr => ∃ i : Nat, i <= 38 /\ x = .int .i64 i /\ OwnInts wr (w.heap.size + 1) tI (.slice (some ⟨(w.heap.size + 1), 0, none⟩) 38 38) (kpT p a i) /\ Below (w.heap.size + 1) (w.alloc (.cells #[.slice A 37 c, .slice B m d] 57)) wr) (fun x _ => 38 - (intOf x).toNat)
 case atStart => exact ⟨0, Nat.zero_le _, rfl, HO0.out, HB1.out⟩
 case round =>
  obtain ⟨i, hi, rfl, ho, hb⟩ := hrel
  have HO := Lib.hid ho
  have HB := Lib.hid hb
  clear ho hb
  by_cases hlt : i < 38
  · have hbq : Below (w.alloc (.cells #[.slice A 37 c, .slice B m d] 57)).heap.size (w.alloc (.cells #[.slice A 37 c, .slice B m d] 57)) wr := by rw [size_alloc']; exact HB.out
    obtain ⟨A1', c1', he, -, -, g1⟩ := (HIA.out.below hbq).open_
    rw [HLA.out] at he g1
    simp only [Value.slice.injEq, true_and] at he
    obtain ⟨rfl, rfl⟩ := he
    obtain ⟨a1, x, rfl, hx, hx64, hcx⟩ := g1 i hlt
    have hgx := ints_getD hx
    have hii : (i : Int) < 38 := by omega
    have HRW := Lib.hid (HRA.out.below hbq)
    have hbk := HBX.out.below HB.out (Nat.lt_succ_self _)
    have hf0 : wr.cell? ⟨w.heap.size, 0, none⟩ = some (.slice A 37 c) := hbk.cell 0
    have hf1 : wr.cell? ⟨w.heap.size, 1, none⟩ = some (.slice B m d) := hbk.cell 1
    have HX := Lib.hid hx64
    have HKS := Lib.hid (fun h : p (szN i) = true => show (kpT p a i).set i x = kpT p a (i + 1) from by rw [<- hgx]; exact (kpT_take h).symm)
    have HKN := Lib.hid (fun h : p (szN i) = false => show kpT p a (i + 1) = kpT p a i from kpT_skip h)
    clear g1 hx hgx hx64 hbk hbq
    go_wp2_with (go_at_call 123; go_loud (refine (im_fnodes _ _ B m d i HRW.out (by omega)).mono ?_; rintro e w2 ⟨rfl, hw2⟩; have hb2 : Below wr.heap.size wr w2 := (by rw [hw2]; exact below1 _ _); have HB2 := Lib.hid hb2; clear hw2))
    have HPP := Lib.hid (HP.out w2 (szN i) ((HBE.out.trans (HB.out.mono (Nat.le_succ _))).trans (HB2.out.mono (by have h2 := HB.out.size; rw [size_alloc'] at h2; omega))))
    obtain ⟨u0, -, hcg, hfg, -, -, hown', hgr⟩ := (HO.out.1.below HB2.out).storeAt (k := i) (by rw [ints_len, kpT_len]; exact hlt) (.int .i64 x)
    rw [ints_set] at hown'
    have HST := Lib.hid hown'
    have hge := HO.out.1.ge (w.heap.size + 1) rfl
    clear hown' hgr
    cases hpi : p (szN i) with
    | true =>
     rw [hpi] at HPP
     have HKK := Lib.hid (HKS.out hpi)
     clear hpi
     refine HPP.out.mono ?_
     rintro e w3 ⟨rfl, rfl⟩
     go_wp2_with fail
     go_roundw
     case rel =>
      refine ⟨i + 1, by omega, by go_num, ⟨?_, ?_⟩, (HB.out.trans (HB2.out.mono (by have h2 := HB.out.size; simpa using h2))).setCell hge _⟩
      · rw [<- HKK.out]; exact HST.out
      · intro z hz
        rw [<- HKK.out] at hz
        rcases List.mem_or_eq_of_mem_set hz with hz | hz
        · exact HO.out.2 z hz
        · rw [hz]; exact HX.out
     case measure => simp [intOf]; omega
    | false =>
     rw [hpi] at HPP
     have HKK := Lib.hid (HKN.out hpi)
     clear hpi
     refine HPP.out.mono ?_
     rintro e w3 ⟨rfl, rfl⟩
     go_wp2_with fail
     go_roundw
     case rel =>
      refine ⟨i + 1, by omega, by go_num, ?_, HB.out.trans (HB2.out.mono (by have h2 := HB.out.size; simpa using h2))⟩
      rw [HKK.out]; exact HO.out.below HB2.out
     case measure => simp [intOf]; omega
  · have hil : i = 38 := by omega
    have HF := Lib.hid (show kpT p a i = kpZ p a from by rw [hil]; exact kpT_full p a)
    clear hil
    go_wp2_with fail
    go_ret
    refine ⟨_, rfl, ?_, HBE.out.trans (HB.out.mono (Nat.le_succ _))⟩
    have h := HO.out
    rw [HF.out] at h
    exact h.mono (Nat.le_succ _)
end Go.Proofs.YtofabikjjkapmaaGreat
