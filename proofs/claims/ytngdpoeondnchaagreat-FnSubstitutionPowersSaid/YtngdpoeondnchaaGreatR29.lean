/- Plain: substitution of lists of numbers is the one by the table of places; associative, units, inverses on both sides, powers. No walk. | Walks: the checks of maps, of the program and of the reference. | DROP Walks: density of the program and of the reference; nodes of forms. | DROP Walks: the unit, the exact map of the program and of the reference. | Walk: l12To of the reference. | Walk: valueOf of the program. -/
import Derived.Test.YtngdpoeondnchaaGreatR5
import Derived.Test.YtngdpoeondnchaaGreatR28
import Derived.Test.YtngdpoeondnchaaGreatR24
import Derived.Test.YtngdpoeondnchaaGreatR2
import Derived.Test.YtngdpoeondnchaaGreatR13
import Derived.Test.YtngdpoeondnchaaGreatR6
import Derived.Test.YtngdpoeondnchaaGreatR7
import Derived.Test.YtngdpoeondnchaaGreatR18
import Derived.Test.YtngdpoeondnchaaGreatR26
import Derived.Test.YtngdpoeondnchaaGreatR10
set_option maxRecDepth 100000
set_option linter.unusedVariables false
set_option linter.unusedSimpArgs false
namespace Go.Proofs.YtngdpoeondnchaaGreat
open Go.RowKit

/-! ### the table -/
def mskTM (n : Nat) : List TM := (prtL (tr n) (2 ^ ((tr n).length - 1))).map fun x => ((((plU x).1, []), (plU x).2), 1)
def tabTM (l : List MCt) : List TM := l.map fun x => (((x.1.1, []), x.1.2), x.2)
theorem st3 : (List.range 37).all (fun n => eqTs (nrm0 (mskTM n)) (nrm0 (tabTM (STab.getD n [])))) = true := by decide +kernel
theorem allm_sv (b a : List Int) {n : Nat} (hn : n < 37) : allm (fun _ => true) a b (tr n) = sv (gz b) (gz a) (n + 1) := by
  have h1 := st3
  rw [List.all_eq_true] at h1
  have h2 := nrm0_eq (a := gz b) (b := su) (c := gz a) (h1 n (by simpa using hn))
  unfold mskTM tabTM at h2
  rw [sumF_map, sumF_map] at h2
  have e1 : allm (fun _ => true) a b (tr n) = sumF (fun x => tmV (gz b) su (gz a) ((((plU x).1, []), (plU x).2), 1)) (prtL (tr n) (2 ^ ((tr n).length - 1))) := by
    unfold allm msk
    refine sumF_congr fun x _ => ?_
    show a.getD (plU x).2 0 * prodZ (gat b (plU x).1) = ((1 : Nat) : Int) * (pz (gz b) (plU x).1 * (1 * gz a (plU x).2))
    show a.getD (plU x).2 0 * prodZ ((plU x).1.map (gz b)) = ((1 : Nat) : Int) * (prodZ ((plU x).1.map (gz b)) * (1 * a.getD (plU x).2 0))
    rw [Int.one_mul, Int.mul_comm]
    simp
  rw [e1, h2]
  show _ = sumF (cvT (gz b) (gz a)) (STab.getD n [])
  refine sumF_congr fun x _ => ?_
  unfold tmV cvT
  simp only [pz_nil, Int.one_mul]
theorem subZ_sv (b a : List Int) {p : Nat} (hp : p < 38) : gz (subZ b a) p % 10007 = sv (gz b) (gz a) p % 10007 := by
  cases p with
  | zero =>
    show a.getD 0 0 % 10007 = sumF (cvT (gz b) (gz a)) [(([], 0), 1)] % 10007
    simp only [sumF, cvT, pz_nil]
    show _ = (((1 : Nat) : Int) * (1 * a.getD 0 0) + 0) % 10007
    simp
  | succ n =>
    show (subZ b a).getD (n + 1) 0 % 10007 = _
    rw [subZ_succ b a (by omega), allm_sv b a (by omega)]
    omega
theorem nums_ext {x y : List Int} (hx : Nums x) (hy : Nums y) (lx : x.length = 38) (ly : y.length = 38) (h : ∀ p, p < 38 → gz x p % 10007 = gz y p % 10007) : x = y := by
  refine List.ext_getElem (by rw [lx, ly]) fun i h1 h2 => ?_
  have h3 := h i (by omega)
  have b1 := getD_nums hx i
  have b2 := getD_nums hy i
  have h4 : x.getD i 0 = y.getD i 0 := by
    have h5 : x.getD i 0 % 10007 = y.getD i 0 % 10007 := h3
    omega
  rw [List.getD_eq_getElem?_getD, List.getD_eq_getElem?_getD, List.getElem?_eq_getElem h1, List.getElem?_eq_getElem h2] at h4
  simpa using h4
theorem subZ_assoc {e b a : List Int} (ha : Nums a) : subZ (subZ e b) a = subZ e (subZ b a) := by
  refine nums_ext (subZ_nums ha) (subZ_nums (subZ_nums ha)) (subZ_len _ _) (subZ_len _ _) fun p hp => ?_
  rw [subZ_sv _ _ hp, subZ_sv _ _ hp]
  rw [sv_mod (b := gz (subZ e b)) (b' := sv (gz e) (gz b)) (a := gz a) (a' := gz a) hp (fun k hk => subZ_sv e b (by omega)) (fun k _ => rfl)]
  rw [sv_mod (b := gz e) (b' := gz e) (a := gz (subZ b a)) (a' := sv (gz b) (gz a)) hp (fun k _ => rfl) (fun k hk => subZ_sv b a (by omega))]
  rw [sv_assoc _ _ _ hp]
theorem unitL_gz {p : Nat} (hp : p < 38) : gz unitL p = su p := by
  have h1 : (List.range 38).all (fun p => decide (gz unitL p = su p)) = true := by decide +kernel
  rw [List.all_eq_true] at h1
  exact of_decide_eq_true (h1 p (by simpa using hp))
theorem unitL_num : Nums unitL := by
  intro z hz
  unfold unitL at hz
  simp at hz
  omega
theorem subZ_unL {a : List Int} (ha : Nums a) (la : a.length = 38) : subZ unitL a = a := by
  refine nums_ext (subZ_nums ha) ha (subZ_len _ _) la fun p hp => ?_
  rw [subZ_sv _ _ hp, sv_mod (b := gz unitL) (b' := su) (a := gz a) (a' := gz a) hp (fun k hk => by rw [unitL_gz (by omega)]) (fun k _ => rfl), sv_unL _ hp]
theorem subZ_unR {b : List Int} (hb : Nums b) (lb : b.length = 38) (h0 : b.getD 0 0 = 0) : subZ b unitL = b := by
  refine nums_ext (subZ_nums unitL_num) hb (subZ_len _ _) lb fun p hp => ?_
  rw [subZ_sv _ _ hp, sv_mod (b := gz b) (b' := gz b) (a := gz unitL) (a' := su) hp (fun k _ => rfl) (fun k hk => by rw [unitL_gz (by omega)]), sv_unR _ h0 hp]
/-! ### products -/
theorem cvZ_cv (a b : List Int) {p : Nat} (hp : p < 38) : gz (cvZ a b) p % 10007 = cv (gz a) (gz b) p % 10007 := by
  cases p with
  | zero =>
    show b.getD 0 0 % 10007 = sumF (cvT (gz a) (gz b)) [(([], 0), 1)] % 10007
    simp only [sumF, cvT, pz_nil]
    show _ = (((1 : Nat) : Int) * (1 * b.getD 0 0) + 0) % 10007
    simp
  | succ n =>
    show (cvZ a b).getD (n + 1) 0 % 10007 = sumF (cvT (gz a) (gz b)) (CTab.getD n []) % 10007
    rw [List.getD_eq_getElem?_getD, cvZ_get a b (by omega)]
    show sumF (tcI a b) (CTab.getD n []) % 10007 % 10007 = _
    rw [Int.emod_emod_of_dvd _ (Int.dvd_refl _)]
    exact sumF_modc fun x _ => by rw [tcI_is, Int.emod_emod_of_dvd _ (Int.dvd_refl _)]
theorem subZ_cvZ {b a c : List Int} (hc : Nums c) : subZ b (cvZ a c) = cvZ (subZ b a) (subZ b c) := by
  refine nums_ext (subZ_nums (cvZ_nums hc)) (cvZ_nums (subZ_nums hc)) (subZ_len _ _) (cvZ_len _ _) fun p hp => ?_
  rw [subZ_sv _ _ hp, cvZ_cv _ _ hp]
  rw [sv_mod (b := gz b) (b' := gz b) (a := gz (cvZ a c)) (a' := cv (gz a) (gz c)) hp (fun k _ => rfl) (fun k hk => cvZ_cv a c (by omega))]
  rw [cv_mod (a := gz (subZ b a)) (a' := sv (gz b) (gz a)) (b := gz (subZ b c)) (b' := sv (gz b) (gz c)) hp (fun k hk => subZ_sv b a (by omega)) (fun k hk => subZ_sv b c (by omega))]
  rw [sv_cv _ _ _ hp]
/-! ### the inverse -/
/-- the exponent behind a name -/
def e10006 : Nat := 10006
theorem e_succ : e10006 = 10005 + 1 := rfl
theorem fermat_all : (List.range 10006).all (fun a => Nat.beq ((a + 1) ^ e10006 % 10007) 1) = true := by decide +kernel
theorem fermat {a : Nat} (h0 : 0 < a) (h1 : a < 10007) : a ^ e10006 % 10007 = 1 := by
  have h := fermat_all
  rw [List.all_eq_true] at h
  obtain ⟨k, rfl⟩ : ∃ k, a = k + 1 := ⟨a - 1, by omega⟩
  exact Nat.eq_of_beq_eq_true (h k (List.mem_range.2 (by omega)))
theorem pow_modN (x n : Nat) : (x % 10007) ^ n % 10007 = x ^ n % 10007 := by rw [Nat.pow_mod, Nat.mod_mod, ← Nat.pow_mod]
theorem inv_pow {a n k : Nat} (hk : e10006 = k + 1) (h0 : 0 < a) (h1 : a < 10007) : a ^ n * ((a ^ n % 10007) ^ k % 10007) % 10007 = 1 := by
  rw [Nat.mul_mod, Nat.mod_mod, pow_modN, ← Nat.mul_mod, ← Nat.pow_succ', show k.succ = e10006 from hk.symm, ← Nat.pow_mul, Nat.mul_comm n, Nat.pow_mul, ← pow_modN, fermat h0 h1, Nat.one_pow]
theorem pw_cast (a k : Nat) : pw (a : Int) k = ((a ^ k % 10007 : Nat) : Int) := by
  unfold pw
  rw [Int.natCast_emod, Int.natCast_pow]
  rfl
theorem inv_powI {a : Int} {n : Nat} (h0 : 0 < a) (h1 : a < 10007) : a ^ n * pw (pw a n) 10005 % 10007 = 1 := by
  obtain ⟨k, rfl⟩ : ∃ k : Nat, a = k := ⟨a.toNat, by omega⟩
  rw [pw_cast, pw_cast, ← Int.natCast_pow, ← Int.natCast_mul]
  have := inv_pow (n := n) e_succ (show 0 < k by omega) (show k < 10007 by omega)
  omega
/-- the whole cut into single nodes -/
def okU3 (p : Nat) (x : MCt) : Bool := bif Nat.beq x.1.2 p then all1 x.1.1 && (Nat.beq x.1.1.length (szN p) && Nat.beq x.2 1) else true
theorem sw3 : (List.range 38).all (fun p => (SPt p).all (okU3 p) && Nat.beq (cntU (fun x => Nat.beq x.1.2 p) (SPt p)) 1) = true := by decide +kernel
theorem pz_pow (b : Nat → Int) : ∀ {l : List Nat}, all1 l = true → pz b l = b 1 ^ l.length
  | [], _ => by rw [pz_nil, List.length_nil, Int.pow_zero]
  | k :: l, h => by
    unfold all1 at h
    rw [List.all_cons, Bool.and_eq_true] at h
    rw [pz_cons, Nat.eq_of_beq_eq_true h.1, pz_pow b h.2, List.length_cons, Int.pow_succ, Int.mul_comm]
theorem top_sum {b c o : Nat → Int} {p : Nat} (ho : o p = 0) : ∀ l : List MCt, (∀ x ∈ l, okU3 p x = true) → (∀ x ∈ l, x.1.2 ≠ p → c x.1.2 = o x.1.2) → sumF (cvT b c) l = sumF (cvT b o) l + (cntU (fun x => Nat.beq x.1.2 p) l : Int) * (b 1 ^ szN p * c p)
  | [], _, _ => by simp [sumF, cntU]
  | ((ps, s), n) :: l, h, g => by
    have h1 := h ((ps, s), n) (by simp)
    have g1 := g ((ps, s), n) (by simp)
    have ih := top_sum (b := b) (c := c) ho l (fun y hy => h y (by simp [hy])) fun y hy => g y (by simp [hy])
    simp only [sumF, ih, cntU]
    unfold okU3 at h1
    unfold cvT
    simp only at h1 g1 ⊢
    cases hs : Nat.beq s p with
    | true =>
      rw [hs, cond_true, Bool.and_eq_true, Bool.and_eq_true] at h1
      have e := Nat.eq_of_beq_eq_true hs
      subst e
      rw [pz_pow b h1.1, Nat.eq_of_beq_eq_true h1.2.1, Nat.eq_of_beq_eq_true h1.2.2, ho, cond_true, Int.natCast_add, Int.add_mul]
      simp
      omega
    | false =>
      rw [g1 (fun e => by subst e; rw [Nat.beq_refl] at hs; cases hs)]
      simp
      omega
theorem sv_top {b c o : Nat → Int} {p : Nat} (hp : p < 38) (ho : o p = 0) (hc : ∀ k, k < p → c k = o k) : sv b c p = sv b o p + b 1 ^ szN p * c p := by
  have h1 := sw3
  rw [List.all_eq_true] at h1
  have h2 := h1 p (by simpa using hp)
  simp only [Bool.and_eq_true, List.all_eq_true] at h2
  show sumF (cvT b c) (SPt p) = sumF (cvT b o) (SPt p) + _
  rw [top_sum ho _ h2.1 (fun x hx hne => hc _ (by have := (sp_at hp hx).2.1; omega)), Nat.eq_of_beq_eq_true h2.2]
  simp
theorem allm_top {a b : List Int} {n : Nat} (hn : n < 37) (h : a.getD (n + 1) 0 = 0) : allm (fun k => k != n + 1) a b (tr n) = allm (fun _ => true) a b (tr n) := by
  unfold allm msk
  refine sumF_congr fun x _ => ?_
  unfold fC
  simp only [cond_true]
  cases hx : ((plU x).2 != n + 1) with
  | true => rfl
  | false =>
    have e : (plU x).2 = n + 1 := by simpa using hx
    rw [cond_false]
    unfold fP
    rw [e, h, Int.zero_mul]
theorem invZ_nums' (b : List Int) : Nums (invZ b) := filS_nums (fun o n => invF_bd b o n) 37
theorem invZ_len (b : List Int) : (invZ b).length = 38 := filS_len _ _
theorem invZ_head (b : List Int) : (invZ b).getD 0 0 = 0 := filS_head _ _
theorem invZ_right {b : List Int} (hb : Nums b) (h1 : b.getD 1 0 ≠ 0) : subZ b (invZ b) = unitL := by
  refine nums_ext (subZ_nums (invZ_nums' b)) unitL_num (subZ_len _ _) rfl fun p hp => ?_
  rw [subZ_sv _ _ hp, unitL_gz hp]
  cases p with
  | zero =>
    show sumF (cvT (gz b) (gz (invZ b))) [(([], 0), 1)] % 10007 = _
    simp only [sumF, cvT, pz_nil]
    rw [show gz (invZ b) 0 = 0 from invZ_head b]
    rfl
  | succ n =>
    have hn : n < 37 := by omega
    have ho : gz (filS (invF b) n) (n + 1) = 0 := by
      show (filS (invF b) n).getD (n + 1) 0 = 0
      rw [filS_get _ (by omega), if_neg (by omega)]
    have hc : ∀ k, k < n + 1 → gz (invZ b) k = gz (filS (invF b) n) k := fun k hk => by
      show (filS (invF b) 37).getD k 0 = (filS (invF b) n).getD k 0
      rw [filS_get _ (Nat.le_refl _), filS_get _ (by omega)]
      by_cases h : 1 ≤ k
      · rw [if_pos (by omega), if_pos (by omega)]
      · rw [if_neg (by omega), if_neg (by omega)]
    rw [sv_top hp ho hc, ← allm_sv b (filS (invF b) n) hn]
    have hv : gz (invZ b) (n + 1) = invF b (filS (invF b) n) n := by
      show (filS (invF b) 37).getD (n + 1) 0 = _
      rw [filS_get _ (Nat.le_refl _), if_pos (by omega)]
      rfl
    obtain ⟨o, hoo⟩ : ∃ o, o = filS (invF b) n := ⟨_, rfl⟩
    rw [hv, ← hoo]
    rw [← hoo] at ho
    clear hoo hc hv
    unfold invF
    rw [allm_top hn ho, show unitL.getD (n + 1) 0 = su (n + 1) from unitL_gz hp, sz_tr hn]
    have hb1 := getD_nums hb 1
    show (_ + b.getD 1 0 ^ (tr n).length * _) % 10007 = _
    generalize allm (fun _ => true) o b (tr n) = S
    have hf := inv_powI (a := b.getD 1 0) (n := (tr n).length) (by omega) (by omega)
    generalize b.getD 1 0 ^ (tr n).length = X at hf ⊢
    generalize pw (pw (b.getD 1 0) (tr n).length) 10005 = Y at hf ⊢
    generalize su (n + 1) = u
    have e1 : X * ((u - S) % 10007 * Y % 10007) % 10007 = (u - S) % 10007 := by
      rw [mul_modR, ← mul_modR X, mul_modL, mul_modR, Int.mul_left_comm, ← mul_modR, hf, Int.mul_one]
    omega
theorem invZ_one {b : List Int} (hb : Nums b) (h1 : b.getD 1 0 ≠ 0) : (invZ b).getD 1 0 ≠ 0 := by
  intro h
  have h2 := subZ_sv b (invZ b) (p := 1) (by omega)
  rw [invZ_right hb h1] at h2
  have h3 : sv (gz b) (gz (invZ b)) 1 = (invZ b).getD 1 0 * b.getD 1 0 := by
    show sumF (cvT (gz b) (gz (invZ b))) [(([1], 1), 1)] = _
    simp only [sumF, cvT, pz_cons, pz_nil]
    show ((1 : Nat) : Int) * (b.getD 1 0 * 1 * (invZ b).getD 1 0) + 0 = _
    rw [Int.mul_comm ((invZ b).getD 1 0)]
    simp
  rw [h3, h, Int.zero_mul] at h2
  exact absurd h2 (by decide)
theorem invZ_left {b : List Int} (hb : Nums b) (lb : b.length = 38) (h0 : b.getD 0 0 = 0) (h1 : b.getD 1 0 ≠ 0) : subZ (invZ b) b = unitL := by
  have hx := invZ_nums' b
  have hy := invZ_nums' (invZ b)
  have e1 := invZ_right hx (invZ_one hb h1)
  have e2 : b = invZ (invZ b) := by
    have h := subZ_unR hb lb h0
    rw [← e1, ← subZ_assoc hy, invZ_right hb h1, subZ_unL hy (invZ_len _)] at h
    exact h.symm
  conv => lhs; rhs; rw [e2]
  exact e1
end Go.Proofs.YtngdpoeondnchaaGreat

set_option maxRecDepth 100000
set_option linter.unusedVariables false
set_option linter.unusedSimpArgs false
namespace Go.Proofs.YtngdpoeondnchaaGreat
open Go.RowKit

def mapB (zs : List Int) : Bool := decide (zs.length = 38) && nums zs
def infC (zs : List Int) : Int := if mapB zs then (if zs.getD 0 0 = 0 then 0 else 5) else 1
theorem mapB_true {zs : List Int} (h : mapB zs = true) : zs.length = 38 ∧ ∀ z ∈ zs, 0 ≤ z ∧ z ≤ 10006 := by
  unfold mapB at h
  rw [Bool.and_eq_true, nums_iff] at h
  exact ⟨by simpa using h.1, h.2⟩

set_option maxHeartbeats 400000 in
theorem i_IsMap (w : World) (v : Value) (zs : List Int) (ha : Ints w v zs) : Calls Tryz.prog 76 #[v] w fun e w' => e = .returned (.bool (mapB zs)) ∧ w = w' := by
  have HA := Lib.hid ha
  obtain ⟨A, c, rfl, -, -, -⟩ := ha.open_
  clear ha
  by_cases h : zs.length = 38
  · have HF := Lib.hid (show mapB zs = nums zs by simp [mapB, h])
    have hd : ((zs.length : Int) == 38) = true := by simp [h]
    clear h
    go_enter Tryz.func76, Tryz.ntmps76
    go_wp2_with (go_at_call 123; refine (i_areNumbers _ _ _ HA.out).mono ?_; rintro e w' ⟨rfl, rfl⟩)
    go_ret
    exact ⟨ret_bool HF.out.symm, rfl⟩
  · have HF := Lib.hid (show mapB zs = false by simp [mapB, h])
    have hd : ((zs.length : Int) == 38) = false := by simp; omega
    clear h
    go_enter Tryz.func76, Tryz.ntmps76
    go_wp2_with (go_at_call 123; refine (i_areNumbers _ _ _ HA.out).mono ?_; rintro e w' ⟨rfl, rfl⟩)
    go_ret
    exact ⟨ret_bool HF.out.symm, rfl⟩

set_option maxHeartbeats 400000 in
theorem s_l14Map (w : World) (v : Value) (zs : List Int) (ha : Ints w v zs) : Calls Tryz.prog 105 #[v] w fun e w' => e = .returned (.bool (mapB zs)) ∧ w = w' := by
  have HA := Lib.hid ha
  obtain ⟨A, c, rfl, -, -, -⟩ := ha.open_
  clear ha
  by_cases h : zs.length = 38
  · have HF := Lib.hid (show mapB zs = nums zs by simp [mapB, h])
    have hd : ((zs.length : Int) == 38) = true := by simp [h]
    clear h
    go_enter Tryz.func105, Tryz.ntmps105
    go_wp2_with (go_at_call 122; refine (s_l01Numbers _ _ _ HA.out).mono ?_; rintro e w' ⟨rfl, rfl⟩)
    go_ret
    exact ⟨ret_bool HF.out.symm, rfl⟩
  · have HF := Lib.hid (show mapB zs = false by simp [mapB, h])
    have hd : ((zs.length : Int) == 38) = false := by simp; omega
    clear h
    go_enter Tryz.func105, Tryz.ntmps105
    go_wp2_with (go_at_call 122; refine (s_l01Numbers _ _ _ HA.out).mono ?_; rintro e w' ⟨rfl, rfl⟩)
    go_ret
    exact ⟨ret_bool HF.out.symm, rfl⟩

/-- the head of a map -/
theorem map_head {w : World} {A : Option Addr} {c : Nat} {zs : List Int} (h : Ints w (.slice A zs.length c) zs) (hm : mapB zs = true) : ∃ ad, A = some ad ∧ w.cell? ad = some (.int .i64 (zs.getD 0 0)) := by
  obtain ⟨A', c', he, -, -, h3⟩ := h.open_
  injection he with h1 h2 h4
  subst h1
  obtain ⟨ad, z, rfl, hz, -, hc⟩ := h3 0 (by have := (mapB_true hm).1; omega)
  refine ⟨ad, rfl, ?_⟩
  rw [List.getD_eq_getElem?_getD, hz]
  simpa [Addr.add] using hc

def infA (b : List Int) (oss : List (List Int)) : Int := if (oss ++ [b]).all mapB then (if b.getD 0 0 = 0 then 0 else 5) else 1
theorem infA_nil (b : List Int) : infA b [] = infC b := by simp [infA, infC]
theorem infA_one (b a : List Int) : infA b [a] = if mapB b && mapB a then (if b.getD 0 0 = 0 then 0 else 5) else 1 := by simp [infA, Bool.and_comm]

set_option maxHeartbeats 2000000 in
theorem i_checkInfinitesimal (w : World) (vb vo : Value) (Bo : Nat) (us : List Value) (b : List Int) (oss : List (List Int)) (ho : Own w Bo tL vo us) (hl : us.length = oss.length) (hn : us.length ≤ 10) (hBo : Bo ≤ w.heap.size)
    (hb : ∀ W, w.grownBy W vo.ownBlock → Ints W vb b) (hr : ∀ (k : Nat) (u : Value) (zs : List Int) (W : World), us[k]? = some u → oss[k]? = some zs → w.grownBy W vo.ownBlock → Ints W u zs) :
    Calls Tryz.prog 53 #[vb, vo] w fun e w' => e = .returned (.int .i64 (infA b oss)) ∧ w.grownBy w' vo.ownBlock := by
  have HB := Lib.hid hb
  have HO := Lib.hid ho
  have hb0 := hb w (World.grownBy.refl _ _)
  obtain ⟨A, c, rfl, -, -, -⟩ := hb0.open_
  obtain ⟨Ao, co, rfl, -, -⟩ := ho.cells.open_
  have HL := Lib.hid (show us.length + 1 = (oss ++ [b]).length from by rw [List.length_append, hl]; rfl)
  have HR := Lib.hid (show ∀ (k : Nat) (u : Value) (zs : List Int) (W : World), (us ++ [.slice A b.length c])[k]? = some u → (oss ++ [b])[k]? = some zs → w.grownBy W (Value.slice Ao us.length co).ownBlock → Ints W u zs from fun k u zs W hu hz hg => by
    by_cases hlt : k < us.length
    · rw [List.getElem?_append_left hlt] at hu
      rw [List.getElem?_append_left (by rw [← hl]; exact hlt)] at hz
      exact hr k u zs W hu hz hg
    · have hkl := (List.getElem?_eq_some_iff.1 hu).1
      simp at hkl
      have hk : k = us.length := by omega
      rw [hk] at hu
      rw [hk, hl] at hz
      simp at hu hz
      subst hu hz
      exact hb W hg)
  clear ho hl hb hr hb0
  go_enter Tryz.func53, Tryz.ntmps53
  go_wp2_with (at_builtin; go_loud (refine wpList_app1 T_row HO.out (by omega) hBo (by cases A <;> rfl) rfl (by rfl) (by rfl) (by rfl) ?_; intro v1 w1 hown1 hgr1; obtain ⟨A1, c1, hv1, -, -⟩ := hown1.cells.open_; rw [List.length_append, List.length_singleton] at hv1; subst hv1; have HN := Lib.hid hown1; have HG := Lib.hid hgr1.1; clear hown1 hgr1))
  go_loopw [12] (fun x wr => ∃ k : Nat, k ≤ us.length + 1 ∧ x = .int .i64 k ∧ Hid (∀ (i : Nat) (y : List Int), i < k → (oss ++ [b])[i]? = some y → mapB y = true) ∧ wr = w1) (fun x _ => us.length + 1 - (intOf x).toNat)
  case atStart => exact ⟨0, Nat.zero_le _, rfl, fun i y hi => by omega, rfl⟩
  case round =>
    obtain ⟨k, hk, rfl, hI, rfl⟩ := hrel
    by_cases hlt : k < us.length + 1
    · obtain ⟨u, hu⟩ : ∃ u, (us ++ [Value.slice A b.length c])[k]? = some u := ⟨_, List.getElem?_eq_getElem (by rw [List.length_append]; exact hlt)⟩
      obtain ⟨zs, hz⟩ : ∃ zs, (oss ++ [b])[k]? = some zs := ⟨_, List.getElem?_eq_getElem (by rw [← HL.out]; exact hlt)⟩
      obtain ⟨ad, n', c', he, hcell⟩ := HN.out.cells.at_ hu
      simp only [Value.slice.injEq] at he
      obtain ⟨rfl, -, -⟩ := he
      have HM := Lib.hid (i_IsMap wr u zs (HR.out k u zs wr hu hz HG.out))
      have hkk : (k : Int) < (us.length : Int) + 1 := by omega
      cases hm : mapB zs with
      | true =>
        rw [hm] at HM
        have HI2 := Lib.hid (show ∀ (i : Nat) (y : List Int), i < k + 1 → (oss ++ [b])[i]? = some y → mapB y = true from fun i y hi hy => by
          by_cases e : i = k
          · subst e; rw [hz] at hy; injection hy with hy; subst hy; exact hm
          · exact hI i y (by omega) hy)
        clear hI hu hz hm
        go_wp2_with (go_at_call 76; refine HM.out.mono ?_; rintro e w2 ⟨rfl, rfl⟩)
        go_roundw
        case rel => exact ⟨k + 1, by omega, by go_num, HI2.out, by first | rfl | trivial⟩
        case measure => simp [intOf]; omega
      | false =>
        rw [hm] at HM
        have HI := Lib.hid (show infA b oss = 1 from by
          unfold infA
          rw [if_neg]
          intro h
          rw [List.all_eq_true] at h
          have := h zs (List.mem_of_getElem? hz)
          rw [hm] at this; cases this)
        clear hI hu hz hm
        go_wp2_with (go_at_call 76; refine HM.out.mono ?_; rintro e w2 ⟨rfl, rfl⟩)
        go_ret
        exact ⟨ret_i64 HI.out.symm, HG.out⟩
    · have hall : (oss ++ [b]).all mapB = true := by
        rw [List.all_eq_true]
        intro y hy
        obtain ⟨i, hi, rfl⟩ := List.getElem_of_mem hy
        exact hI i _ (by have := HL.out; omega) (List.getElem?_eq_getElem hi)
      have hmb : mapB b = true := by
        rw [List.all_eq_true] at hall
        exact hall b (by simp)
      have hbl := (mapB_true hmb).1
      obtain ⟨ad, rfl, hc⟩ := map_head (HB.out wr HG.out) hmb
      have hpos : 0 < b.length := by omega
      have hpi : (0 : Int) < (b.length : Int) := by omega
      have HI := Lib.hid (show infA b oss = if b.getD 0 0 = 0 then 0 else 5 from by unfold infA; rw [if_pos hall])
      clear hI hall hmb hbl
      generalize b.getD 0 0 = z at *
      by_cases hz : z = 0
      · have hd : (z != 0) = false := by simp [hz]
        have HZ := Lib.hid (show infA b oss = 0 from by rw [HI.out, if_pos hz])
        clear hz HI
        go_wp2_with fail
        go_ret
        exact ⟨ret_i64 HZ.out.symm, HG.out⟩
      · have hd : (z != 0) = true := by simp [hz]
        have HZ := Lib.hid (show infA b oss = 5 from by rw [HI.out, if_neg hz])
        clear hz HI
        go_wp2_with fail
        go_ret
        exact ⟨ret_i64 HZ.out.symm, HG.out⟩
/-- the check of one infinitesimal map -/
theorem i_checkInf1 (w : World) (v : Value) (zs : List Int) (ha : Ints w v zs) : Calls Tryz.prog 53 #[v, .slice none 0 0] w fun e w' => e = .returned (.int .i64 (infC zs)) ∧ Below w.heap.size w w' := by
  have h := i_checkInfinitesimal w v (.slice none 0 0) w.heap.size [] zs [] (Own.nil _ _ _) rfl (by simp) (Nat.le_refl _) (fun W hg => ha.of_old fun k hk _ => hg.block k hk (by simp [Value.ownBlock])) (fun k u zs W hu => by simp at hu)
  rw [infA_nil] at h
  exact h.mono fun e w' ⟨he, hg⟩ => ⟨he, ⟨hg.os, hg.tape, hg.output, hg.size, fun k hk => hg.block k hk (by simp [Value.ownBlock])⟩⟩
end Go.Proofs.YtngdpoeondnchaaGreat

set_option maxRecDepth 100000
set_option linter.unusedVariables false
set_option linter.unusedSimpArgs false
namespace Go.Proofs.YtngdpoeondnchaaGreat
open Go.RowKit

set_option maxHeartbeats 2000000 in
theorem im_nodes (w : World) (v : Value) (B : Option Addr) (m d k : Nat) (ha : Rows w v (T6n.map up)) (hk : k ≤ 37) :
    Calls Tryz.prog 120 #[.agg #[v, .slice B m d], .int .i64 k] w fun e w' => e = .returned (.int .i64 (szN k : Nat)) ∧ w' = w.alloc (.cells #[v, .slice B m d] 57) := by
  obtain ⟨A, c, rfl, -, -, h3⟩ := ha.open_
  rw [List.length_map, T6n_len] at h3 ⊢
  have hbel : Below w.heap.size w (w.alloc (.cells #[.slice A 37 c, .slice B m d] 57)) := below1 w _
  have hq0 : (w.alloc (.cells #[.slice A 37 c, .slice B m d] 57)).cell? ⟨w.heap.size, 0, none⟩ = some (.slice A 37 c) := (Blk.new w _ _).cell 0
  cases k with
  | zero =>
    clear h3 hbel
    go_enter Tryz.func120, Tryz.ntmps120
    go_wp2_with fail
    go_ret
    exact ⟨rfl, rfl⟩
  | succ k =>
    have hk7 : k < 37 := by omega
    obtain ⟨ad, u, zs, rfl, hz, hu, hc⟩ := h3 k hk7
    have ht : T6n[k]? = some (T6n[k]'(by rw [T6n_len]; exact hk7)) := List.getElem?_eq_getElem _
    rw [List.getElem?_map, ht] at hz
    injection hz with hz
    subst hz
    rw [szN_succ ht]
    generalize T6n[k]'(by rw [T6n_len]; exact hk7) = t at *
    obtain ⟨Au, cu, rfl, -, -, -⟩ := hu.open_
    rw [up_len] at hu hc
    have HLN := Lib.hid (lib_lengthI _ _ _ (hu.below hbel))
    rw [up_len] at HLN
    have hc1 : (w.alloc (.cells #[.slice (some ad) 37 c, .slice B m d] 57)).cell? (ad.add k) = some (.slice Au t.length cu) := by
      rw [hbel.cell (by rw [block_add]; have := World.block_lt_of_cell? w _ hc; rwa [block_add] at this)]; exact hc
    have hkk : (k : Int) < 37 := by omega
    have hz0 : (((k + 1 : Nat) : Int) == 0) = false := by simp; omega
    have hz1 : ((k + 1 : Nat) : Int) - 1 = (k : Int) := by omega
    clear h3 ht hu hc hbel
    go_enter Tryz.func120, Tryz.ntmps120
    go_wp2_with (go_at_call 124; refine HLN.out.mono ?_; rintro e w0 ⟨rfl, rfl⟩)
    go_ret
    exact ⟨rfl, rfl⟩
end Go.Proofs.YtngdpoeondnchaaGreat

set_option maxRecDepth 100000
set_option linter.unusedVariables false
set_option linter.unusedSimpArgs false
namespace Go.Proofs.YtngdpoeondnchaaGreat
open Go.RowKit

theorem ints_set (zs : List Int) (k : Nat) (z : Int) : (ints zs).set k (.int .i64 z) = ints (zs.set k z) := by simp [ints, List.map_set]
theorem ints_getD {zs : List Int} {k : Nat} {z : Int} (h : zs[k]? = some z) : zs.getD k 0 = z := by simp [List.getD, h]
theorem in64_num {z : Int} (h : 0 ≤ z ∧ z ≤ 10006) : In64 z := by unfold In64; omega

/-- the row of a tree -/
theorem Rows.tree {w : World} {A : Option Addr} {c : Nat} (h : Rows w (.slice A 37 c) (T6n.map up)) {i : Nat} (hi : i < 37) :
    ∃ ad At ct t, A = some ad ∧ T6n[i]? = some t ∧ Ints w (.slice At t.length ct) (up t) ∧ w.cell? (ad.add i) = some (.slice At t.length ct) := by
  obtain ⟨A', c', he, -, -, h3⟩ := h.open_
  rw [List.length_map, T6n_len] at he h3
  simp only [Value.slice.injEq, true_and] at he
  obtain ⟨rfl, rfl⟩ := he
  obtain ⟨ad, u, zs, rfl, hz, hu, hc⟩ := h3 i hi
  have ht : T6n[i]? = some (T6n[i]'(by rw [T6n_len]; exact hi)) := List.getElem?_eq_getElem _
  rw [List.getElem?_map, ht] at hz
  injection hz with hz
  subst hz
  obtain ⟨Au, cu, rfl, -, -, -⟩ := hu.open_
  rw [up_len] at hu hc
  exact ⟨ad, Au, cu, _, rfl, ht, hu, hc⟩

end Go.Proofs.YtngdpoeondnchaaGreat

set_option maxRecDepth 100000
set_option linter.unusedVariables false
set_option linter.unusedSimpArgs false
namespace Go.Proofs.YtngdpoeondnchaaGreat
open Go.RowKit

/-- a cell of a map -/
theorem map_cell {w : World} {A : Option Addr} {c : Nat} {a : List Int} (h : Ints w (.slice A 38 c) a) (hm : ∀ z ∈ a, 0 ≤ z ∧ z ≤ 10006) {k : Nat} (hk : k < 38) :
    ∃ ad, A = some ad ∧ w.cell? (ad.add k) = some (.int .i64 (a.getD k 0)) ∧ 0 ≤ a.getD k 0 ∧ a.getD k 0 ≤ 10006 := by
  obtain ⟨A', c', he, -, -, h3⟩ := h.open_
  simp only [Value.slice.injEq] at he
  obtain ⟨rfl, hl, rfl⟩ := he
  obtain ⟨ad, z, rfl, hz, -, hc⟩ := h3 k (by omega)
  rw [ints_getD hz]
  have := hm z (List.mem_of_getElem? hz)
  exact ⟨ad, rfl, hc, this.1, this.2⟩

end Go.Proofs.YtngdpoeondnchaaGreat

set_option maxRecDepth 100000
set_option linter.unusedVariables false
set_option linter.unusedSimpArgs false
namespace Go.Proofs.YtngdpoeondnchaaGreat
open Go.RowKit

set_option maxHeartbeats 2000000 in
theorem i_valueOf (w : World) (va vp : Value) (a : List Int) (ps : List Nat) (h1 : Ints w va a) (l1 : a.length = 38) (hN : Nums a) (h2 : Ints w vp (up ps)) (hp : ∀ p ∈ ps, p < 38) :
    Calls Tryz.prog 110 #[va, vp] w fun e w' => e = .returned (.int .i64 (valZ a ps)) ∧ w = w' := by
  obtain ⟨A, c, rfl, -, -, -⟩ := h1.open_
  rw [l1] at h1 ⊢
  have HA := Lib.hid h1
  have HN := Lib.hid hN
  have HP := Lib.hid hp
  obtain ⟨A2, c2, rfl, hc2, hc3, g2⟩ := h2.open_
  rw [up_len] at g2 hc2 ⊢
  have G2 := Lib.hid g2
  clear h1 h2 l1 hN hp g2
  go_enter Tryz.func110, Tryz.ntmps110
  go_wp2_with fail
  go_loop [5, 10] (fun x y => ∃ k : Nat, k ≤ ps.length ∧ x = .int .i64 (valZ a (ps.take k)) ∧ y = .int .i64 k) (fun _ y => ps.length - (intOf y).toNat)
  case atStart => exact ⟨0, Nat.zero_le _, rfl, rfl⟩
  case round =>
    obtain ⟨k, hk, rfl, rfl⟩ := hrel
    have hv := valZ_bd a (ps.take k)
    by_cases hlt : k < ps.length
    · obtain ⟨p, hpk⟩ : ∃ p, ps[k]? = some p := ⟨_, List.getElem?_eq_getElem hlt⟩
      have hp38 := HP.out p (List.mem_of_getElem? hpk)
      obtain ⟨a2, z, rfl, hz, -, hcz⟩ := G2.out k hlt
      have hze : z = (p : Int) := by
        unfold up at hz
        rw [List.getElem?_map, hpk] at hz
        injection hz with hz
        exact hz.symm
      subst hze
      obtain ⟨ad, rfl, hcx, hx0, hx1⟩ := map_cell HA.out HN.out hp38
      have HV := Lib.hid (show valZ a (ps.take (k + 1)) = valZ a (ps.take k) * a.getD p 0 % 10007 from by rw [List.take_add_one, hpk]; exact valZ_snoc a _ p)
      generalize a.getD p 0 = y at *
      generalize valZ a (ps.take k) = s at *
      obtain ⟨p1, p2⟩ := mul_bd 10006 10006 hv.1 hv.2 hx0 hx1
      have hkk : (k : Int) < (ps.length : Int) := by omega
      have hpp : (p : Int) < 38 := by omega
      clear hz hpk
      go_wp2_with (go_at_call 103; refine (i_num _ _ (by omega) (by omega)).mono ?_; rintro e w' ⟨rfl, rfl⟩)
      go_roundw
      case rel => exact ⟨k + 1, by omega, by rw [HV.out], by go_num⟩
      case measure => simp [intOf]; omega
    · have hkl : ps.take k = ps := List.take_of_length_le (by omega)
      rw [hkl]
      clear hkl
      go_wp2_with fail
      go_ret
      exact ⟨rfl, rfl⟩
end Go.Proofs.YtngdpoeondnchaaGreat

