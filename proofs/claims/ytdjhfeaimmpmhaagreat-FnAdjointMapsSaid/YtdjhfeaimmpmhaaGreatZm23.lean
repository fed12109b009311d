/- Walks: expMap, logMap, LogMap, ScaleMap, AddMaps, MultiplyMap of the program, plus9 of the laws. -/
import Derived.Test.YtdjhfeaimmpmhaaGreatZm22
import Derived.Test.YtdjhfeaimmpmhaaGreatZm21
import Derived.Test.YtdjhfeaimmpmhaaGreatZm19
import Derived.Test.YtdjhfeaimmpmhaaGreatZm1
set_option maxRecDepth 100000
set_option linter.unusedVariables false
set_option linter.unusedSimpArgs false
namespace Go.Proofs.YtdjhfeaimmpmhaaGreat
open Go.RowKit

theorem acJ_mod (b x : List Int) (c : MC) : acJ b x c % 10007 = actT (gz b) (gz x) c % 10007 := by
  obtain ⟨⟨cr, tr⟩, n⟩ := c
  match cr with
  | [] => rfl
  | [k] =>
    show (n : Int) * (b.getD k 0 * x.getD tr 0 % 10007) % 10007 % 10007 = (n : Int) * (b.getD k 0 * x.getD tr 0) % 10007
    rw [Int.emod_emod_of_dvd _ (Int.dvd_refl _), mul_modR]
  | k :: j :: ks => rfl
theorem acY_gz (b x : List Int) {p : Nat} (hp : p < 38) : gz (acY b x) p % 10007 = actV (gz b) (gz x) p % 10007 := by
  cases p with
  | zero => rfl
  | succ n =>
    have e : gz (acY b x) (n + 1) = sumF (acJ b x) (CTab.getD n []) % 10007 := by
      show (acY b x).getD (n + 1) 0 = _
      rw [List.getD_eq_getElem?_getD, acY_get b x (by omega)]
      rfl
    rw [e, Int.emod_emod_of_dvd _ (Int.dvd_refl _)]
    exact sumF_modc fun c _ => acJ_mod b x c
/-- the number that a variable holds -/
def ptN (x : Value) (w : World) : Nat := match x with
  | .pointer (some ad) => match w.cell? ad with
    | some v => (intOf v).toNat
    | none => 0
  | _ => 0
/-- the powers of the action -/
def xY (b : List Int) : Nat → List Int
  | 0 => unM
  | k + 1 => acY b (xY b k)
def eY (b : List Int) : Nat → List Int
  | 0 => unM
  | k + 1 => addk (ifa (k + 1) : Nat) (eY b k) (xY b (k + 1))
theorem xY_len (b : List Int) (k : Nat) : (xY b k).length = 38 := by cases k; exact unM_len; exact acY_len _ _
theorem xY_nums (b : List Int) (k : Nat) : Nums (xY b k) := by cases k; exact unM_nums; exact acY_nums _ _
theorem eY_len (b : List Int) : ∀ k : Nat, (eY b k).length = 38
  | 0 => unM_len
  | k + 1 => by show (addTo _ _ _ _).length = 38; rw [addTo_len]; exact eY_len b k
theorem eY_nums (b : List Int) (k : Nat) : Nums (eY b k) := by cases k; exact unM_nums; exact addTo_nums _ _ _ _
theorem xY_gz (b : List Int) : ∀ (k : Nat) {p : Nat}, p < 38 → gz (xY b k) p % 10007 = xV (gz b) k p % 10007
  | 0, p, hp => by rw [show xY b 0 = unM from rfl, unM_gz hp]; rfl
  | k + 1, p, hp => by
    rw [show xY b (k + 1) = acY b (xY b k) from rfl, acY_gz b _ hp]
    exact actV_mod fun c hc => ⟨fun _ _ => rfl, xY_gz b k (by have := (pc_at hp hc).2; omega)⟩
theorem addk_gz (k : Int) (a b : List Int) {p : Nat} (hp : p < a.length) : gz (addk k a b) p = (gz a p + k * gz b p) % 10007 := by
  unfold gz addk addTo
  rw [List.getD_eq_getElem?_getD, List.getElem?_map, List.getElem?_range hp]
  rfl
theorem eY_gz (b : List Int) : ∀ (k : Nat) {p : Nat}, p < 38 → gz (eY b k) p % 10007 = eV (gz b) k p % 10007
  | 0, p, hp => by rw [show eY b 0 = unM from rfl, unM_gz hp]; rfl
  | k + 1, p, hp => by
    rw [show eY b (k + 1) = addk (ifa (k + 1) : Nat) (eY b k) (xY b (k + 1)) from rfl, addk_gz _ _ _ (by rw [eY_len]; exact hp)]
    have h1 := eY_gz b k hp
    have h2 := xY_gz b (k + 1) hp
    show _ % 10007 = (eV (gz b) k p + (ifa (k + 1) : Int) * xV (gz b) (k + 1) p) % 10007
    rw [Int.emod_emod_of_dvd _ (Int.dvd_refl _), Int.add_emod, h1, Int.mul_emod, h2, ← Int.mul_emod, ← Int.add_emod]
theorem eY_exp (b : List Int) : eY b 6 = expZ b := nums_ext (eY_nums b 6) (expZ_nums b) (eY_len b 6) (expZ_len b) fun p hp => by
  rw [eY_gz b 6 hp, expZ_gz b hp, Int.emod_emod_of_dvd _ (Int.dvd_refl _)]
def e5 : Nat := 10005
def okIf (k : Nat) : Bool := Nat.beq (facA k ^ e5 % 10007) (ifa k)
theorem ifa1 : (List.range 6).all (fun k => okIf (k + 1)) = true := by decide +kernel
theorem ifa_pw {k : Nat} (h1 : 1 ≤ k) (h6 : k ≤ 6) : pw (facA k : Nat) e5 = ((ifa k : Nat) : Int) := by
  have h := ifa1
  rw [List.all_eq_true] at h
  have h2 := h (k - 1) (List.mem_range.2 (by omega))
  rw [show k - 1 + 1 = k by omega] at h2
  unfold okIf at h2
  have e := Nat.eq_of_beq_eq_true h2
  rw [pw_nat]
  exact congrArg (fun n : Nat => (n : Int)) e
theorem ifa_le (k : Nat) : ifa k ≤ 10006 := by
  unfold ifa
  split <;> omega
set_option maxHeartbeats 8000000 in
theorem i_expMap (w : World) (vp va : Value) (Af : Option Addr) (cf Bp : Nat) (b : List Int) (hP : FrC w Bp vp) (h1 : Ints w va b) (l1 : b.length = 38) (n1 : Nums b) :
    Calls Tryz.prog 144 #[.agg #[.slice Af 37 cf, vp], va] w fun e w' => ∃ r, e = .returned r ∧ OwnInts w' w.heap.size tI r (expZ b) ∧ Below w.heap.size w w' := by
  obtain ⟨Ay, cy, rfl, -⟩ := hP.at_
  obtain ⟨Aa, ca, rfl, -, -, -⟩ := h1.open_
  rw [l1] at h1 ⊢
  obtain ⟨W, hW⟩ : ∃ W, W = w.alloc (.cells #[.slice Af 37 cf, .slice Ay 37 cy] tFo) := ⟨_, rfl⟩
  have hbw : Below w.heap.size w W := by rw [hW]; exact below1 w _
  have HBW := Lib.hid hbw
  have HKF := Lib.hid (show Blk W w.heap.size tFo #[.slice Af 37 cf, .slice Ay 37 cy] from by rw [hW]; exact Blk.new _ _ _)
  have HFW := Lib.hid (hP.below hbw)
  have HAW := Lib.hid (h1.below hbw)
  have HL := Lib.hid (And.intro l1 n1)
  have HE := Lib.hid (eY_exp b)
  clear hP h1 l1 n1 hbw
  go_enter Tryz.func144, Tryz.ntmps144
  go_upto_region 1 with fail
  rw [← hW]
  clear hW
  go_wp2_with (first
    | (go_at_call 151; (with_reducible refine (i_UnitMap W).mono ?_); go_loud (rintro e w1 ⟨x1, rfl, ho1, hb1⟩; have HO1 := Lib.hid ho1; have HB2 := Lib.hid hb1; clear ho1 hb1))
    | (go_at_call 151; (with_reducible refine (i_UnitMap w1).mono ?_); go_loud (rintro e w2 ⟨x2, rfl, ho2, hb2⟩; have HO2 := Lib.hid (ho2.mono HB2.out.size); have HO12 := Lib.hid (HO1.out.below hb2); have HB3 := Lib.hid (HB2.out.trans (hb2.mono HB2.out.size)); clear ho2 hb2)))
  go_loopw [5, 6, 7] (fun o x y wr => ∃ k : Nat, k ≤ 6 ∧ y = .int .i64 ((k : Int) + 1) ∧ OwnInts wr W.heap.size tI o (eY b k) ∧ OwnInts wr W.heap.size tI x (xY b k) ∧ Below W.heap.size W wr) (fun _ _ y _ => 7 - (intOf y).toNat)
  case atStart => exact ⟨0, by omega, rfl, HO12.out, HO2.out, HB3.out⟩
  case round =>
    obtain ⟨k, hk7, rfl, ho, hx, hb⟩ := hrel
    rename World => wq
    clear HO1 HO2 HO12 HB2 HB3
    have HO := Lib.hid ho
    have HX := Lib.hid hx
    have HB := Lib.hid hb
    have HKQ := Lib.hid (HKF.out.below hb HKF.out.lt)
    clear ho hx hb
    have q0 : wq.cell? ⟨w.heap.size, 0, none⟩ = some (.slice Af 37 cf) := HKQ.out.cell 0
    have q1 : wq.cell? ⟨w.heap.size, 1, none⟩ = some (.slice Ay 37 cy) := HKQ.out.cell 1
    by_cases hle : k < 6
    · have hll : (k : Int) + 1 ≤ 6 := by omega
      have hcast : (k : Int) + 1 = ((k + 1 : Nat) : Int) := by omega
      have HFA := Lib.hid (fun X => show Calls Tryz.prog 190 #[.int .i64 ((k : Int) + 1)] X fun e w' => e = .returned (.int .i64 (facA (k + 1) : Nat)) ∧ X = w' from by rw [hcast]; exact i_factorial X (k + 1) (by omega) (by omega))
      have HIV := Lib.hid (fun X => show Calls Tryz.prog 79 #[.int .i64 (facA (k + 1) : Nat)] X fun e w' => e = .returned (.int .i64 (ifa (k + 1) : Nat)) ∧ X = w' from by
        have h := i_inv (facA (k + 1) : Nat) X (by omega) (by have := facN_le (k + 1); omega)
        rwa [show pw (facA (k + 1) : Nat) 10005 = ((ifa (k + 1) : Nat) : Int) from ifa_pw (by omega) (by omega)] at h)
      have HXS := Lib.hid (show xY b (k + 1) = acY b (xY b k) from rfl)
      have HES := Lib.hid (show eY b (k + 1) = addk ((ifa (k + 1) : Nat) : Int) (eY b k) (xY b (k + 1)) from rfl)
      have hif := ifa_le (k + 1)
      clear hcast
      generalize ifa (k + 1) = f1 at *
      generalize facA (k + 1) = f2 at *
      go_wp2_with (first
        | (go_at_call 189; go_loud (refine (i_actOn _ _ _ _ Af cf Bp b (xY b k) (HFW.out.below HB.out) (HAW.out.below HB.out) HL.out.1 HL.out.2 HX.out.ints (xY_len _ _) (xY_nums _ _)).mono ?_; rintro e w3 ⟨x3, rfl, ho3, hb3⟩; have HX3 := Lib.hid (show OwnInts w3 W.heap.size tI x3 (xY b (k + 1)) from by rw [HXS.out]; exact ho3.mono HB.out.size); have HO3 := Lib.hid (HO.out.below hb3); have HB3 := Lib.hid (HB.out.trans (hb3.mono HB.out.size)); clear ho3 hb3))
        | (go_at_call 190; refine (HFA.out _).mono ?_; rintro e w4 ⟨rfl, rfl⟩)
        | (go_at_call 79; refine (HIV.out _).mono ?_; rintro e w4 ⟨rfl, rfl⟩)
        | (go_at_call 97; go_loud (refine (i_plus _ _ _ (eY b k) (xY b (k + 1)) (f1 : Nat) HO3.out.ints HX3.out.ints (eY_nums _ _) (xY_nums _ _) (by rw [eY_len, xY_len]; exact Nat.le_refl _) (by rw [eY_len]; omega) (by omega) (by omega)).mono ?_; rintro e w6 ⟨x6, rfl, ho6, hb6⟩; have HO6 := Lib.hid (show OwnInts w6 W.heap.size tI x6 (eY b (k + 1)) from by rw [HES.out]; rw [show ((f1 : Nat) : Int) % 10007 = ((f1 : Nat) : Int) by omega] at ho6; exact ho6.mono HB3.out.size); have HX6 := Lib.hid (HX3.out.below hb6); have HB6 := Lib.hid (HB3.out.trans (hb6.mono HB3.out.size)); clear ho6 hb6)))
      go_roundw
      case rel => exact ⟨k + 1, by omega, by go_num, HO6.out, HX6.out, HB6.out⟩
      case measure => simp [intOf]; omega
    · have hk6 : k = 6 := by omega
      subst hk6
      rw [HE.out] at HO
      go_wp2_with fail
      go_ret
      exact ⟨_, rfl, HO.out.mono HBW.out.size, HBW.out.trans (HB.out.mono HBW.out.size)⟩
set_option maxHeartbeats 400000 in
theorem i_logMap1 (w : World) (n : Nat) (p : Int) (b : Nat) (hc : w.cell? ⟨b, 0, none⟩ = some (.int .i64 p)) :
    Calls Tryz.prog 145 #[.int .i64 n, .pointer (some ⟨b, 0, none⟩)] w fun e w' => e = .returned (.bool (decide ((n : Int) = p))) ∧ w = w' := by
  have HQ := Lib.hid (show ((n : Int) == p) = decide ((n : Int) = p) from by by_cases h : (n : Int) = p <;> simp [h])
  go_enter Tryz.func145, Tryz.ntmps145
  go_wp2_with fail
  go_ret
  exact ⟨ret_bool HQ.out, rfl⟩
def lgP (n : Int) (m : Nat) : Bool := decide ((m : Int) = n)
theorem kpZ_nums {p : Nat → Bool} {a : List Int} (h : Nums a) : Nums (kpZ p a) := by
  intro z hz
  obtain ⟨k, -, rfl⟩ := List.mem_map.1 hz
  split
  · exact getD_nums h k
  · omega
theorem lgS_step (a : List Int) (l1 : a.length = 38) (n : Nat) : addk 1 (lgS a n) (kpZ (lgP ((n : Int) + 1)) (addk 10006 a (expZ (lgS a n)))) = lgS a (n + 1) := by
  refine nums_ext (addTo_nums _ _ _ _) (lgS_nums a (n + 1)) (by show (addTo _ _ _ _).length = 38; rw [addTo_len, lgS_len]) (lgS_len _ _) fun p hp => ?_
  rw [addk_gz 1 _ _ (by rw [lgS_len]; exact hp)]
  have hk : gz (kpZ (lgP ((n : Int) + 1)) (addk 10006 a (expZ (lgS a n)))) p = if szT p = n + 1 then (gz a p + 10006 * gz (expZ (lgS a n)) p) % 10007 else 0 := by
    have e : gz (kpZ (lgP ((n : Int) + 1)) (addk 10006 a (expZ (lgS a n)))) p = if lgP ((n : Int) + 1) (szN p) = true then gz (addk 10006 a (expZ (lgS a n))) p else 0 := by
      unfold gz kpZ
      rw [List.getD_eq_getElem?_getD, List.getElem?_map, List.getElem?_range hp]
      rfl
    rw [e, ← szT_is hp]
    by_cases h : szT p = n + 1
    · rw [if_pos h, if_pos (show lgP ((n : Int) + 1) (szT p) = true from by unfold lgP; exact decide_eq_true (by omega)), addk_gz 10006 a _ (by rw [l1]; exact hp)]
    · rw [if_neg h, if_neg (by unfold lgP; rw [decide_eq_true_eq]; omega)]
  have hr : gz (lgS a (n + 1)) p = _ := lgS_get a n hp
  rw [hk, hr]
  by_cases h : szT p = n + 1
  · rw [if_pos h, if_pos h]
    have h0 : gz (lgS a n) p = 0 := lgS_great a n hp (by omega)
    rw [h0]
    show (0 + 1 * ((gz a p + 10006 * gz (expZ (lgS a n)) p) % 10007)) % 10007 % 10007 = (gz a p - gz (expZ (lgS a n)) p) % 10007 % 10007
    generalize gz a p = x
    generalize gz (expZ (lgS a n)) p = y
    omega
  · rw [if_neg h, if_neg h]
    show (gz (lgS a n) p + 1 * 0) % 10007 % 10007 = gz (lgS a n) p % 10007
    generalize gz (lgS a n) p = x
    omega
set_option maxHeartbeats 16000000 in
theorem i_logMap (w : World) (vp va : Value) (Af : Option Addr) (cf Bp : Nat) (a : List Int) (hR : Rows w (.slice Af 37 cf) (T6n.map up)) (hP : FrC w Bp vp) (h1 : Ints w va a) (l1 : a.length = 38) (n1 : Nums a) :
    Calls Tryz.prog 84 #[.agg #[.slice Af 37 cf, vp], va] w fun e w' => ∃ r, e = .returned r ∧ OwnInts w' w.heap.size tI r (lgZ a) ∧ Below w.heap.size w w' := by
  obtain ⟨Ay, cy, rfl, -⟩ := hP.at_
  obtain ⟨Aa, ca, rfl, -, -, -⟩ := h1.open_
  rw [l1] at h1 ⊢
  obtain ⟨W, hW⟩ : ∃ W, W = w.alloc (.cells #[.slice Af 37 cf, .slice Ay 37 cy] tFo) := ⟨_, rfl⟩
  have hbw : Below w.heap.size w W := by rw [hW]; exact below1 w _
  have HBW := Lib.hid hbw
  have HKF := Lib.hid (show Blk W w.heap.size tFo #[.slice Af 37 cf, .slice Ay 37 cy] from by rw [hW]; exact Blk.new _ _ _)
  have HRW := Lib.hid (hR.below hbw)
  have HFW := Lib.hid (hP.below hbw)
  have HAW := Lib.hid (h1.below hbw)
  have HL := Lib.hid (And.intro l1 n1)
  clear hR hP h1 l1 n1 hbw
  go_enter Tryz.func84, Tryz.ntmps84
  go_upto_region 1 with fail
  rw [← hW]
  clear hW
  go_upto_region 2 with (at_make; refine wpList_mk rfl _ _ _ rfl _ _ _ T_int 38 _ rfl rfl rfl (by omega) _ ?_; intro w2 hown hb2 hs2; have HO2 := Lib.hid (show OwnInts w2 W.heap.size tI (.slice (some ⟨W.heap.size, 0, none⟩) 38 38) (lgS a 0) from ⟨hown, fun z hz => by rw [List.eq_of_mem_replicate hz]; unfold In64; omega⟩); have HB2 := Lib.hid hb2; clear hown hb2 hs2)
  generalize (Value.slice (some ⟨W.heap.size, 0, none⟩) 38 38) = x0 at HO2 ⊢
  have HO3 := Lib.hid (HO2.out.below (below1 w2 (.cells #[.int .i64 1] tI)))
  have HB3 := Lib.hid (HB2.out.trans ((below1 w2 (.cells #[.int .i64 1] tI)).mono HB2.out.size))
  have HK3 := Lib.hid (Blk.new w2 #[.int .i64 1] tI)
  have HSZ := Lib.hid (show W.heap.size ≤ w2.heap.size from HB2.out.size)
  go_wp2_with fail
  go_loopw [5, 6] (fun o x wr => ∃ (k b : Nat), k ≤ 6 ∧ x = .pointer (some ⟨b, 0, none⟩) ∧ Blk wr b tI #[.int .i64 ((k : Int) + 1)] ∧ W.heap.size ≤ b ∧ OwnInts wr W.heap.size tI o (lgS a k) ∧ (∀ c, o.ownBlock = some c → c ≠ b) ∧ Below W.heap.size W wr) (fun _ x wr => 7 - ptN x wr)
  case atStart => exact ⟨0, w2.heap.size, by omega, rfl, HK3.out, HSZ.out, HO3.out, (fun c hc e => by have := HO2.out.1.lt c hc; omega), HB3.out⟩
  case round =>
    obtain ⟨k, bb, hk6, rfl, hkb, hbw, ho, hne, hb⟩ := hrel
    rename World => wq
    clear HO2 HO3 HB2 HB3 HK3 HSZ
    have HO := Lib.hid ho
    have HB := Lib.hid hb
    have HKB := Lib.hid hkb
    have HKQ := Lib.hid (HKF.out.below hb HKF.out.lt)
    have HM0 := Lib.hid (show ptN (.pointer (some ⟨bb, 0, none⟩)) wq = k + 1 from by
      have kc : wq.cell? ⟨bb, 0, none⟩ = some (.int .i64 ((k : Int) + 1)) := hkb.cell 0
      show (match wq.cell? ⟨bb, 0, none⟩ with | some v => (intOf v).toNat | none => 0) = k + 1
      rw [kc]
      show ((k : Int) + 1).toNat = k + 1
      omega)
    have kb : wq.cell? ⟨bb, 0, none⟩ = some (.int .i64 ((k : Int) + 1)) := hkb.cell 0
    clear ho hb hkb hne
    by_cases hle : k < 6
    · have hll : (k : Int) + 1 ≤ 6 := by omega
      have HS := Lib.hid (lgS_step a HL.out.1 k)
      obtain ⟨Ao, co, heo, -, -⟩ := HO.out.1.cells.open_
      rw [ints_len, lgS_len] at heo
      subst heo
      have HPQ := Lib.hid (HFW.out.below HB.out)
      have HRQ := Lib.hid (HRW.out.below HB.out)
      have HAQ := Lib.hid (HAW.out.below HB.out)
      have HEX := Lib.hid (show ∀ X, Below wq.heap.size wq X → Calls Tryz.prog 144 #[.agg #[.slice Af 37 cf, .slice Ay 37 cy], .slice Ao 38 co] X (fun e w' => ∃ r, e = .returned r ∧ OwnInts w' wq.heap.size tI r (expZ (lgS a k)) ∧ Below wq.heap.size wq w') from fun X hX => by
        have h := i_expMap X (.slice Ay 37 cy) (.slice Ao 38 co) Af cf _ (lgS a k) (HPQ.out.below hX) ((HO.out.below hX).ints) (lgS_len _ _) (lgS_nums _ _)
        exact h.mono (by rintro e w5 ⟨r5, rfl, ho5, hb5⟩; exact ⟨r5, rfl, ho5.mono hX.size, hX.trans (hb5.mono hX.size)⟩))
      have HPL := Lib.hid (show ∀ X r, Below wq.heap.size wq X → Ints X r (expZ (lgS a k)) → Calls Tryz.prog 97 #[.slice Aa 38 ca, r, .int .i64 (-1)] X (fun e w' => ∃ x, e = .returned x ∧ OwnInts w' wq.heap.size tI x (addk 10006 a (expZ (lgS a k))) ∧ Below wq.heap.size wq w') from fun X r hX hr => by
        have h := i_plus X (.slice Aa 38 ca) r a (expZ (lgS a k)) (-1) (HAQ.out.below hX) hr HL.out.2 (expZ_nums _) (by rw [HL.out.1, expZ_len]; exact Nat.le_refl _) (by rw [HL.out.1]; omega) (by omega) (by omega)
        rw [show (-1 : Int) % 10007 = 10006 from by decide] at h
        exact h.mono (by rintro e w5 ⟨r5, rfl, ho5, hb5⟩; exact ⟨r5, rfl, ho5.mono hX.size, hX.trans (hb5.mono hX.size)⟩))
      have HKE := Lib.hid (show ∀ X r, Below wq.heap.size wq X → Ints X r (addk 10006 a (expZ (lgS a k))) → Calls Tryz.prog 96 #[.agg #[.slice Af 37 cf, .slice Ay 37 cy], r, .func (.func 145) #[] #[.pointer (some ⟨bb, 0, none⟩)]] X (fun e w' => ∃ x, e = .returned x ∧ OwnInts w' wq.heap.size tI x (kpZ (lgP ((k : Int) + 1)) (addk 10006 a (expZ (lgS a k)))) ∧ Below wq.heap.size wq w') from fun X r hX hr => by
        have h := i_keep X (.slice Af 37 cf) r Ay 37 cy 145 (.pointer (some ⟨bb, 0, none⟩)) (lgP ((k : Int) + 1)) (addk 10006 a (expZ (lgS a k))) (HRQ.out.below hX) hr (by show (addTo _ _ _ _).length = 38; rw [addTo_len]; exact HL.out.1) (fun _ _ => by kernel_rfl) (fun V n hV => i_logMap1 V n ((k : Int) + 1) bb (((HKB.out.below hX HKB.out.lt).below hV (Nat.lt_of_lt_of_le HKB.out.lt hX.size)).cell 0))
        exact h.mono (by rintro e w5 ⟨r5, rfl, ho5, hb5⟩; exact ⟨r5, rfl, ho5.mono hX.size, hX.trans (hb5.mono hX.size)⟩))
      have q0 : wq.cell? ⟨w.heap.size, 0, none⟩ = some (.slice Af 37 cf) := HKQ.out.cell 0
      have q1 : wq.cell? ⟨w.heap.size, 1, none⟩ = some (.slice Ay 37 cy) := HKQ.out.cell 1
      go_upto_region 5 with fail
      go_cut [7] (fun v wx => OwnInts wx wq.heap.size tI v (kpZ (lgP ((k : Int) + 1)) (addk 10006 a (expZ (lgS a k)))) ∧ Below wq.heap.size wq wx)
      case first =>
        go_region_law (first
          | (go_simp; go_at_call 144; (with_reducible refine ((HEX.out _ ?_).mono ?_)); (first | exact Below.refl _ _ | exact (Below.refl _ _).drew); go_loud (rintro e w5 ⟨r5, rfl, ho5, hb5⟩; have HO5 := Lib.hid ho5; have HB5 := Lib.hid hb5; have m1 : w5.cell? ⟨w.heap.size, 0, none⟩ = some (.slice Af 37 cf) := (HKQ.out.below hb5 HKQ.out.lt).cell 0; have m2 : w5.cell? ⟨w.heap.size, 1, none⟩ = some (.slice Ay 37 cy) := (HKQ.out.below hb5 HKQ.out.lt).cell 1; clear ho5 hb5))
          | (go_simp; go_at_call 97; (with_reducible refine ((HPL.out _ _ ?_ ?_).mono ?_)); (first | exact HB5.out | exact HB5.out.drew); (exact HO5.out.ints); go_loud (rintro e w6 ⟨r6, rfl, ho6, hb6⟩; have HO6 := Lib.hid ho6; have HB6 := Lib.hid hb6; have m3 : w6.cell? ⟨w.heap.size, 0, none⟩ = some (.slice Af 37 cf) := (HKQ.out.below hb6 HKQ.out.lt).cell 0; have m4 : w6.cell? ⟨w.heap.size, 1, none⟩ = some (.slice Ay 37 cy) := (HKQ.out.below hb6 HKQ.out.lt).cell 1; clear ho6 hb6))
          | (go_simp; go_at_call 96; (with_reducible refine ((HKE.out _ _ ?_ ?_).mono ?_)); (first | exact HB6.out | exact HB6.out.drew); (exact HO6.out.ints); go_loud (rintro e w7 ⟨r7, rfl, ho7, hb7⟩; have HO7 := Lib.hid ho7; have HB7 := Lib.hid hb7; clear ho7 hb7)))
        all_goals
          go_wp2_with fail
          go_meet
          exact ⟨HO7.out, HB7.out⟩
      case rest =>
        rename World => w7
        obtain ⟨ho7, hb7⟩ := hcut
        have HO7 := Lib.hid ho7
        have HB7 := Lib.hid hb7
        clear ho7 hb7 q0 q1
        have HOQ := Lib.hid (HO.out.below HB7.out)
        have HPP := Lib.hid (i_plus w7 (.slice Ao 38 co) u7 (lgS a k) _ 1 HOQ.out.ints HO7.out.ints (lgS_nums _ _) (kpZ_nums (addTo_nums _ _ _ _)) (by rw [lgS_len, kpZ_len]; exact Nat.le_refl _) (by rw [lgS_len]; omega) (by omega) (by omega))
        rw [show (1 : Int) % 10007 = 1 from by decide, HS.out] at HPP
        have hwk : wrap64 ((k : Int) + 1 + 1) = (k : Int) + 1 + 1 := w64_in' _ (by omega)
        go_wp2_with (go_at_call 97; (with_reducible refine HPP.out.mono ?_); go_loud (rintro e w8 ⟨r8, rfl, ho8, hb8⟩; have HO8 := Lib.hid ho8; have HB8 := Lib.hid (HB7.out.trans (hb8.mono HB7.out.size)); have kb8 : w8.cell? ⟨bb, 0, none⟩ = some (.int .i64 ((k : Int) + 1)) := (HKB.out.below (HB7.out.trans (hb8.mono HB7.out.size)) HKB.out.lt).cell 0; have HK8 := Lib.hid (Blk.new w8 #[.int .i64 ((k : Int) + 1)] tI); have kc8 : (w8.alloc (.cells #[.int .i64 ((k : Int) + 1)] tI)).cell? ⟨w8.heap.size, 0, none⟩ = some (.int .i64 ((k : Int) + 1)) := HK8.out.cell 0; have kf8 := HK8.out.frozen 0; clear ho8 hb8))
        have HF := Lib.hid (below1 w8 (.cells #[.int .i64 ((k : Int) + 1 + 1)] tI))
        have HKN := Lib.hid (Blk.new w8 #[.int .i64 ((k : Int) + 1 + 1)] tI)
        have hW7 : W.heap.size ≤ w7.heap.size := Nat.le_trans HB.out.size HB7.out.size
        have hW8 : W.heap.size ≤ w8.heap.size := Nat.le_trans HB.out.size HB8.out.size
        go_roundw
        case rel =>
          exact ⟨k + 1, w8.heap.size, by omega, rfl, by simpa using HKN.out, hW8, (HO8.out.mono hW7).below HF.out, (fun c hc e => by have := HO8.out.1.lt c hc; omega), (HB.out.trans (HB8.out.mono HB.out.size)).trans (HF.out.mono hW8)⟩
        case measure =>
          have kn : (w8.alloc (.cells #[.int .i64 ((k : Int) + 1 + 1)] tI)).cell? ⟨w8.heap.size, 0, none⟩ = some (.int .i64 ((k : Int) + 1 + 1)) := HKN.out.cell 0
          have h1 : ptN (.pointer (some ⟨w8.heap.size, 0, none⟩)) (w8.alloc (.cells #[.int .i64 ((k : Int) + 1 + 1)] tI)) = k + 2 := by
            show (match (w8.alloc (.cells #[.int .i64 ((k : Int) + 1 + 1)] tI)).cell? ⟨w8.heap.size, 0, none⟩ with | some v => (intOf v).toNat | none => 0) = k + 2
            rw [kn]
            show ((k : Int) + 1 + 1).toNat = k + 2
            omega
          have h0 := HM0.out
          first
            | (rw [h1, h0]; omega)
            | (simp only [h1, h0]; omega)
    · have hk6' : k = 6 := by omega
      subst hk6'
      go_wp2_with fail
      go_ret
      exact ⟨_, rfl, HO.out.mono HBW.out.size, HBW.out.trans (HB.out.mono HBW.out.size)⟩
set_option maxHeartbeats 2000000 in
theorem i_LogMap0 (w : World) (v : Value) (a : List Int) (h1 : Ints w v a) (l1 : a.length = 38) (n1 : Nums a) (a0 : a.getD 0 0 = 1) :
    Calls Tryz.prog 26 #[v] w fun e w' => ∃ x, e = .returned (.tuple #[x, .int .i64 0]) ∧ OwnInts w' w.heap.size tI x (lgZ a) ∧ Below w.heap.size w w' := by
  have hc : chrC a = 0 := by
    unfold chrC
    rw [if_pos (show mapB a = true from by unfold mapB; rw [Bool.and_eq_true]; exact ⟨by simp [l1], nums_iff.2 n1⟩), if_pos a0]
  have HCH := Lib.hid (i_checkCharacter w v a h1)
  rw [hc] at HCH
  have HA := Lib.hid h1
  obtain ⟨A, c, rfl, -, -, -⟩ := h1.open_
  have HMM := Lib.hid (fun W Af cf Bp vp (hR : Rows W (.slice Af 37 cf) (T6n.map up)) (hP : FrC W Bp vp) (g : Ints W (.slice A a.length c) a) => i_logMap W vp _ Af cf Bp a hR hP g l1 n1)
  clear h1 hc l1 n1 a0
  go_enter Tryz.func26, Tryz.ntmps26
  go_wp2_with (first
    | (go_at_call 74; refine HCH.out.mono ?_; rintro e w0 ⟨rfl, rfl⟩)
    | (go_at_call 65; go_loud (refine (i_newForms _).mono ?_; rintro e w1 ⟨f, rfl, hf, hb1⟩; obtain ⟨Af, cf, Ay, cy, rfl, hrf, hfc⟩ := hf.openC; have HRF := Lib.hid hrf; have HFC := Lib.hid hfc; have HB1 := Lib.hid hb1; clear hf hrf hfc hb1))
    | (go_at_call 84; go_loud (refine (HMM.out _ _ _ _ _ HRF.out HFC.out (HA.out.below HB1.out)).mono ?_; rintro e w3 ⟨x3, rfl, ho3, hb3⟩; have HO3 := Lib.hid ho3; have HB3 := Lib.hid hb3; clear ho3 hb3)))
  go_ret2
  exact ⟨_, rfl, HO3.out.mono HB1.out.size, HB1.out.trans (HB3.out.mono HB1.out.size)⟩
set_option maxHeartbeats 2000000 in
theorem i_ScaleMap0 (w : World) (v : Value) (a : List Int) (k : Int) (h1 : Ints w v a) (l1 : a.length = 38) (n1 : Nums a) (k0 : 0 ≤ k) (k1 : k ≤ 10006) :
    Calls Tryz.prog 27 #[v, .int .i64 k] w fun e w' => ∃ x, e = .returned (.tuple #[x, .int .i64 0]) ∧ OwnInts w' w.heap.size tI x (scZ a k) ∧ Below w.heap.size w w' := by
  have hm : mapB a = true := by unfold mapB; rw [Bool.and_eq_true]; exact ⟨by simp [l1], nums_iff.2 n1⟩
  have HM := Lib.hid (i_IsMap w v a h1)
  rw [hm] at HM
  have HNK := Lib.hid (fun X => i_IsNumber k X)
  have hn : isNum k = true := by unfold isNum; rw [inR_iff]; omega
  simp only [hn] at HNK
  have HA := Lib.hid h1
  obtain ⟨A, c, rfl, -, -, -⟩ := h1.open_
  have HMM := Lib.hid (fun W Af cf Bm m d (hR : Rows W (.slice Af 37 cf) (T6n.map up)) (g : Ints W (.slice A a.length c) a) => i_scaleMap W (.slice Af 37 cf) _ Bm m d a k hR g l1 n1 k0 k1)
  clear h1 hm l1 n1 hn
  go_enter Tryz.func27, Tryz.ntmps27
  go_wp2_with (first
    | (go_at_call 85; refine HM.out.mono ?_; rintro e w0 ⟨rfl, rfl⟩)
    | (go_at_call 86; refine (HNK.out _).mono ?_; rintro e w0 ⟨rfl, rfl⟩)
    | (go_at_call 65; go_loud (refine (i_newForms _).mono ?_; rintro e w1 ⟨f, rfl, hf, hb1⟩; obtain ⟨Af, cf, Ay, cy, rfl, hrf, hfc⟩ := hf.openC; have HRF := Lib.hid hrf; have HB1 := Lib.hid hb1; clear hf hrf hfc hb1))
    | (go_at_call 81; go_loud (refine (HMM.out _ _ _ _ _ _ HRF.out (HA.out.below HB1.out)).mono ?_; rintro e w3 ⟨x3, rfl, ho3, hb3⟩; have HO3 := Lib.hid ho3; have HB3 := Lib.hid hb3; clear ho3 hb3)))
  go_ret2
  exact ⟨_, rfl, HO3.out.mono HB1.out.size, HB1.out.trans (HB3.out.mono HB1.out.size)⟩
set_option maxHeartbeats 1000000 in
theorem i_AddMaps0 (w : World) (v v' : Value) (a b : List Int) (h1 : Ints w v a) (l1 : a.length = 38) (n1 : Nums a) (h2 : Ints w v' b) (l2 : b.length = 38) (n2 : Nums b) :
    Calls Tryz.prog 89 #[v, v'] w fun e w' => ∃ x, e = .returned (.tuple #[x, .int .i64 0]) ∧ OwnInts w' w.heap.size tI x (addk 1 a b) ∧ Below w.heap.size w w' := by
  have hm : mapB a = true := by unfold mapB; rw [Bool.and_eq_true]; exact ⟨by simp [l1], nums_iff.2 n1⟩
  have hm2 : mapB b = true := by unfold mapB; rw [Bool.and_eq_true]; exact ⟨by simp [l2], nums_iff.2 n2⟩
  have HM := Lib.hid (i_IsMap w v a h1)
  have HM2 := Lib.hid (i_IsMap w v' b h2)
  rw [hm] at HM
  rw [hm2] at HM2
  have HP := Lib.hid (i_plus w v v' a b 1 h1 h2 n1 n2 (by omega) (by omega) (by omega) (by omega))
  rw [show (1 : Int) % 10007 = 1 from by decide] at HP
  obtain ⟨A, c, rfl, -, -, -⟩ := h1.open_
  obtain ⟨A', c', rfl, -, -, -⟩ := h2.open_
  clear h1 h2 hm hm2 l1 l2 n1 n2
  go_enter Tryz.func89, Tryz.ntmps89
  go_wp2_with (first
    | (go_at_call 85; (with_reducible refine HM.out.mono ?_); rintro e w0 ⟨rfl, rfl⟩)
    | (go_at_call 85; (with_reducible refine HM2.out.mono ?_); rintro e w0 ⟨rfl, rfl⟩)
    | (go_at_call 97; go_loud (refine HP.out.mono ?_; rintro e w3 ⟨x3, rfl, ho3, hb3⟩; have HO3 := Lib.hid ho3; have HB3 := Lib.hid hb3; clear ho3 hb3)))
  go_ret2
  exact ⟨_, rfl, HO3.out, HB3.out⟩
set_option maxHeartbeats 1000000 in
theorem i_MultiplyMap0 (w : World) (v : Value) (a : List Int) (k : Int) (h1 : Ints w v a) (l1 : a.length = 38) (n1 : Nums a) (k0 : 0 ≤ k) (k1 : k ≤ 10006) :
    Calls Tryz.prog 87 #[v, .int .i64 k] w fun e w' => ∃ x, e = .returned (.tuple #[x, .int .i64 0]) ∧ OwnInts w' w.heap.size tI x (scl k a) ∧ Below w.heap.size w w' := by
  have hm : mapB a = true := by unfold mapB; rw [Bool.and_eq_true]; exact ⟨by simp [l1], nums_iff.2 n1⟩
  have HM := Lib.hid (i_IsMap w v a h1)
  rw [hm] at HM
  have HNK := Lib.hid (fun X => i_IsNumber k X)
  have hn : isNum k = true := by unfold isNum; rw [inR_iff]; omega
  simp only [hn] at HNK
  have HP := Lib.hid (i_scaled w v a k h1 n1 (by omega) (by omega) (by omega))
  rw [show k % 10007 = k by omega] at HP
  obtain ⟨A, c, rfl, -, -, -⟩ := h1.open_
  clear h1 hm l1 n1 hn
  go_enter Tryz.func87, Tryz.ntmps87
  go_wp2_with (first
    | (go_at_call 85; refine HM.out.mono ?_; rintro e w0 ⟨rfl, rfl⟩)
    | (go_at_call 86; refine (HNK.out _).mono ?_; rintro e w0 ⟨rfl, rfl⟩)
    | (go_at_call 147; go_loud (refine HP.out.mono ?_; rintro e w3 ⟨x3, rfl, ho3, hb3⟩; have HO3 := Lib.hid ho3; have HB3 := Lib.hid hb3; clear ho3 hb3)))
  go_ret2
  exact ⟨_, rfl, HO3.out, HB3.out⟩
end Go.Proofs.YtdjhfeaimmpmhaaGreat

