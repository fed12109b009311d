/- Walks: the orders of the simplifying assumptions, of the reference. | Walk (the tableau gauss, with its two stages; printed out of Drt3): tableaus by name (l09Named of the reference). -/
import Derived.Test.YtbjeibcombjfgaaQt34
import Derived.Test.YtbjeibcombjfgaaQt31
import Derived.Test.YtbjeibcombjfgaaQt25
import Derived.Deep.RegionHeld3
import Derived.Test.YtbjeibcombjfgaaQt17
set_option maxRecDepth 100000
set_option linter.unusedVariables false
set_option linter.unusedSimpArgs false
namespace Go.Proofs.Ytbjeibcombjfgaa
open Go.RowKit

theorem mod_numA (x : Int) : 0 ≤ x % 10007 ∧ x % 10007 ≤ 10006 := by omega
theorem sR_step (s : Nat) (f : Nat → Int) : sR (s + 1) f % 10007 = (sR s f % 10007 + f s) % 10007 := by rw [sR_succ]; omega
set_option maxHeartbeats 16000000 in
theorem s_l11Sum {A : List (List Int)} {Bs : List Int} (hI : IsTab A Bs) (kind : Int) (k0 : 0 ≤ kind) (k2 : kind ≤ 2) (k i : Nat) (k1 : 1 ≤ k) (k16 : k ≤ 16) (hi : i < Bs.length) (w : World) (va : Value) (ha : TabArg w va A Bs) :
    Calls Try.prog 137 #[va, .int .i64 kind, .int .i64 (k : Nat), .int .i64 (i : Nat)] w fun e w' => e = .returned (.int .i64 (lS A Bs kind k i)) ∧ Below w.heap.size w w' := by
  obtain ⟨va1, vb1, rfl, ha1, ha2⟩ := ha
  obtain ⟨A1, c1, rfl, -, -, -⟩ := ha1.open_
  obtain ⟨A2, c2, rfl, -, -, -⟩ := ha2.open_
  obtain ⟨W, hW⟩ : ∃ W, W = w.alloc (.cells #[.slice A1 A.length c1, .slice A2 Bs.length c2] tTbA) := ⟨_, rfl⟩
  obtain ⟨hbw, hk, hta, hro, hbi⟩ := boxA ha1 ha2 hW
  have HBW := Lib.hid hbw
  have HK := Lib.hid hk
  have HRO := Lib.hid hro
  have HBI := Lib.hid hbi
  have HI := Lib.hid hI
  have hal := hI.numTab.la
  have hbl := hI.numTab.lb
  have HLA := Lib.hid (show A.length = Bs.length from hI.len)
  have hb8 := hI.hi
  have HNB := Lib.hid (nums_iff.1 hI.num)
  have HSQ := Lib.hid (SqT.of hI)
  have hlt0 := hk.lt
  have g0 : W.cell? ⟨w.heap.size, 0, none⟩ = some (.slice A1 A.length c1) := hk.cell 0
  have g1 : W.cell? ⟨w.heap.size, 1, none⟩ = some (.slice A2 Bs.length c2) := hk.cell 1
  have HLS := Lib.hid (show lS A Bs kind k i = (sR Bs.length (lE A Bs kind k i) % 10007 - lR A Bs kind k i) % 10007 from rfl)
  generalize lS A Bs kind k i = res at HLS ⊢
  have hk0 : ((k : Int) - 1).toNat = k - 1 := by omega
  have hw0 : wrap64 ((k : Int) - 1) = (k : Int) - 1 := w64_in' _ (by omega)
  have hw0' : IntKind.i64.wrap ((k : Int) - 1) = (k : Int) - 1 := IntWalk.i64_in _ (by omega)
  clear ha1 ha2 hbw hk hta hro hbi hI
  go_enter Try.func137, Try.ntmps137
  go_upto_region 1 with fail
  rw [← hW]
  clear hW
  go_region_held3 (fun w' => w'.cell? ⟨w.heap.size, 0, none⟩ = some (.slice A1 A.length c1) ∧ w'.cell? ⟨w.heap.size, 1, none⟩ = some (.slice A2 Bs.length c2)) ((go_split_ands; refine ⟨?_, ?_⟩ <;> (first
      | (rw [hb6.cell (by have h5 := hb5.size; simp at h5 ⊢; omega)]; assumption)
      | (rw [hb5.cell (by simp; omega)]; assumption)
      | go_keep)))
    (first
      | (go_at_call 190; refine (s_l09Ones _ Bs.length hbl).mono ?_; rintro e w5 ⟨v5, rfl, ho5, hb5⟩)
      | (go_at_call 189; refine (s_l09TimesOnes _ _ _ A Bs.length (by exact HRO.out.below (below_of_drew hb5)) (by exact ho5.ints) (fun zs hz => ⟨nums_iff.1 (HI.out.row zs hz).2, Nat.le_of_eq (HI.out.row zs hz).1⟩) hal hbl).mono ?_; rintro e w6 ⟨v6, rfl, ho6, hb6⟩))
  have HB6 := Lib.hid ((below_of_drew hb5).trans (hb6.mono hb5.size))
  have HK6 := Lib.hid (HK.out.below HB6.out HK.out.lt)
  obtain ⟨An, cn, hx6, hn6⟩ := nodes_at ho6.ints
  subst hx6
  rw [HLA.out] at hn6
  have HN6 := Lib.hid hn6
  have HR6 := Lib.hid (HRO.out.below HB6.out)
  have HBJ := Lib.hid (HBI.out.below HB6.out)
  have HR6 := Lib.hid (show Rows w6 (.slice A1 Bs.length c1) A from by rw [← HLA.out]; exact HR6.out)
  have q0 : w6.cell? ⟨w.heap.size, 0, none⟩ = some (.slice A1 Bs.length c1) := by rw [← HLA.out]; exact HK6.out.cell 0
  have q1 : w6.cell? ⟨w.heap.size, 1, none⟩ = some (.slice A2 Bs.length c2) := HK6.out.cell 1
  have HBX := Lib.hid (HBW.out.trans (HB6.out.mono HBW.out.size))
  rw [HLA.out]
  clear ho5 hb5 ho6 hb6 g0 g1 hn6
  have HF1 := Lib.hid (fun X => s_l01Frac1 (k : Int) X (by omega) (by omega))
  have hfb := pw_bd (k : Int) 10005
  have HRR := Lib.hid (show lR A Bs kind k i = if kind = 0 then pw (k : Int) 10005 else if kind = 1 then pw (k : Int) 10005 * pw (cN A i) k % 10007 else pw (k : Int) 10005 * (Bs.getD i 0 * ((1 - pw (cN A i) k) % 10007) % 10007) % 10007 from rfl)
  have HLE := Lib.hid (show ∀ j, lE A Bs kind k i j = if kind = 0 then Bs.getD j 0 * pw (cN A j) (k - 1) % 10007 else if kind = 1 then (A.getD i []).getD j 0 * pw (cN A j) (k - 1) % 10007 else (Bs.getD j 0 * pw (cN A j) (k - 1) % 10007) * (A.getD j []).getD i 0 % 10007 from fun j => rfl)
  generalize pw (k : Int) 10005 = fr at *
  generalize lR A Bs kind k i = rr at *
  go_wp2_with (go_at_call 70; refine (HF1.out _).mono ?_; rintro e w' ⟨rfl, rfl⟩)
  go_loopw [10, 12] (fun s x wr => ∃ j q : Nat, j ≤ Bs.length ∧ x = .int .i64 j ∧ s = .int .i64 (sR j (lE A Bs kind k i) % 10007) ∧ wr = w6.drewN q) (fun _ x _ => Bs.length - (intOf x).toNat)
  case atStart => exact ⟨0, 0, Nat.zero_le _, rfl, rfl, rfl⟩
  case round =>
    obtain ⟨j, q, hj, rfl, rfl, rfl⟩ := hrel
    have hsb := mod_numA (sR j (lE A Bs kind k i))
    by_cases hlt : j < Bs.length
    · obtain ⟨ad, rfl, hc⟩ := HN6.out j hlt
      have hjj : (j : Int) < (Bs.length : Int) := by omega
      have hcz := cN_bd A j
      have HS := Lib.hid (sR_step j (lE A Bs kind k i))
      have HEJ := Lib.hid (HLE.out j)
      generalize sR j (lE A Bs kind k i) % 10007 = sm at *
      generalize lE A Bs kind k i j = ev at *
      generalize cN A j = cz at *
      have HP := Lib.hid (fun X => show Calls Try.prog 186 #[.int .i64 cz, .int .i64 ((k : Int) - 1)] X fun e w' => e = .returned (.int .i64 (pw cz (k - 1))) ∧ X = w' from by
        have h := s_l01Pow cz ((k : Int) - 1) X (by omega) (by omega) (by omega) (by omega)
        rwa [hk0] at h)
      have hpb := pw_bd cz (k - 1)
      generalize pw cz (k - 1) = pz at *
      by_cases e0 : kind = 0
      · subst e0
        obtain ⟨ad', rfl, hc'⟩ := ints_at HBJ.out hlt
        have hbz := getD_bd HNB.out j
        have HEV := Lib.hid (show ev = Bs.getD j 0 * pz % 10007 from by rw [HEJ.out, if_pos rfl])
        generalize Bs.getD j 0 = bz at *
        have hmb := mod_numA (bz * pz)
        have HM := Lib.hid (fun X => s_l01Mul bz pz X (by omega) (by omega) (by omega) (by omega))
        generalize bz * pz % 10007 = m1 at *
        go_wp2_with (first
          | (go_at_call 186; refine (HP.out _).mono ?_; rintro e w' ⟨rfl, rfl⟩)
          | (go_at_call 122; refine (HM.out _).mono ?_; rintro e w' ⟨rfl, rfl⟩)
          | (go_at_call 182; refine (s_l01Add sm m1 _ (by omega) (by omega) (by omega) (by omega)).mono ?_; rintro e w' ⟨rfl, rfl⟩))
        go_roundw
        case rel => exact ⟨j + 1, _, by omega, by go_num, by rw [HS.out, HEV.out], rfl⟩
        case measure => simp [intOf]; omega
      · have d0 : (kind == 0) = false := by simp [e0]
        by_cases e1 : kind = 1
        · subst e1
          obtain ⟨ad1, Ar, cr, rfl, hcr, hir⟩ := rows_at HR6.out (i := i) (by have := HLA.out; omega)
          have hrl := (HSQ.out.row hi).2
          obtain ⟨adr, rfl, hrj⟩ := ints_at hir (i := j) (by have := HLA.out; omega)
          have hab : 0 ≤ (A.getD i []).getD j 0 ∧ (A.getD i []).getD j 0 ≤ 10006 := HSQ.out.bd hi hlt
          rw [hrl] at hcr
          have hii : (i : Int) < (Bs.length : Int) := by omega
          have hia : (i : Int) < (A.length : Int) := by have := HLA.out; omega
          have hja : (j : Int) < (A.length : Int) := by have := HLA.out; omega
          have hia' : i < A.length := by have := HLA.out; omega
          have hja' : j < A.length := by have := HLA.out; omega
          have HEV := Lib.hid (show ev = (A.getD i []).getD j 0 * pz % 10007 from by rw [HEJ.out, if_neg (by decide), if_pos rfl])
          generalize (A.getD i []).getD j 0 = az at *
          have hmb := mod_numA (az * pz)
          have HM := Lib.hid (fun X => s_l01Mul az pz X (by omega) (by omega) (by omega) (by omega))
          generalize az * pz % 10007 = m1 at *
          clear hir hrl
          go_wp2_with (first
            | (go_at_call 186; refine (HP.out _).mono ?_; rintro e w' ⟨rfl, rfl⟩)
            | (go_at_call 122; refine (HM.out _).mono ?_; rintro e w' ⟨rfl, rfl⟩)
            | (go_at_call 182; refine (s_l01Add sm m1 _ (by omega) (by omega) (by omega) (by omega)).mono ?_; rintro e w' ⟨rfl, rfl⟩))
          go_roundw
          case rel => exact ⟨j + 1, _, by omega, by go_num, by rw [HS.out, HEV.out], rfl⟩
          case measure => simp [intOf]; omega
        · have d1 : (kind == 1) = false := by simp [e1]
          obtain ⟨ad', rfl, hc'⟩ := ints_at HBJ.out hlt
          have hbz := getD_bd HNB.out j
          obtain ⟨ad1, Ar, cr, rfl, hcr, hir⟩ := rows_at HR6.out (i := j) (by have := HLA.out; omega)
          have hrl := (HSQ.out.row hlt).2
          obtain ⟨adr, rfl, hrj⟩ := ints_at hir (i := i) (by have := HLA.out; omega)
          have hab : 0 ≤ (A.getD j []).getD i 0 ∧ (A.getD j []).getD i 0 ≤ 10006 := HSQ.out.bd hlt hi
          rw [hrl] at hcr
          have hii : (i : Int) < (Bs.length : Int) := by omega
          have hia : (i : Int) < (A.length : Int) := by have := HLA.out; omega
          have hja : (j : Int) < (A.length : Int) := by have := HLA.out; omega
          have hia' : i < A.length := by have := HLA.out; omega
          have hja' : j < A.length := by have := HLA.out; omega
          have HEV := Lib.hid (show ev = Bs.getD j 0 * pz % 10007 * (A.getD j []).getD i 0 % 10007 from by rw [HEJ.out, if_neg e0, if_neg e1])
          generalize Bs.getD j 0 = bz at *
          generalize (A.getD j []).getD i 0 = az at *
          have hmb := mod_numA (bz * pz)
          have HM := Lib.hid (fun X => s_l01Mul bz pz X (by omega) (by omega) (by omega) (by omega))
          generalize bz * pz % 10007 = m1 at *
          have hmb2 := mod_numA (m1 * az)
          have HM2 := Lib.hid (fun X => s_l01Mul m1 az X (by omega) (by omega) (by omega) (by omega))
          generalize m1 * az % 10007 = m2 at *
          have HA := Lib.hid (fun X => s_l01Add sm m2 X (by omega) (by omega) (by omega) (by omega))
          clear hir hrl
          go_wp2_with (go_at_call 186; refine (HP.out _).mono ?_; rintro e w' ⟨rfl, rfl⟩)
          go_quiet ((first | (go_at_call 122; (with_reducible exact quiet_same (HM.out _))) | (go_at_call 122; (with_reducible exact quiet_same (HM2.out _))) | (go_at_call 182; (with_reducible exact quiet_same (HA.out _)))))
          go_wp2_with fail
          go_roundw
          case rel => exact ⟨j + 1, _, by omega, by go_num, by rw [HS.out, HEV.out], rfl⟩
          case measure => simp [intOf]; omega
    · have hje : j = Bs.length := by omega
      subst hje
      obtain ⟨ad, rfl, hc⟩ := HN6.out i hi
      have hii : (i : Int) < (Bs.length : Int) := by omega
      have hcz := cN_bd A i
      generalize sR Bs.length (lE A Bs kind k i) % 10007 = sm at *
      generalize cN A i = cz at *
      have HP := Lib.hid (fun X => show Calls Try.prog 186 #[.int .i64 cz, .int .i64 (k : Int)] X fun e w' => e = .returned (.int .i64 (pw cz k)) ∧ X = w' from by
        have h := s_l01Pow cz (k : Int) X (by omega) (by omega) (by omega) (by omega)
        rwa [Int.toNat_natCast] at h)
      have hpb := pw_bd cz k
      generalize pw cz k = pz at *
      by_cases e0 : kind = 0
      · subst e0
        have HRE := Lib.hid (show rr = fr from by rw [HRR.out, if_pos rfl])
        go_wp2_with (go_at_call 183; refine (s_l01Sub sm fr _ (by omega) (by omega) (by omega) (by omega)).mono ?_; rintro e w' ⟨rfl, rfl⟩)
        go_ret
        exact ⟨ret_i64 (show (sm - fr) % 10007 = res from by rw [HLS.out, HRE.out]), below_drewN HBX.out _⟩
      · by_cases e1 : kind = 1
        · subst e1
          have HRE := Lib.hid (show rr = fr * pz % 10007 from by rw [HRR.out, if_neg (by decide), if_pos rfl])
          have hmb := mod_numA (fr * pz)
          have HM := Lib.hid (fun X => s_l01Mul fr pz X (by omega) (by omega) (by omega) (by omega))
          generalize fr * pz % 10007 = m1 at *
          go_wp2_with (first
            | (go_at_call 186; refine (HP.out _).mono ?_; rintro e w' ⟨rfl, rfl⟩)
            | (go_at_call 122; refine (HM.out _).mono ?_; rintro e w' ⟨rfl, rfl⟩)
            | (go_at_call 183; refine (s_l01Sub sm m1 _ (by omega) (by omega) (by omega) (by omega)).mono ?_; rintro e w' ⟨rfl, rfl⟩))
          go_ret
          exact ⟨ret_i64 (show (sm - m1) % 10007 = res from by rw [HLS.out, HRE.out]), below_drewN HBX.out _⟩
        · have d1 : (kind == 1) = false := by simp [e1]
          have e2 : kind = 2 := by omega
          subst e2
          obtain ⟨ad', rfl, hc'⟩ := ints_at HBJ.out hi
          have hbz := getD_bd HNB.out i
          have HRE := Lib.hid (show rr = fr * (Bs.getD i 0 * ((1 - pz) % 10007) % 10007) % 10007 from by rw [HRR.out, if_neg (by decide), if_neg (by decide)])
          generalize Bs.getD i 0 = bz at *
          have HSU := Lib.hid (fun X => s_l01Sub 1 pz X (by omega) (by omega) (by omega) (by omega))
          have hsu := mod_numA (1 - pz)
          generalize (1 - pz) % 10007 = z1 at *
          have hmb := mod_numA (bz * z1)
          have HM := Lib.hid (fun X => s_l01Mul bz z1 X (by omega) (by omega) (by omega) (by omega))
          generalize bz * z1 % 10007 = m1 at *
          have hmb2 := mod_numA (fr * m1)
          have HM2 := Lib.hid (fun X => s_l01Mul fr m1 X (by omega) (by omega) (by omega) (by omega))
          generalize fr * m1 % 10007 = m2 at *
          go_wp2_with fail
          go_quiet ((first | (go_at_call 186; (with_reducible exact quiet_same (HP.out _))) | (go_at_call 183; (with_reducible exact quiet_same (HSU.out _))) | (go_at_call 122; (with_reducible exact quiet_same (HM.out _))) | (go_at_call 122; (with_reducible exact quiet_same (HM2.out _)))))
          go_wp2_with (go_at_call 183; refine (s_l01Sub sm m2 _ (by omega) (by omega) (by omega) (by omega)).mono ?_; rintro e w' ⟨rfl, rfl⟩)
          go_ret
          exact ⟨ret_i64 (show (sm - m2) % 10007 = res from by rw [HLS.out, HRE.out]), by first | exact below_drewN HBX.out _ | exact below_drewN (below_drewN HBX.out _) _ | exact below_drewN (below_drewN (below_drewN HBX.out _) _) _⟩
set_option maxHeartbeats 8000000 in
theorem s_l11Order {A : List (List Int)} {Bs : List Int} (hI : IsTab A Bs) (kind : Int) (k0 : 0 ≤ kind) (k2 : kind ≤ 2) (w : World) (va : Value) (ha : TabArg w va A Bs) :
    Calls Try.prog 81 #[va, .int .i64 kind] w fun e w' => e = .returned (.int .i64 (oM A Bs kind : Nat)) ∧ Below w.heap.size w w' := by
  obtain ⟨va1, vb1, rfl, ha1, ha2⟩ := ha
  obtain ⟨A1, c1, rfl, -, -, -⟩ := ha1.open_
  obtain ⟨A2, c2, rfl, -, -, -⟩ := ha2.open_
  obtain ⟨W, hW⟩ : ∃ W, W = w.alloc (.cells #[.slice A1 A.length c1, .slice A2 Bs.length c2] tTbA) := ⟨_, rfl⟩
  obtain ⟨hbw, hk, hta, hro, hbi⟩ := boxA ha1 ha2 hW
  have HBW := Lib.hid hbw
  have HK := Lib.hid hk
  have HI := Lib.hid hI
  have HSQ := Lib.hid (SqT.of hI)
  have hb1 := hI.lo
  have hb8 := hI.hi
  have HM := Lib.hid (fun k i k1 k16 hi X (hX : Below W.heap.size W X) => s_l11Sum hI kind k0 k2 k i k1 k16 hi X _ (hta.below hX))
  clear ha1 ha2 hbw hk hta hbi hro hI
  go_enter Try.func81, Try.ntmps81
  go_upto_region 1 with fail
  rw [← hW]
  clear hW
  go_wp2_with fail
  go_loopw [5] (fun x wr => ∃ k : Nat, 1 ≤ k ∧ k ≤ 17 ∧ x = .int .i64 k ∧ Hid (∀ j, 0 < j → j < k → asM A Bs kind j = true) ∧ Below W.heap.size W wr) (fun x _ => 17 - (intOf x).toNat)
  case atStart => exact ⟨1, by omega, by omega, rfl, fun j h0 h1 => by omega, Below.refl _ _⟩
  case round =>
    obtain ⟨k, hk1, hk17, rfl, HJ, hb⟩ := hrel
    rename World => wq
    have HB := Lib.hid hb
    clear hb
    by_cases hlt : k ≤ 16
    · have hki : (k : Int) ≤ 16 := by omega
      go_wp2_with fail
      go_loopw [6] (fun x wr => ∃ i : Nat, i ≤ Bs.length ∧ x = .int .i64 i ∧ Hid (∀ j, j < i → lS A Bs kind k j = 0) ∧ Below W.heap.size W wr) (fun x _ => Bs.length - (intOf x).toNat)
      case atStart => exact ⟨0, Nat.zero_le _, rfl, fun j hj => absurd hj (Nat.not_lt_zero j), HB.out⟩
      case round =>
        obtain ⟨i, hi, rfl, HL, hb⟩ := hrel
        rename World => wi
        have HBI := Lib.hid hb
        clear hb
        have q0 : wi.cell? ⟨w.heap.size, 0, none⟩ = some (.slice A1 A.length c1) := (HK.out.below HBI.out HK.out.lt).cell 0
        have q1 : wi.cell? ⟨w.heap.size, 1, none⟩ = some (.slice A2 Bs.length c2) := (HK.out.below HBI.out HK.out.lt).cell 1
        by_cases hlt2 : i < Bs.length
        · have hii : (i : Int) < (Bs.length : Int) := by omega
          have HC := Lib.hid (HM.out k i hk1 hlt hlt2 wi HBI.out)
          have hw1 : wrap64 ((k : Int) - 1) = (k : Int) - 1 := w64_in' _ (by omega)
          have hw2 : IntKind.i64.wrap ((k : Int) - 1) = (k : Int) - 1 := IntWalk.i64_in _ (by omega)
          by_cases hz : lS A Bs kind k i = 0
          · have HL2 := Lib.hid (show ∀ j, j < i + 1 → lS A Bs kind k j = 0 from fun j hj => by
              by_cases e : j < i
              · exact HL.out j e
              · rw [show j = i by omega]; exact hz)
            rw [hz] at HC
            clear hz
            go_wp2_with (go_at_call 137; go_loud (refine HC.out.mono ?_; rintro e w3 ⟨rfl, hb3⟩; have HB3 := Lib.hid (HBI.out.trans (hb3.mono HBI.out.size)); clear hb3))
            go_roundw
            case rel => exact ⟨i + 1, by omega, by go_num, HL2.out, HB3.out⟩
            case measure => simp [intOf]; omega
          · have hm := lS_hit HSQ.out hk1 (show k ≤ 39 by omega) hlt2 hz
            have HR := Lib.hid (show ((oM A Bs kind : Nat) : Int) = (k : Int) - 1 from by rw [oM_hit hk1 HJ.out hlt hm]; omega)
            have hbn : (lS A Bs kind k i != 0) = true := by simp [hz]
            generalize lS A Bs kind k i = zz at *
            clear hz hm
            go_wp2_with (go_at_call 137; go_loud (refine HC.out.mono ?_; rintro e w3 ⟨rfl, hb3⟩; have HB3 := Lib.hid (HBI.out.trans (hb3.mono HBI.out.size)); clear hb3))
            go_ret
            exact ⟨ret_i64 HR.out.symm, HBW.out.trans (HB3.out.mono HBW.out.size)⟩
        · have hie : i = Bs.length := by omega
          subst hie
          have hm := lS_all HSQ.out hb1 hk1 (show k ≤ 39 by omega) HL.out
          have HJ2 := Lib.hid (show ∀ j, 0 < j → j < k + 1 → asM A Bs kind j = true from fun j h0 h1 => by
            by_cases e : j < k
            · exact HJ.out j h0 e
            · rw [show j = k by omega]; exact hm)
          clear hm
          go_wp2_with fail
          go_roundw
          case rel => exact ⟨k + 1, by omega, by omega, by go_num, HJ2.out, HBI.out⟩
          case measure => simp [intOf]; omega
    · have hki : ¬ (k : Int) ≤ 16 := by omega
      have hke : k = 17 := by omega
      subst hke
      have HR := Lib.hid (show ((oM A Bs kind : Nat) : Int) = 16 from by rw [oM_miss HJ.out]; rfl)
      go_wp2_with fail
      go_ret
      exact ⟨ret_i64 HR.out.symm, HBW.out.trans (HB.out.mono HBW.out.size)⟩
set_option maxHeartbeats 8000000 in
theorem s_ImpliedOrder (w : World) (va : Value) (A : List (List Int)) (Bs : List Int) (ha : TabArg w va A Bs) :
    Calls Try.prog 25 #[va] w fun e w' => e = .returned (.tuple #[.int .i64 (impR A Bs), .int .i64 (tabC A Bs)]) ∧ Below w.heap.size w w' := by
  obtain ⟨va1, vb1, rfl, ha1, ha2⟩ := ha
  obtain ⟨A1, c1, rfl, -, -, -⟩ := ha1.open_
  obtain ⟨A2, c2, rfl, -, -, -⟩ := ha2.open_
  obtain ⟨W, hW⟩ : ∃ W, W = w.alloc (.cells #[.slice A1 A.length c1, .slice A2 Bs.length c2] tTbA) := ⟨_, rfl⟩
  obtain ⟨hbw, hk, hta, hro, hbi⟩ := boxA ha1 ha2 hW
  have HBW := Lib.hid hbw
  have HK := Lib.hid hk
  have HTA := Lib.hid hta
  have HIT := Lib.hid (s_l09Is W _ A Bs hta)
  have q0 : W.cell? ⟨w.heap.size, 0, none⟩ = some (.slice A1 A.length c1) := hk.cell 0
  have q1 : W.cell? ⟨w.heap.size, 1, none⟩ = some (.slice A2 Bs.length c2) := hk.cell 1
  clear ha1 ha2 hbw hk hta hbi hro
  go_enter Try.func25, Try.ntmps25
  go_upto_region 1 with fail
  rw [← hW]
  clear hW
  cases hb : tabB A Bs with
  | false =>
    have HR := Lib.hid (show impR A Bs = 0 from by simp [impR, hb])
    have HC := Lib.hid (show tabC A Bs = 1 from by simp [tabC, hb])
    rw [hb] at HIT
    clear hb
    go_wp2_with (go_at_call 67; go_loud (refine HIT.out.mono ?_; rintro e w2 ⟨rfl, hb2⟩; have HB2 := Lib.hid hb2; clear hb2))
    go_ret2
    rw [HR.out, HC.out]
    exact ⟨rfl, HBW.out.trans (HB2.out.mono HBW.out.size)⟩
  | true =>
    have hI := isTab_of hb
    have HR := Lib.hid (show impR A Bs = ((impO (oM A Bs 0) (oM A Bs 1) (oM A Bs 2) : Nat) : Int) from by simp [impR, hb, impM])
    have HC := Lib.hid (show tabC A Bs = 0 from by simp [tabC, hb])
    have HO0 := Lib.hid (fun X (hX : Below W.heap.size W X) => s_l11Order hI 0 (by omega) (by omega) X _ (HTA.out.below hX))
    have HO1 := Lib.hid (fun X (hX : Below W.heap.size W X) => s_l11Order hI 1 (by omega) (by omega) X _ (HTA.out.below hX))
    have HO2 := Lib.hid (fun X (hX : Below W.heap.size W X) => s_l11Order hI 2 (by omega) (by omega) X _ (HTA.out.below hX))
    have hb0 := oM_le A Bs 0
    have hb1 := oM_le A Bs 1
    have hb2 := oM_le A Bs 2
    rw [hb] at HIT
    clear hb hI
    generalize oM A Bs 0 = p at *
    generalize oM A Bs 1 = q at *
    generalize oM A Bs 2 = r at *
    have HMN := fun X ts t => run_min4 (P := Try.prog) p q r X ts t
    generalize ((impO p q r : Nat) : Int) = mm at *
    have hw1 : wrap64 (2 * (q : Int)) = 2 * (q : Int) := w64_in' _ (by omega)
    have hw2 : IntKind.i64.wrap (2 * (q : Int)) = 2 * (q : Int) := IntWalk.i64_in _ (by omega)
    have hw3 : wrap64 (2 * (q : Int) + 2) = 2 * (q : Int) + 2 := w64_in' _ (by omega)
    have hw4 : IntKind.i64.wrap (2 * (q : Int) + 2) = 2 * (q : Int) + 2 := IntWalk.i64_in _ (by omega)
    have hw5 : wrap64 ((q : Int) + (r : Int)) = (q : Int) + (r : Int) := w64_in' _ (by omega)
    have hw6 : IntKind.i64.wrap ((q : Int) + (r : Int)) = (q : Int) + (r : Int) := IntWalk.i64_in _ (by omega)
    have hw7 : wrap64 ((q : Int) + (r : Int) + 1) = (q : Int) + (r : Int) + 1 := w64_in' _ (by omega)
    have hw8 : IntKind.i64.wrap ((q : Int) + (r : Int) + 1) = (q : Int) + (r : Int) + 1 := IntWalk.i64_in _ (by omega)
    go_upto_region 4 with (first
      | (go_at_call 67; go_loud (refine HIT.out.mono ?_; rintro e w2 ⟨rfl, hb2⟩; have HB2 := Lib.hid hb2; have m1 : w2.cell? ⟨w.heap.size, 0, none⟩ = some (.slice A1 A.length c1) := (HK.out.below hb2 HK.out.lt).cell 0; have m2 : w2.cell? ⟨w.heap.size, 1, none⟩ = some (.slice A2 Bs.length c2) := (HK.out.below hb2 HK.out.lt).cell 1; clear hb2))
      | (go_at_call 81; go_loud (refine (HO1.out _ HB2.out).mono ?_; rintro e w3 ⟨rfl, hb3⟩; have HB3 := Lib.hid (HB2.out.trans (hb3.mono HB2.out.size)); clear hb3)))
    obtain ⟨S, hS1, hS2⟩ : ∃ S : World → Prop, (∀ Wx, S Wx → Below W.heap.size W Wx) ∧ (∀ Wx, Below W.heap.size W Wx → S Wx) := ⟨fun Wx => Below W.heap.size W Wx, fun _ h => h, fun _ h => h⟩
    have HSE := Lib.hid (show ∀ x : GW S, Below W.heap.size W x.w from fun x => hS1 _ x.h)
    have HSI := Lib.hid (show S w3.drew from hS2 _ HB3.out.drew)
    have hx0 : ∀ x : GW S, x.w.cell? ⟨w.heap.size, 0, none⟩ = some (.slice A1 A.length c1) := fun x => (HK.out.below (HSE.out x) HK.out.lt).cell 0
    have hx1 : ∀ x : GW S, x.w.cell? ⟨w.heap.size, 1, none⟩ = some (.slice A2 Bs.length c2) := fun x => (HK.out.below (HSE.out x) HK.out.lt).cell 1
    have HP0 := Lib.hid (show ∀ x : GW S, Calls Try.prog 81 #[.agg #[.slice A1 A.length c1, .slice A2 Bs.length c2], .int .i64 0] x.w (fun e w' => e = .returned (.int .i64 (p : Int)) ∧ S w') from fun x => (HO0.out x.w (HSE.out x)).mono (by rintro e w7 ⟨rfl, hb7⟩; exact ⟨rfl, hS2 _ ((HSE.out x).trans (hb7.mono (HSE.out x).size))⟩))
    have HP2 := Lib.hid (show ∀ x : GW S, Calls Try.prog 81 #[.agg #[.slice A1 A.length c1, .slice A2 Bs.length c2], .int .i64 2] x.w (fun e w' => e = .returned (.int .i64 (r : Int)) ∧ S w') from fun x => (HO2.out x.w (HSE.out x)).mono (by rintro e w7 ⟨rfl, hb7⟩; exact ⟨rfl, hS2 _ ((HSE.out x).trans (hb7.mono (HSE.out x).size))⟩))
    clear hS1 hS2 q0 q1
    refine wp_region_grow S (by kernel_rfl) (by kernel_rfl) HSI.out (fun hne => ?_)
    repeat (go_big_quiet_step ((first
      | (go_at_call 81; (with_reducible exact grow_call (HP0.out _)))
      | (go_at_call 81; (with_reducible exact grow_call (HP2.out _))))))
    refine wpQuiet_nil ?_
    rintro _ ⟨xq, rfl⟩
    clear hx0 hx1
    go_wp2_with fail
    go_ret2
    rw [HR.out, HC.out]
    exact ⟨rfl, HBW.out.trans ((HSE.out xq).mono HBW.out.size)⟩
end Go.Proofs.Ytbjeibcombjfgaa

set_option maxRecDepth 100000
set_option linter.unusedVariables false
set_option linter.unusedSimpArgs false
namespace Go.Proofs.Ytbjeibcombjfgaa
open Go.RowKit

set_option maxHeartbeats 16000000 in
theorem s_l09NamedG2 (w : World) (str : ByteArray) (hg : (str.toList == [103, 97, 117, 115, 115]) = true) :
    Calls Try.prog 180 #[.string str] w fun e w' => ∃ v, e = .returned v ∧ DT w' w.heap.size v 2 ∧ Below w.heap.size w w' := by
  obtain ⟨W, hW⟩ : ∃ W, W = w.alloc (.cells #[.slice none 0 0, .slice none 0 0] tTb) := ⟨_, rfl⟩
  have HSW := Lib.hid (show W.heap.size = w.heap.size + 1 from by rw [hW]; simp)
  have HK := Lib.hid (show Blk W w.heap.size tTb #[.slice none 0 0, .slice none 0 0] from by rw [hW]; exact Blk.new _ _ _)
  have HBW := Lib.hid (show Below w.heap.size w W from by rw [hW]; exact below1 w _)
  have he : (str.toList == [101, 117, 108, 101, 114]) = false := by
    rw [beq_iff_eq] at hg
    rw [hg]
    decide
  go_enter Try.func180, Try.ntmps180
  go_upto_region 1 with fail
  rw [← hW]
  clear hW
  go_upto_region 7 with (first
    | (go_at_call 211; refine (s_root32 _).mono ?_; rintro e w3 ⟨rfl, rfl⟩)
    | (go_at_call 70; (with_reducible refine (s_l01FracZ _ 1 6 (by omega) (by omega) (by omega) (by omega)).mono ?_); go_loud (rintro e w3 ⟨z, rfl, hz, rfl⟩; obtain ⟨z0, z1⟩ := hz))
    | (go_at_call 122; go_loud (refine (s_l01Mul 1477 z _ (by omega) (by omega) (by omega) (by omega)).mono ?_; rintro e w3 ⟨rfl, rfl⟩; have hm := mod_numD (1477 * z); generalize 1477 * z % 10007 = m at *))
    | (go_at_call 70; (with_reducible refine (s_l01FracZ _ 1 4 (by omega) (by omega) (by omega) (by omega)).mono ?_); go_loud (rintro e w3 ⟨q, rfl, hq, rfl⟩; obtain ⟨q0, q1⟩ := hq)))
  obtain ⟨m0, m1⟩ := hm
  have HS1 := Lib.hid (fun X => s_l01Sub q m X (by omega) (by omega) (by omega) (by omega))
  have HA1 := Lib.hid (fun X => s_l01Add q m X (by omega) (by omega) (by omega) (by omega))
  have hs1 := mod_numD (q - m)
  have ha1 := mod_numD (q + m)
  generalize (q - m) % 10007 = d at *
  generalize (q + m) % 10007 = a at *
  obtain ⟨W3, hW3⟩ : ∃ W3, W3 = ((W.alloc (.cells #[.int .i64 q, .int .i64 d] tI)).alloc (.cells #[.int .i64 a, .int .i64 q] tI)).alloc (.cells #[.slice (some ⟨W.heap.size, 0, none⟩) 2 2, .slice (some ⟨W.heap.size + 1, 0, none⟩) 2 2] tL) := ⟨_, rfl⟩
  obtain ⟨hor, hsq, hb3⟩ := two_rows W q d a q ⟨q0, q1⟩ hs1 ha1 ⟨q0, q1⟩ W3 hW3
  have HOR := Lib.hid hor
  have HSQ := Lib.hid hsq
  have HB3 := Lib.hid (HBW.out.trans (hb3.mono HBW.out.size))
  have HK3 := Lib.hid (HK.out.below hb3 HK.out.lt)
  have HW3 := Lib.hid hW3
  have HSZ3 := Lib.hid (show W.heap.size + 1 + 1 + 1 = W3.heap.size from by rw [hW3]; simp)
  clear hor hsq hb3 hW3 hs1 ha1 z0 z1 m0 m1 he hg
  go_wp2_with (first
    | (go_at_call 183; refine (HS1.out _).mono ?_; rintro e w3 ⟨rfl, rfl⟩)
    | (go_at_call 182; refine (HA1.out _).mono ?_; rintro e w3 ⟨rfl, rfl⟩)
    | (go_at_call 210; rw [← HW3.out, HSZ3.out]; go_loud (refine (s_l09RowA W3 #[.int .i64 1, .int .i64 1] 2 2 rfl rfl (by decide) (by omega) (by omega) (by omega)).mono ?_; rintro e w5 ⟨x5, rfl, us, ho5, hn5, hb5⟩; obtain ⟨A5, c5, rfl, -, -, -⟩ := ho5.ints.open_; have hb5' : Below W3.heap.size W3 w5 := (below1 W3 _).trans (hb5.mono (by omega)); have HK5 := Lib.hid (HK3.out.below hb5' HK3.out.lt); have HO5 := Lib.hid (ho5.mono (Nat.le_succ _)); have HN5 := Lib.hid hn5; have HB5 := Lib.hid (HB3.out.trans (hb5'.mono HB3.out.size)); have HOR5 := Lib.hid (HOR.out.below hb5'); have f0 : w5.cell? ⟨w.heap.size, 0, none⟩ = some (.slice none 0 0) := HK5.out.cell 0; have f1 : w5.cell? ⟨w.heap.size, 1, none⟩ = some (.slice none 0 0) := HK5.out.cell 1; have f2 := HK5.out.frozen 0; have f3 := HK5.out.frozen 1; have HSZ5 := Lib.hid hb5'.size; clear ho5 hn5 hb5 hb5')))
  refine bodyPost_ret (v := .agg #[.slice (some ⟨W.heap.size + 1 + 1, 0, none⟩) 2 2, .slice A5 us.length c5]) (by simp [results, Try.results180, go_sem, f0, f1]) rfl ?_
  obtain ⟨p1, p2⟩ := nam_end (n := 2) (g := w.heap.size) (B := W.heap.size) (M := W3.heap.size) HB5.out (Nat.le_refl _) (by have := HSW.out; omega) (by have := HSZ3.out; omega) HSZ5.out HOR5.out HO5.out HSQ.out HN5.out
  exact ⟨_, rfl, p1, p2⟩
end Go.Proofs.Ytbjeibcombjfgaa

