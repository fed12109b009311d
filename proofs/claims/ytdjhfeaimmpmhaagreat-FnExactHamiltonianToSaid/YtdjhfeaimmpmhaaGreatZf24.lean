/- DROP Walk: l12To of the reference. -/
import Derived.Test.YtdjhfeaimmpmhaaGreatZf22
import Derived.Test.YtdjhfeaimmpmhaaGreatZf19
import Derived.Test.YtdjhfeaimmpmhaaGreatZf18
import Derived.Test.YtdjhfeaimmpmhaaGreatZf13
import Derived.Test.YtdjhfeaimmpmhaaGreatZf20
set_option maxRecDepth 100000
set_option linter.unusedVariables false
set_option linter.unusedSimpArgs false
namespace Go.Proofs.YtdjhfeaimmpmhaaGreat
open Go.RowKit

/-- a cell of a map -/
theorem map_cell {w : World} {A : Option Addr} {c : Nat} {a : List Int} (h : Ints w (.slice A 38 c) a) (hm : ∀ z ∈ a, 0 ≤ z ∧ z ≤ 10006) {k : Nat} (hk : k < 38) :
    ∃ ad, A = some ad ∧ w.cell? (ad.add k) = some (.int .i64 (a.getD k 0)) ∧ 0 ≤ a.getD k 0 ∧ a.getD k 0 ≤ 10006 := by
  obtain ⟨A', c', he, -, -, h3⟩ := h.open_
  simp only [Value.slice.injEq] at he
  obtain ⟨rfl, hl, rfl⟩ := he
  obtain ⟨ad, z, rfl, hz, -, hc⟩ := h3 k (by omega)
  rw [ints_getD hz]
  have := hm z (List.mem_of_getElem? hz)
  exact ⟨ad, rfl, hc, this.1, this.2⟩

set_option maxHeartbeats 16000000 in
theorem s_l12To (w : World) (va : Value) (a : List Int) (h1 : Ints w va a) (l1 : a.length = 38) (hN : ∀ z ∈ a, 0 ≤ z ∧ z ≤ 10006) :
    Calls Tryz.prog 69 #[va] w fun e w' => ∃ r : Nat, e = .returned (.int .i64 r) ∧ ToR a (a.getD 0 0) r ∧ Below w.heap.size w w' := by
  have HIA := Lib.hid h1
  obtain ⟨A1, c1, rfl, -, -, -⟩ := h1.open_
  rw [l1] at HIA ⊢
  have HNN := Lib.hid hN
  obtain ⟨a0, rfl, hz0, hz1, hz2⟩ := map_cell HIA.out hN (k := 0) (by omega)
  have hz0' : w.cell? a0 = some (.int .i64 (a.getD 0 0)) := by simpa [Addr.add] using hz0
  clear hz0 h1 l1 hN
  go_enter Tryz.func69, Tryz.ntmps69
  go_wp2_with (go_at_call 70; go_loud (refine (s_l03All _ 6 (by omega)).mono ?_; rintro e w1 ⟨x1, rfl, hx1, hb1⟩; rw [show allG treesN 6 = T6n from rfl] at hx1; obtain ⟨A3, c3, he1, -, -, -⟩ := hx1.rows.open_; rw [List.length_map, T6n_len] at he1; subst he1; have HX1 := Lib.hid hx1.rows; have HB1 := Lib.hid hb1; clear hx1 hb1))
  obtain ⟨ad0, -, -, -, rfl, -⟩ := HX1.out.tree (i := 0) (by omega)
  have HI1 := Lib.hid (HIA.out.below HB1.out)
  have HZ0 := Lib.hid (keepCell HB1.out hz0')
  clear hz0'
  go_loopw [4] (fun x wr => ∃ n : Nat, 2 ≤ n ∧ n ≤ 7 ∧ x = .int .i64 n ∧ Hid (ToS a (a.getD 0 0) n 0 0) ∧ Below w1.heap.size w1 wr) (fun x _ => 7 - (intOf x).toNat)
  case atStart => exact ⟨2, by omega, by omega, rfl, ToS.start a _, Below.refl _ _⟩
  case round =>
    obtain ⟨n, hn2, hn7, rfl, hT, hb⟩ := hrel
    rename World => wr
    have HB := Lib.hid hb
    clear hb
    by_cases hlt : n < 7
    · have hnn : (n : Int) ≤ 6 := by omega
      go_wp2_with fail
      go_loopw [5] (fun x wi => ∃ i : Nat, i ≤ 37 ∧ x = .int .i64 i ∧ Hid (ToS a (a.getD 0 0) n i 0) ∧ Below w1.heap.size w1 wi) (fun x _ => 37 - (intOf x).toNat)
      case atStart => exact ⟨0, Nat.zero_le _, rfl, hT, HB.out⟩
      case round =>
        obtain ⟨i, hi, rfl, hTi, hbi⟩ := hrel
        rename World => wi
        have HBI := Lib.hid hbi
        clear hbi
        by_cases hli : i < 37
        · have hii : (i : Int) < 37 := by omega
          go_wp2_with fail
          go_loopw [6] (fun x wk => ∃ k : Nat, k ≤ 37 ∧ x = .int .i64 k ∧ Hid (ToS a (a.getD 0 0) n i k) ∧ Below w1.heap.size w1 wk) (fun x _ => 37 - (intOf x).toNat)
          case atStart => exact ⟨0, Nat.zero_le _, rfl, hTi, HBI.out⟩
          case round =>
            obtain ⟨k, hk, rfl, hTk, hbk⟩ := hrel
            rename World => wk
            have HBK := Lib.hid hbk
            clear hbk
            by_cases hlk : k < 37
            · have hkk : (k : Int) < 37 := by omega
              obtain ⟨ad, Au, cu, u, hade, hu, hui, hcu⟩ := (HX1.out.below HBK.out).tree hli
              injection hade with hade
              subst hade
              obtain ⟨ad, Av, cv, v, hade, hv, hvi, hcv⟩ := (HX1.out.below HBK.out).tree hlk
              injection hade with hade
              subst hade
              have htu := tr_at hu
              have htv := tr_at hv
              obtain ⟨-, hu1, hu6, hul⟩ := T6n_at (List.mem_of_getElem? hu)
              obtain ⟨-, hv1, hv6, hvl⟩ := T6n_at (List.mem_of_getElem? hv)
              have HUM := Lib.hid (List.mem_of_getElem? hu)
              have HVM := Lib.hid (List.mem_of_getElem? hv)
              have HU := Lib.hid hui
              have HV := Lib.hid hvi
              have HTU := Lib.hid htu
              have HTV := Lib.hid htv
              have hw1 : wrap64 ((u.length : Int) + (v.length : Int)) = (u.length : Int) + (v.length : Int) := by unfold wrap64; omega
              have hw2 : IntKind.i64.wrap ((u.length : Int) + (v.length : Int)) = (u.length : Int) + (v.length : Int) := IntWalk.i64_in _ (by omega)
              clear hu hv hui hvi htu htv
              by_cases hs : u.length + v.length = n
              · have hne : ((u.length : Int) + (v.length : Int) != (n : Int)) = false := by simp; omega
                go_upto_region 11 with fail
                go_quiet (fail)
                obtain ⟨wz, hwz⟩ : ∃ wz, wz = wk.drewN nq := ⟨_, rfl⟩
                have HBW := Lib.hid (show Below wk.heap.size wk wz from by rw [hwz]; exact below_drewN (Below.refl _ _) _)
                rw [← hwz]
                clear hwz
                obtain ⟨r1, g1c, -, -, g1f, g11, g17, -⟩ := gOk_at HUM.out HVM.out (by omega)
                obtain ⟨r2, g2c, -, -, g2f, g21, g27, -⟩ := gOk_at HVM.out HUM.out (by omega)
                obtain ⟨p1, hp1⟩ : ∃ p : Nat, gIdx u v = p + 1 := ⟨gIdx u v - 1, by omega⟩
                obtain ⟨p2, hp2⟩ : ∃ p : Nat, gIdx v u = p + 1 := ⟨gIdx v u - 1, by omega⟩
                have HG1 := Lib.hid (fun W x y (h1 : Ints W x (up u)) (h2 : Ints W y (up v)) => show Calls Tryz.prog 130 #[x, .int .i64 0, y] W _ from s_l04Graft W x y u v r1 0 h1 h2 (by omega) (by omega) (by omega) (fun l hl => by have := hul l hl; omega) (fun l hl => by have := hvl l hl; omega) g1c)
                have HG2 := Lib.hid (fun W x y (h1 : Ints W x (up v)) (h2 : Ints W y (up u)) => show Calls Tryz.prog 130 #[x, .int .i64 0, y] W _ from s_l04Graft W x y v u r2 0 h1 h2 (by omega) (by omega) (by omega) (fun l hl => by have := hvl l hl; omega) (fun l hl => by have := hul l hl; omega) g2c)
                have HF1 := Lib.hid (fun W x y (h1 : Rows W x (T6n.map up)) (h2 : Ints W y (up r1)) => show Calls Tryz.prog 72 #[x, y] W fun e w' => e = .returned (.int .i64 (p1 : Nat)) ∧ ∃ n, w' = W.drewN n from by
                  have h := s_l03Find W x y T6n r1 h1 h2 (by rw [T6n_len]; omega)
                  rw [g1f, hp1, show (((p1 + 1 : Nat) : Int) - 1) = (p1 : Int) from by omega] at h
                  exact h)
                have HF2 := Lib.hid (fun W x y (h1 : Rows W x (T6n.map up)) (h2 : Ints W y (up r2)) => show Calls Tryz.prog 72 #[x, y] W fun e w' => e = .returned (.int .i64 (p2 : Nat)) ∧ ∃ n, w' = W.drewN n from by
                  have h := s_l03Find W x y T6n r2 h1 h2 (by rw [T6n_len]; omega)
                  rw [g2f, hp2, show (((p2 + 1 : Nat) : Int) - 1) = (p2 : Int) from by omega] at h
                  exact h)
                have HP1 := Lib.hid hp1
                have HP2 := Lib.hid hp2
                have hp17 : p1 < 37 := by omega
                have hp27 : p2 < 37 := by omega
                have hcu0 := keepCell HBW.out hcu
                have hcv0 := keepCell HBW.out hcv
                have HUZ := Lib.hid (HU.out.below HBW.out)
                have HVZ := Lib.hid (HV.out.below HBW.out)
                have HBZ := Lib.hid (HBK.out.trans (HBW.out.mono HBK.out.size))
                have HCU := Lib.hid hcu0
                have HCV := Lib.hid hcv0
                clear g1c g1f g11 g17 g2c g2f g21 g27 hp1 hp2 hcu hcv hul hvl
                go_upto_region 12 with fail
                go_region_law (first
                  | (go_simp; go_at_call 130; refine (HG1.out _ _ _ (by exact HUZ.out) (by exact HVZ.out)).mono ?_; rintro e w5 ⟨x5, rfl, ho5, hb5⟩; have HO5 := Lib.hid ho5; have HB5 := Lib.hid (show Below wz.heap.size wz w5 from below_of_drew hb5); clear ho5 hb5)
                  | (go_simp; go_at_call 72; refine (HF1.out _ _ _ (by exact (HX1.out.below (HBZ.out.trans (HB5.out.mono HBZ.out.size)))) (by exact HO5.out.ints)).mono ?_; rintro e w6 ⟨rfl, n6, rfl⟩))
                all_goals
                  obtain ⟨wy, hwy⟩ : ∃ wy, wy = w5.drewN n6 := ⟨_, rfl⟩
                  have HBY := Lib.hid (show Below wz.heap.size wz wy from by rw [hwy]; exact below_drewN HB5.out n6)
                  rw [← hwy]
                  clear hwy hcu0 hcv0
                  have hcu1 := keepCell HBY.out HCU.out
                  have hcv1 := keepCell HBY.out HCV.out
                  have HUY := Lib.hid (HUZ.out.below HBY.out)
                  have HVY := Lib.hid (HVZ.out.below HBY.out)
                  have HBYY := Lib.hid (HBZ.out.trans (HBY.out.mono HBZ.out.size))
                  go_upto_region 13 with fail
                  go_region_law (first
                    | (go_simp; go_at_call 130; refine (HG2.out _ _ _ (by exact HVY.out) (by exact HUY.out)).mono ?_; rintro e w7 ⟨x7, rfl, ho7, hb7⟩; have HO7 := Lib.hid ho7; have HB7 := Lib.hid (show Below wy.heap.size wy w7 from below_of_drew hb7); clear ho7 hb7)
                    | (go_simp; go_at_call 72; refine (HF2.out _ _ _ (by exact (HX1.out.below (HBYY.out.trans (HB7.out.mono HBYY.out.size)))) (by exact HO7.out.ints)).mono ?_; rintro e w8 ⟨rfl, n8, rfl⟩))
                  all_goals
                    obtain ⟨wx, hwx⟩ : ∃ wx, wx = w7.drewN n8 := ⟨_, rfl⟩
                    have HBX := Lib.hid (show Below w1.heap.size w1 wx from by rw [hwx]; exact below_drewN (HBYY.out.trans (HB7.out.mono HBYY.out.size)) n8)
                    rw [← hwx]
                    clear hwx hcu1 hcv1
                    have hia := HI1.out.below HBX.out
                    obtain ⟨_, he, hc1, hi0, hi1⟩ := map_cell hia HNN.out (k := i + 1) (by omega)
                    injection he with he
                    subst he
                    obtain ⟨_, he, hc2, hk0, hk1⟩ := map_cell hia HNN.out (k := k + 1) (by omega)
                    injection he with he
                    subst he
                    obtain ⟨_, he, hc3, hx0, hx1⟩ := map_cell hia HNN.out (k := p1 + 1) (by omega)
                    injection he with he
                    subst he
                    obtain ⟨_, he, hc4, hy0, hy1⟩ := map_cell hia HNN.out (k := p2 + 1) (by omega)
                    injection he with he
                    subst he
                    have hc0 := keepCell HBX.out HZ0.out
                    obtain ⟨P, hP⟩ : ∃ P : Prop, P = prB a (a.getD 0 0) i k := ⟨_, rfl⟩
                    have HPR := Lib.hid (show P ↔ (a.getD (p1 + 1) 0 + a.getD (p2 + 1) 0) % 10007 = a.getD 0 0 * (a.getD (i + 1) 0 * a.getD (k + 1) 0 % 10007) % 10007 from by rw [hP]; unfold prB; rw [HTU.out, HTV.out, HP1.out, HP2.out])
                    have hz1' := hz1
                    have hz2' := hz2
                    have HTG := Lib.hid (fun h : P => hTk.out.good (by rw [← hP]; exact h))
                    have HTB := Lib.hid (fun h : ¬ P => hTk.out.bad hli hlk (by omega) (by omega) (by rw [HTU.out, HTV.out]; exact hs) (by rw [← hP]; exact h))
                    clear hP
                    generalize a.getD 0 0 = z0 at hc0 hz1' hz2' HPR
                    generalize a.getD (i + 1) 0 = zi at hc1 hi0 hi1 HPR
                    generalize a.getD (k + 1) 0 = zk at hc2 hk0 hk1 HPR
                    generalize a.getD (p1 + 1) 0 = zx at hc3 hx0 hx1 HPR
                    generalize a.getD (p2 + 1) 0 = zy at hc4 hy0 hy1 HPR
                    obtain ⟨i1, hei⟩ : ∃ i1 : Nat, i1 = i + 1 := ⟨_, rfl⟩
                    obtain ⟨k1, hek⟩ : ∃ k1 : Nat, k1 = k + 1 := ⟨_, rfl⟩
                    obtain ⟨x1, hex⟩ : ∃ x1 : Nat, x1 = p1 + 1 := ⟨_, rfl⟩
                    obtain ⟨y1, hey⟩ : ∃ y1 : Nat, y1 = p2 + 1 := ⟨_, rfl⟩
                    have hwi : IntKind.i64.wrap ((i : Int) + 1) = (i1 : Int) := by rw [hei]; exact IntWalk.i64_in _ (by omega)
                    have hwk : IntKind.i64.wrap ((k : Int) + 1) = (k1 : Int) := by rw [hek]; exact IntWalk.i64_in _ (by omega)
                    have hwx : IntKind.i64.wrap ((p1 : Int) + 1) = (x1 : Int) := by rw [hex]; exact IntWalk.i64_in _ (by omega)
                    have hwy : IntKind.i64.wrap ((p2 : Int) + 1) = (y1 : Int) := by rw [hey]; exact IntWalk.i64_in _ (by omega)
                    have hbi : (i1 : Int) < 38 ∧ i1 < 38 := by omega
                    have hbk : (k1 : Int) < 38 ∧ k1 < 38 := by omega
                    have hbx : (x1 : Int) < 38 ∧ x1 < 38 := by omega
                    have hby : (y1 : Int) < 38 ∧ y1 < 38 := by omega
                    rw [← hei] at hc1
                    rw [← hek] at hc2
                    rw [← hex] at hc3
                    rw [← hey] at hc4
                    obtain ⟨hbi1, hbi2⟩ := hbi
                    obtain ⟨hbk1, hbk2⟩ := hbk
                    obtain ⟨hbx1, hbx2⟩ := hbx
                    obtain ⟨hby1, hby2⟩ := hby
                    have HEI := Lib.hid hei
                    have HEK := Lib.hid hek
                    clear hei hek hex hey hia
                    obtain ⟨m, hm⟩ : ∃ m, m = zi * zk % 10007 := ⟨_, rfl⟩
                    obtain ⟨q, hq⟩ : ∃ q, q = z0 * m % 10007 := ⟨_, rfl⟩
                    have hm0 : 0 ≤ m ∧ m ≤ 10006 := by omega
                    have HM1 := Lib.hid (fun W => show Calls Tryz.prog 131 #[.int .i64 zi, .int .i64 zk] W fun e w' => e = .returned (.int .i64 m) ∧ W = w' from by rw [hm]; exact s_l01Mul zi zk W (by omega) (by omega) (by omega) (by omega))
                    have HM2 := Lib.hid (fun W => show Calls Tryz.prog 131 #[.int .i64 z0, .int .i64 m] W fun e w' => e = .returned (.int .i64 q) ∧ W = w' from by rw [hq]; exact s_l01Mul z0 m W (by omega) (by omega) (by omega) (by omega))
                    have HAD := Lib.hid (fun W => s_l01Add zx zy W (by omega) (by omega) (by omega) (by omega))
                    have HQ := Lib.hid (show P ↔ (zx + zy) % 10007 = q from by rw [HPR.out, hq, hm])
                    clear hm hq HPR
                    go_upto_region 14 with fail
                    go_quiet ((first
                      | (go_at_call_of 131 m; first | exact quiet_same0 (HM2.out _) | exact quiet_same (HM2.out _))
                      | (go_at_call 131; first | exact quiet_same0 (HM1.out _) | exact quiet_same (HM1.out _))))
                    by_cases hpq : (zx + zy) % 10007 = q
                    · have hne2 : ((zx + zy) % 10007 != q) = false := by simp [hpq]
                      have HT2 := Lib.hid (HTG.out (HQ.out.2 hpq))
                      clear hpq
                      go_upto_region 15 with fail
                      go_quiet ((go_at_call 132; first | exact quiet_same0 (HAD.out _) | exact quiet_same (HAD.out _)))
                      go_wp2_with fail
                      go_roundw
                      case rel => exact ⟨k + 1, by omega, by first | rw [← HEK.out] | go_num, HT2.out, below_drewN HBX.out _⟩
                      case measure => have := HEK.out; simp [intOf]; omega
                    · have hne2 : ((zx + zy) % 10007 != q) = true := by simp [hpq]
                      have HT2 := Lib.hid (HTB.out (fun h => hpq (HQ.out.1 h)))
                      clear hpq
                      go_upto_region 15 with fail
                      go_quiet ((go_at_call 132; first | exact quiet_same0 (HAD.out _) | exact quiet_same (HAD.out _)))
                      go_wp2_with fail
                      go_ret
                      exact ⟨n - 1, ret_i64 (by omega), HT2.out, HB1.out.trans ((below_drewN HBX.out _).mono HB1.out.size)⟩
              · have hne : ((u.length : Int) + (v.length : Int) != (n : Int)) = true := by simp; omega
                have HT2 := Lib.hid (hTk.out.skip (by rw [HTU.out, HTV.out]; exact hs))
                clear hs
                go_upto_region 11 with fail
                go_quiet (fail)
                go_wp2_with fail
                go_roundw
                case rel => exact ⟨k + 1, by omega, by go_num, HT2.out, below_drewN HBK.out _⟩
                case measure => simp [intOf]; omega
            · have hkl : k = 37 := by omega
              subst hkl
              have HT2 := Lib.hid hTk.out.row
              go_wp2_with fail
              go_roundw
              case rel => exact ⟨i + 1, by omega, by go_num, HT2.out, HBK.out⟩
              case measure => simp [intOf]; omega
        · have hil : i = 37 := by omega
          subst hil
          have HT2 := Lib.hid hTi.out.next
          go_wp2_with fail
          go_roundw
          case rel => exact ⟨n + 1, by omega, by omega, by go_num, HT2.out, HBI.out⟩
          case measure => simp [intOf]; omega
    · have hnl : n = 7 := by omega
      subst hnl
      have HT2 := Lib.hid hT.out.fin
      go_wp2_with fail
      go_ret
      exact ⟨6, rfl, HT2.out, HB1.out.trans (HB.out.mono HB1.out.size)⟩
end Go.Proofs.YtdjhfeaimmpmhaaGreat

