import Derived.Test.YtofabikjjkapmaaGreatSm18
import Derived.Test.YtofabikjjkapmaaGreatSm12
import Derived.Test.YtofabikjjkapmaaGreatSm5
import Derived.Test.YtofabikjjkapmaaGreatSm21
set_option maxRecDepth 100000
set_option linter.unusedVariables false
set_option linter.unusedSimpArgs false
namespace Go.Proofs.YtofabikjjkapmaaGreat
open Go.RowKit
set_option maxHeartbeats 4000000 in
theorem s_l03Nodes (w : World) (v : Value) (f : List (List Nat)) (ha : Rows w v (f.map up)) (hn : ndN f <= 1000000) :
  Calls Tryz.prog 297 #[v] w fun e w' => e = .returned (.int .i64 (ndN f : Nat)) /\ w = w' := by
 obtain ⟨A, c, rfl, l1, l2, h3⟩ := rowsAt ha
 have H3 := Lib.hid h3
 have HNT := Lib.hid (ndN_take f)
 clear ha h3
 go_enter Tryz.func297, Tryz.ntmps297
 go_wp2_with fail
 go_loopw [3, 4] (fun s i wr => ∃ k : Nat, k <= f.length /\ i = .int .i64 k /\ s = .int .i64 (ndN (f.take k) : Nat) /\ w = wr) (fun _ i _ => f.length - (intOf i).toNat)
 case atStart => exact ⟨0, Nat.zero_le _, rfl, by simp [ndN], rfl⟩
 case round =>
  obtain ⟨k, hk, rfl, rfl, rfl⟩ := hrel
  have hnt := HNT.out k
  by_cases hlt : k < f.length
  · obtain ⟨ad, q, A5, c5, rfl, hq, hiq, hcq⟩ := H3.out k hlt
    have HS := Lib.hid (show ndN (f.take (k + 1)) = ndN (f.take k) + q.length from by rw [List.take_add_one, hq]; exact ndN_snoc _ _)
    have hnt1 := HNT.out (k + 1)
    have hnt2 : ndN (f.take k) + q.length <= 1000000 := by rw [<- HS.out]; omega
    have hki : (k : Int) < (f.length : Int) := by omega
    clear hq hiq hnt1
    generalize ndN (f.take k) = s at *
    have hw1 : IntKind.i64.wrap ((s : Int) + (q.length : Int)) = (s : Int) + (q.length : Int) := IntWalk.i64_in _ (by omega)
    go_wp2_with fail
    go_roundw
    case rel => clear hw1; exact ⟨k + 1, by omega, by go_num, by rw [HS.out]; congr 1, by first | rfl | trivial⟩
    case measure => clear hw1; simp [intOf]; omega
  · have hkl : k = f.length := by omega
    have HS := Lib.hid (show ndN (f.take k) = ndN f from by rw [hkl, List.take_length])
    rw [HS.out]
    go_wp2_with fail
    go_ret
    exact ⟨rfl, rfl⟩
theorem scan5_step {f g : List (List Nat)} {k : Nat} {x y : List Nat} (hx : f[k]? = some x) (hy : g[k]? = some y) : scan5 (f.drop k) (g.drop k) = bif befN x y then 1 else bif befN y x then 2 else scan5 (f.drop (k + 1)) (g.drop (k + 1)) := by
 obtain ⟨h1, h2⟩ := List.getElem?_eq_some_iff.1 hx
 obtain ⟨g1, g2⟩ := List.getElem?_eq_some_iff.1 hy
 rw [List.drop_eq_getElem_cons h1, List.drop_eq_getElem_cons g1, h2, g2, scan5]
set_option maxHeartbeats 4000000 in
theorem s_l05Compare (w : World) (v v' : Value) (f g : List (List Nat)) (ha : Rows w v (f.map up)) (hb : Rows w v' (g.map up)) :
  Calls Tryz.prog 298 #[v, v'] w fun e w' => e = .returned (.int .i64 (cod5 (cmp5 f g))) /\ ∃ n, w' = w.drewN n := by
 obtain ⟨A, c, rfl, l1, l2, h3⟩ := rowsAt ha
 obtain ⟨B, d, rfl, m1, m2, g3⟩ := rowsAt hb
 have H3 := Lib.hid h3
 have G3 := Lib.hid g3
 clear ha hb h3 g3
 by_cases h : f.length = g.length
 · have HE := Lib.hid (show cmp5 f g = scan5 f g from by unfold cmp5; rw [h, Nat.beq_refl, cond_true])
   rw [HE.out]
   have hd : ((f.length : Int) != (g.length : Int)) = false := by simp [h]
   obtain ⟨m, hm⟩ : ∃ m, m = f.length := ⟨_, rfl⟩
   rw [<- h]
   rw [<- h] at G3 hd m1
   rw [<- hm] at H3 G3 hd l1 m1 ⊢
   have HM := Lib.hid hm
   have HMG := Lib.hid (hm.trans h)
   clear h hm hd
   go_enter Tryz.func298, Tryz.ntmps298
   have hd : ((m : Int) != (m : Int)) = false := by simp
   go_wp2_with fail
   go_loopw [5] (fun i wr => ∃ k n : Nat, k <= m /\ i = .int .i64 k /\ Hid (scan5 f g = scan5 (f.drop k) (g.drop k)) /\ wr = w.drewN n) (fun i _ => m - (intOf i).toNat)
   case atStart => exact ⟨0, 0, Nat.zero_le _, rfl, rfl, rfl⟩
   case round =>
    obtain ⟨k, n, hk, rfl, hI, rfl⟩ := hrel
    by_cases hlt : k < m
    · obtain ⟨ad, q, A5, c5, rfl, hq, hiq, hcq⟩ := H3.out k hlt
      obtain ⟨ad', q', A6, c6, rfl, hq', hiq', hcq'⟩ := G3.out k hlt
      have hst := scan5_step hq hq'
      have HI2 := Lib.hid (hI.out.trans hst)
      have hki : (k : Int) < (m : Int) := by omega
      have hb1 := fun n => s_l03Before (w.drewN n) _ _ q q' (hiq.drewN n) (hiq'.drewN n)
      have hb2 := fun n => s_l03Before (w.drewN n) _ _ q' q (hiq'.drewN n) (hiq.drewN n)
      cases e1 : befN q q' with
      | true =>
       rw [e1] at hb1
       have HBF := Lib.hid hb1
       have HV := Lib.hid (show cod5 (scan5 f g) = -1 from by rw [HI2.out, e1]; rfl)
       clear hb1 hb2 hq hq' hiq hiq' hst hI HI2 e1
       go_upto_region 8 with fail
       go_quiet ((go_at_call 252; first | exact quiet_more (HBF.out _) | exact quiet_more0 (HBF.out _)))
       go_wp2_with fail
       go_ret
       exact ⟨ret_i64 HV.out.symm, _, by first | rfl | exact World.drewN_drewN .. | (rw [World.drewN_drewN]; exact World.drewN_drewN ..)⟩
      | false =>
       rw [e1] at hb1
       have HBF := Lib.hid hb1
       cases e2 : befN q' q with
       | true =>
        rw [e2] at hb2
        have HBG := Lib.hid hb2
        have HV := Lib.hid (show cod5 (scan5 f g) = 1 from by rw [HI2.out, e1, e2]; rfl)
        clear hb1 hb2 hq hq' hiq hiq' hst hI HI2 e1 e2
        go_upto_region 8 with fail
        go_quiet ((go_at_call 252; first | exact quiet_more (HBF.out _) | exact quiet_more0 (HBF.out _)))
        go_upto_region 10 with fail
        go_quiet ((go_at_call 252; first | exact quiet_more (HBG.out _) | exact quiet_more0 (HBG.out _)))
        go_wp2_with fail
        go_ret
        exact ⟨ret_i64 HV.out.symm, _, by first | rfl | exact World.drewN_drewN .. | (rw [World.drewN_drewN]; exact World.drewN_drewN ..)⟩
       | false =>
        rw [e2] at hb2
        have HBG := Lib.hid hb2
        have HV := Lib.hid (show scan5 f g = scan5 (f.drop (k + 1)) (g.drop (k + 1)) from by rw [HI2.out, e1, e2]; rfl)
        clear hb1 hb2 hq hq' hiq hiq' hst hI HI2 e1 e2
        go_upto_region 8 with fail
        go_quiet ((go_at_call 252; first | exact quiet_more (HBF.out _) | exact quiet_more0 (HBF.out _)))
        go_upto_region 10 with fail
        go_quiet ((go_at_call 252; first | exact quiet_more (HBG.out _) | exact quiet_more0 (HBG.out _)))
        go_wp2_with fail
        go_roundw
        case rel => exact ⟨k + 1, _, by omega, by go_num, HV.out, by first | rfl | exact World.drewN_drewN .. | (rw [World.drewN_drewN]; exact World.drewN_drewN ..)⟩
        case measure => simp [intOf]; omega
    · have hkl : k = m := by omega
      have HV := Lib.hid (show cod5 (scan5 f g) = 0 from by
       rw [hI.out, List.drop_eq_nil_of_le (by have := HM.out; omega), List.drop_eq_nil_of_le (by have := HMG.out; omega)]; rfl)
      clear hI
      go_wp2_with fail
      go_ret
      exact ⟨ret_i64 HV.out.symm, _, by first | rfl | exact World.drewN_drewN .. | (rw [World.drewN_drewN]; exact World.drewN_drewN ..)⟩
 · have hd : ((f.length : Int) != (g.length : Int)) = true := by simp; omega
   by_cases h2 : f.length < g.length
   · have HE := Lib.hid (show cod5 (cmp5 f g) = -1 from by
       unfold cmp5
       have e1 : Nat.beq f.length g.length = false := by cases e : Nat.beq f.length g.length with | false => rfl | true => exact absurd (Nat.eq_of_beq_eq_true e) h
       have e2 : Nat.blt f.length g.length = true := Nat.ble_eq_true_of_le h2
       rw [e1, e2]; rfl)
     rw [HE.out]
     have h3 : (f.length : Int) < (g.length : Int) := by omega
     have h4 : decide ((f.length : Int) < (g.length : Int)) = true := decide_eq_true h3
     clear h HE
     go_enter Tryz.func298, Tryz.ntmps298
     go_wp2_with fail
     go_ret
     exact ⟨rfl, 0, rfl⟩
   · have HE := Lib.hid (show cod5 (cmp5 f g) = 1 from by
      unfold cmp5
      have e1 : Nat.beq f.length g.length = false := by cases e : Nat.beq f.length g.length with | false => rfl | true => exact absurd (Nat.eq_of_beq_eq_true e) h
      have e2 : Nat.blt f.length g.length = false := by cases e : Nat.blt f.length g.length with | false => rfl | true => exact absurd (Nat.le_of_ble_eq_true e) h2
      rw [e1, e2]; rfl)
     rw [HE.out]
     have h3 : ¬ (f.length : Int) < (g.length : Int) := by omega
     have h4 : decide ((f.length : Int) < (g.length : Int)) = false := decide_eq_false h3
     clear h HE
     go_enter Tryz.func298, Tryz.ntmps298
     go_wp2_with fail
     go_ret
     exact ⟨rfl, 0, rfl⟩
def sel5 (z1 z2 : Nat) : Nat := match z1 with
 | 0 => z2
 | k + 1 => k + 1
theorem ord5_eq (a b : SP) : ord5 a b = bif Nat.beq (ndN a.1) (ndN b.1) then sel5 (cmp5 a.1 b.1) (cmp5 a.2 b.2) else bif Nat.blt (ndN a.1) (ndN b.1) then 1 else 2 := by
 unfold ord5
 cases Nat.beq (ndN a.1) (ndN b.1) with
 | false => rfl
 | true =>
  simp only [cond_true]
  cases cmp5 a.1 b.1 <;> rfl
set_option maxHeartbeats 4000000 in
theorem s_l05Order (W : World) (B B' : Nat) (c c' : List Value) (x y : SC) (hx : eSc.D W B c x) (hy : eSc.D W B' c' y) :
  Calls Tryz.prog 290 #[.agg c.toArray, .agg c'.toArray] W fun e w' => e = .returned (.int .i64 (cod5 (ord5 x.1 y.1))) /\ Below W.heap.size W w' := by
 obtain ⟨⟨xa, xb⟩, xn⟩ := x
 obtain ⟨⟨ya, yb⟩, yn⟩ := y
 obtain ⟨u, s, rfl, hu0, hs0⟩ := hx
 obtain ⟨u', s', rfl, hu0', hs0'⟩ := hy
 have hu1 : LL W B u (xa.map up) /\ xa.length <= 1000000 /\ ndN xa <= 1000000 := hu0
 have hu1' : LL W B' u' (ya.map up) /\ ya.length <= 1000000 /\ ndN ya <= 1000000 := hu0'
 have hs1 : LL W B s (xb.map up) /\ xb.length <= 1000000 /\ ndN xb <= 1000000 := hs0
 have hs1' : LL W B' s' (yb.map up) /\ yb.length <= 1000000 /\ ndN yb <= 1000000 := hs0'
 clear hu0 hu0' hs0 hs0'
 obtain ⟨A1, c1, he1, -, -, -⟩ := hu1.1.rows.open_
 obtain ⟨A2, c2, he2, -, -, -⟩ := hu1'.1.rows.open_
 obtain ⟨A3, c3, he3, -, -, -⟩ := hs1.1.rows.open_
 obtain ⟨A4, c4, he4, -, -, -⟩ := hs1'.1.rows.open_
 rw [List.length_map] at he1 he2 he3 he4
 subst he1 he2 he3 he4
 have hbb : ∀ o o', Below W.heap.size W ((W.alloc o).alloc o') := fun o o' => ((Below.refl W.heap.size W).alloc (Nat.le_refl _) _).alloc (by simp) _
 have HBB := Lib.hid hbb
 have HN1 := Lib.hid (fun V (hb : Below W.heap.size W V) => s_l03Nodes V _ xa (hu1.1.rows.below hb) hu1.2.2)
 have HN2 := Lib.hid (fun V (hb : Below W.heap.size W V) => s_l03Nodes V _ ya (hu1'.1.rows.below hb) hu1'.2.2)
 have HC1 := Lib.hid (fun V (hb : Below W.heap.size W V) => s_l05Compare V _ _ xa ya (hu1.1.rows.below hb) (hu1'.1.rows.below hb))
 have HC2 := Lib.hid (fun V (hb : Below W.heap.size W V) => s_l05Compare V _ _ xb yb (hs1.1.rows.below hb) (hs1'.1.rows.below hb))
 obtain ⟨R, hR⟩ : ∃ R, R = cod5 (ord5 (xa, xb) (ya, yb)) := ⟨_, rfl⟩
 rw [<- hR]
 rw [ord5_eq] at hR
 obtain ⟨m, hm⟩ : ∃ m, m = ndN xa := ⟨_, rfl⟩
 obtain ⟨n, hn⟩ : ∃ n, n = ndN ya := ⟨_, rfl⟩
 obtain ⟨z1, hz1⟩ : ∃ z, z = cmp5 xa ya := ⟨_, rfl⟩
 obtain ⟨z2, hz2⟩ : ∃ z, z = cmp5 xb yb := ⟨_, rfl⟩
 have hm6 : m <= 1000000 := by rw [hm]; exact hu1.2.2
 have hn6 : n <= 1000000 := by rw [hn]; exact hu1'.2.2
 rw [<- hm] at HN1 hR
 rw [<- hn] at HN2 hR
 rw [<- hz1] at HC1 hR
 rw [<- hz2] at HC2 hR
 have HK := Lib.hid (Blk.new W #[.slice A1 xa.length c1, .slice A3 xb.length c3, .int .i64 (xn : Nat)] tSp)
 clear hu1 hu1' hs1 hs1' hbb hm hn hz1 hz2
 obtain ⟨V, hV⟩ : ∃ V, V = (W.alloc (.cells #[.slice A1 xa.length c1, .slice A3 xb.length c3, .int .i64 (xn : Nat)] tSp)).alloc (.cells #[.slice A2 ya.length c2, .slice A4 yb.length c4, .int .i64 (yn : Nat)] tSp) := ⟨_, rfl⟩
 have hbv : Below W.heap.size W V := by rw [hV]; exact HBB.out _ _
 have HBV := Lib.hid hbv
 have HX := Lib.hid (show Blk V W.heap.size tSp #[.slice A1 xa.length c1, .slice A3 xb.length c3, .int .i64 (xn : Nat)] from by rw [hV]; exact (Blk.new _ _ _).alloc _)
 have HY := Lib.hid (show Blk V (W.heap.size + 1) tSp #[.slice A2 ya.length c2, .slice A4 yb.length c4, .int .i64 (yn : Nat)] from by rw [hV]; exact Blk.new1 _ _ _ _)
 have x0 : V.cell? ⟨W.heap.size, 0, none⟩ = some (.slice A1 xa.length c1) := HX.out.cell 0
 have x1 : V.cell? ⟨W.heap.size, 1, none⟩ = some (.slice A3 xb.length c3) := HX.out.cell 1
 have y0 : V.cell? ⟨W.heap.size + 1, 0, none⟩ = some (.slice A2 ya.length c2) := HY.out.cell 0
 have y1 : V.cell? ⟨W.heap.size + 1, 1, none⟩ = some (.slice A4 yb.length c4) := HY.out.cell 1
 have HN1' := Lib.hid (fun n => HN1.out (V.drewN n) (below_drewN HBV.out n))
 have HN2' := Lib.hid (fun n => HN2.out (V.drewN n) (below_drewN HBV.out n))
 clear hbv HN1 HN2
 go_enter Tryz.func290, Tryz.ntmps290
 go_upto_region 1 with fail
 rw [<- hV]
 clear hV
 go_quiet ((first | (go_at_call_of 297 A1; first | exact quiet_same0 (HN1'.out _) | exact quiet_same (HN1'.out _)) | (go_at_call_of 297 A2; first | exact quiet_same0 (HN2'.out _) | exact quiet_same (HN2'.out _))))
 rename Nat => q
 have x0 : (V.drewN q).cell? ⟨W.heap.size, 0, none⟩ = some (.slice A1 xa.length c1) := x0
 have x1 : (V.drewN q).cell? ⟨W.heap.size, 1, none⟩ = some (.slice A3 xb.length c3) := x1
 have y0 : (V.drewN q).cell? ⟨W.heap.size + 1, 0, none⟩ = some (.slice A2 ya.length c2) := y0
 have y1 : (V.drewN q).cell? ⟨W.heap.size + 1, 1, none⟩ = some (.slice A4 yb.length c4) := y1
 obtain ⟨U, hU⟩ : ∃ U, U = V.drewN q := ⟨_, rfl⟩
 have HBU := Lib.hid (show Below W.heap.size W U from by rw [hU]; exact below_drewN HBV.out q)
 rw [<- hU] at x0 x1 y0 y1 ⊢
 clear hU
 by_cases h : m = n
 · have hd : ((m : Int) != (n : Int)) = false := by simp [h]
   have hR2 : R = cod5 (sel5 z1 z2) := by rw [hR, h, Nat.beq_refl, cond_true]
   clear hR h
   match z1, HC1, hR2 with
   | 0, HC1, hR2 =>
    have HC1' := Lib.hid (show Calls Tryz.prog 298 #[.slice A1 xa.length c1, .slice A2 ya.length c2] U fun e w' => e = .returned (.int .i64 0) /\ ∃ n, w' = U.drewN n from HC1.out U HBU.out)
    have HR := Lib.hid (show cod5 z2 = R from by rw [hR2]; rfl)
    have HU0 := Lib.hid (fun n => (show (U.drewN n).cell? ⟨W.heap.size, 1, none⟩ = some (.slice A3 xb.length c3) from x1))
    have HU1 := Lib.hid (fun n => (show (U.drewN n).cell? ⟨W.heap.size + 1, 1, none⟩ = some (.slice A4 yb.length c4) from y1))
    clear HC1 hR2
    go_wp2_with (first
     | (go_at_call 298; (with_reducible refine HC1'.out.mono ?_); rintro e w1 ⟨rfl, n1, rfl⟩; have z3 := HU0.out n1; have z4 := HU1.out n1)
     | (go_at_call 298; refine (HC2.out _ (below_drewN HBU.out n1)).mono ?_; rintro e w2 ⟨rfl, n2, rfl⟩))
    go_ret
    exact ⟨ret_i64 HR.out, by first | exact below_drewN HBU.out _ | exact below_drewN (below_drewN HBU.out _) _⟩
   | j + 1, HC1, hR2 =>
    have hnz : ¬ cod5 (j + 1) = 0 := by cases j <;> simp [cod5]
    have hR3 : R = cod5 (j + 1) := hR2
    obtain ⟨t, ht⟩ : ∃ t, t = cod5 (j + 1) := ⟨_, rfl⟩
    rw [<- ht] at hnz hR3
    have HC1' := Lib.hid (show Calls Tryz.prog 298 #[.slice A1 xa.length c1, .slice A2 ya.length c2] U fun e w' => e = .returned (.int .i64 t) /\ ∃ n, w' = U.drewN n from by rw [ht]; exact HC1.out U HBU.out)
    have hd3 : (t != 0) = true := by simp [hnz]
    have HR := Lib.hid (show t = R from hR3.symm)
    clear HC1 hR2 hR3 ht hnz
    go_wp2_with (go_at_call 298; refine HC1'.out.mono ?_; rintro e w1 ⟨rfl, n1, rfl⟩)
    go_ret
    exact ⟨ret_i64 HR.out, below_drewN HBU.out _⟩
 · have hd : ((m : Int) != (n : Int)) = true := by simp; omega
   have e1 : Nat.beq m n = false := by cases e : Nat.beq m n with | false => rfl | true => exact absurd (Nat.eq_of_beq_eq_true e) h
   rw [e1, cond_false] at hR
   by_cases h2 : m < n
   · have h3 : (m : Int) < (n : Int) := by omega
     have h4 : decide ((m : Int) < (n : Int)) = true := decide_eq_true h3
     have HR := Lib.hid (show -1 = R from by rw [hR, show Nat.blt m n = true from Nat.ble_eq_true_of_le h2]; rfl)
     clear h hR e1
     go_wp2_with fail
     go_ret
     exact ⟨ret_i64 HR.out, HBU.out⟩
   · have h3 : ¬ (m : Int) < (n : Int) := by omega
     have h4 : decide ((m : Int) < (n : Int)) = false := decide_eq_false h3
     have HR := Lib.hid (show 1 = R from by rw [hR, show Nat.blt m n = false from (by cases e : Nat.blt m n with | false => rfl | true => exact absurd (Nat.le_of_ble_eq_true e) h2)]; rfl)
     clear h hR e1
     go_wp2_with fail
     go_ret
     exact ⟨ret_i64 HR.out, HBU.out⟩
end Go.Proofs.YtofabikjjkapmaaGreat
