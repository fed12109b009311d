/- Walks: RepeatTableau of the program and of the reference. -/
import Derived.Test.YtbjeibcombjfgaaQt23
import Derived.Test.YtbjeibcombjfgaaQt24
import Derived.Test.YtbjeibcombjfgaaQt25
set_option maxRecDepth 100000
set_option linter.unusedVariables false
set_option linter.unusedSimpArgs false
namespace Go.Proofs.Ytbjeibcombjfgaa
open Go.RowKit

set_option maxHeartbeats 4000000 in
theorem i_RepeatTableau (w : World) (v : Value) (A : List (List Int)) (Bs : List Int) (ha : TabArg w v A Bs) (k : Int) (hk : In64 k) :
    Calls Try.prog 14 #[v, .int .i64 k] w fun e w' => ∃ RA RB v' c, e = .returned (.tuple #[v', .int .i64 c]) ∧ IsRep A Bs k RA RB c ∧ OT w' w.heap.size w'.heap.size v' RA RB ∧ Below w.heap.size w w' := by
  have HT := Lib.hid ha
  obtain ⟨Aa, ca, Ab, cb, rfl⟩ := ha.open_
  have B0 := Lib.hid (below2 w (.cells #[.slice Aa A.length ca, .slice Ab Bs.length cb] 27) (.cells #[.slice none 0 0, .slice none 0 0] 27))
  have K0 := Lib.hid ((Blk.new w #[.slice Aa A.length ca, .slice Ab Bs.length cb] 27).alloc (.cells #[.slice none 0 0, .slice none 0 0] 27))
  have K1 := Lib.hid (Blk.new1 w (.cells #[.slice Aa A.length ca, .slice Ab Bs.length cb] 27) #[.slice none 0 0, .slice none 0 0] 27)
  clear ha hk
  go_enter Try.func14, Try.ntmps14
  go_wp2_with fail
  refine (i_IsTableau _ _ _ _ (HT.out.below B0.out)).mono ?_
  rintro e w1 ⟨rfl, hb1⟩
  have B1 := Lib.hid (B0.out.trans (hb1.mono B0.out.size))
  have X0 := Lib.hid (K0.out.below hb1 K0.out.lt)
  have X1 := Lib.hid (K1.out.below hb1 K1.out.lt)
  clear hb1 K0 K1
  have g0 : w1.cell? ⟨w.heap.size, 0, none⟩ = some (.slice Aa A.length ca) := X0.out.cell 0
  have g1 : w1.cell? ⟨w.heap.size, 1, none⟩ = some (.slice Ab Bs.length cb) := X0.out.cell 1
  have f0 : w1.cell? ⟨w.heap.size + 1, 0, none⟩ = some (.slice none 0 0) := X1.out.cell 0
  have f1 : w1.cell? ⟨w.heap.size + 1, 1, none⟩ = some (.slice none 0 0) := X1.out.cell 1
  have f2 := X1.out.frozen 0
  have f3 := X1.out.frozen 1
  cases ht : tabB A Bs with
  | false =>
    have HC := Lib.hid (show repC A Bs k = 1 by simp [repC, ht])
    go_wp2_with fail
    have c0 := Chg.refl (w.heap.size + 1) (w.heap.size + 1 + 1) w1
    have c1' := c0.setCell (p := ⟨w.heap.size + 1, 0, none⟩) (Nat.le_refl _) (by simp) (.slice none 0 0)
    have c2' := c1'.setCell (p := ⟨w.heap.size + 1, 1, none⟩) (Nat.le_refl _) (by simp) (.slice none 0 0)
    refine bodyPost_ret (v := .tuple #[.agg #[.slice none 0 0, .slice none 0 0], .int .i64 1]) (by simp [results, Try.results14, go_sem, f0, f1]) rfl ⟨[], [], _, _, rfl, ⟨by rw [show repR A Bs k = ([], []) from by simp [repR, HC.out]], by rw [show repR A Bs k = ([], []) from by simp [repR, HC.out]], HC.out.symm⟩, OT.nil _ _ _, c2'.below B1.out (by omega) B1.out.size⟩
  | true =>
    have HI := Lib.hid (isTab_of ht)
    have hlo := (isTab_of ht).lo
    have hhi := (isTab_of ht).hi
    have HTB := Lib.hid ht
    clear ht
    go_wp2_with fail
    refine (i_inRange _ _ _ _).mono ?_
    rintro e w2 ⟨rfl, rfl⟩
    cases hr : inR k 1 8 with
    | false =>
      have HC := Lib.hid (show repC A Bs k = 2 by simp [repC, HTB.out, hr])
      clear hr
      go_wp2_with fail
      have c0 := Chg.refl (w.heap.size + 1) (w.heap.size + 1 + 1) w1
      have c1' := c0.setCell (p := ⟨w.heap.size + 1, 0, none⟩) (Nat.le_refl _) (by simp) (.slice none 0 0)
      have c2' := c1'.setCell (p := ⟨w.heap.size + 1, 1, none⟩) (Nat.le_refl _) (by simp) (.slice none 0 0)
      refine bodyPost_ret (v := .tuple #[.agg #[.slice none 0 0, .slice none 0 0], .int .i64 2]) (by simp [results, Try.results14, go_sem, f0, f1]) rfl ⟨[], [], _, _, rfl, ⟨by rw [show repR A Bs k = ([], []) from by simp [repR, HC.out]], by rw [show repR A Bs k = ([], []) from by simp [repR, HC.out]], HC.out.symm⟩, OT.nil _ _ _, c2'.below B1.out (by omega) B1.out.size⟩
    | true =>
      have hk1 := (inR_iff.1 hr).1
      have hk8 := (inR_iff.1 hr).2
      have HR := Lib.hid hr
      clear hr
      obtain ⟨m1, m2⟩ := mul_bd 8 8 (show (0 : Int) ≤ (Bs.length : Int) by omega) (show (Bs.length : Int) ≤ 8 by omega) (show (0 : Int) ≤ k by omega) hk8
      have hw : IntKind.i64.wrap ((Bs.length : Int) * k) = (Bs.length : Int) * k := IntWalk.i64_in _ (by omega)
      clear f0 f1 f2 f3
      go_wp2_with fail
      refine (im_stages _ _ A Bs (HT.out.below B1.out)).mono ?_
      rintro e wq ⟨rfl, hbq⟩
      have BQ := Lib.hid (B1.out.trans (hbq.mono B1.out.size))
      have Y0 := Lib.hid (X0.out.below hbq X0.out.lt)
      have Y1 := Lib.hid (X1.out.below hbq X1.out.lt)
      clear hbq X0 X1 g0 g1
      have g0 : wq.cell? ⟨w.heap.size, 0, none⟩ = some (.slice Aa A.length ca) := Y0.out.cell 0
      have g1 : wq.cell? ⟨w.heap.size, 1, none⟩ = some (.slice Ab Bs.length cb) := Y0.out.cell 1
      have f0 : wq.cell? ⟨w.heap.size + 1, 0, none⟩ = some (.slice none 0 0) := Y1.out.cell 0
      have f1 : wq.cell? ⟨w.heap.size + 1, 1, none⟩ = some (.slice none 0 0) := Y1.out.cell 1
      have f2 := Y1.out.frozen 0
      have f3 := Y1.out.frozen 1
      by_cases hm : (Bs.length : Int) * k ≤ 8
      · have HC := Lib.hid (show repC A Bs k = 0 by simp [repC, HTB.out, HR.out, hm])
        have hm2 : ¬ (8 : Int) < (Bs.length : Int) * k := by omega
        have hltq := Y1.out.lt
        have HSB := Lib.hid (show ∀ W : World, Below wq.heap.size wq W → (W.cell? ⟨w.heap.size, 0, none⟩ = some (.slice Aa A.length ca) ∧ W.cell? ⟨w.heap.size, 1, none⟩ = some (.slice Ab Bs.length cb)) from fun W hW =>
          ⟨(Y0.out.below hW Y0.out.lt).cell 0, (Y0.out.below hW Y0.out.lt).cell 1⟩)
        clear f0 f1 f2 f3
        go_wp2_with fail
        clear hw hm2 m1 m2
        refine AnyT.begin (k := 99) (S := fun b w' => (w'.cell? ⟨w.heap.size, 0, none⟩ = some (.slice Aa A.length ca) ∧ w'.cell? ⟨w.heap.size, 1, none⟩ = some (.slice Ab Bs.length cb)) ∧ True) (by kernel_rfl) ?_
        have hS : (fun (b : Bool) (w' : World) => (w'.cell? ⟨w.heap.size, 0, none⟩ = some (.slice Aa A.length ca) ∧ w'.cell? ⟨w.heap.size, 1, none⟩ = some (.slice Ab Bs.length cb)) ∧ True) true wq.drew := ⟨⟨g0, g1⟩, trivial⟩
        refine AnyT.take0 (i := 0) (v := ?_) rfl (by kernel_rfl) (by kernel_rfl) (by kernel_rfl) (by decide) (fun _ _ _ h => h) hS (Or.inl ⟨by first | kernel_rfl | rfl, ?_⟩) ?_
        rotate_left
        · rintro w' ⟨b, hw'⟩; obtain ⟨hw1, -⟩ := hw'; (try (obtain ⟨hw1, hw2⟩ := hw1)); (try (obtain ⟨hw2, hw3⟩ := hw2)); (try (obtain ⟨hw3, hw4⟩ := hw3)); go_simp; try with_reducible rfl
        try simp only [Act.put, List.setIfInBounds_toArray, List.set_cons_zero, List.set_cons_succ]
        refine AnyT.take0 (i := 1) (v := ?_) rfl (by kernel_rfl) (by kernel_rfl) (by kernel_rfl) (by decide) (fun _ _ _ h => h) hS (Or.inl ⟨by first | kernel_rfl | rfl, ?_⟩) ?_
        rotate_left
        · rintro w' ⟨b, hw'⟩; obtain ⟨hw1, -⟩ := hw'; (try (obtain ⟨hw1, hw2⟩ := hw1)); (try (obtain ⟨hw2, hw3⟩ := hw2)); (try (obtain ⟨hw3, hw4⟩ := hw3)); go_simp; try with_reducible rfl
        try simp only [Act.put, List.setIfInBounds_toArray, List.set_cons_zero, List.set_cons_succ]
        refine AnyT.go (rs := [2, 4]) (by kernel_rfl) (by simp) ?_
        refine AllT.cons rfl (fun K hK => ?_) (AllT.cons rfl (fun K hK => ?_) AllT.nil)
        · go_simp
          refine (i_inv _ _ (by omega) (by omega)).mono ?_
          rintro e w' ⟨rfl, rfl⟩
          refine hK.out _ _ ⟨HSB.out _ ((Below.refl wq.heap.size wq).drew), trivial⟩ (fun hS => ?_)
          clear hK
          try simp only [Act.put, List.setIfInBounds_toArray, List.set_cons_zero, List.set_cons_succ]
          refine AnyT.go (rs := [3, 4]) (by kernel_rfl) (by simp) ?_
          refine AllT.cons rfl (fun K hK => ?_) (AllT.cons rfl (fun K hK => ?_) AllT.nil)
          · go_simp
            refine (im_times _ _ A Bs (pw k 10005) (by exact HT.out.below (BQ.out.trans (((Below.refl wq.heap.size wq).drew).mono BQ.out.size))) HI.out.numTab (by have := pw_bd k 10005; omega) (by have := pw_bd k 10005; omega)).mono ?_
            rintro e w5 ⟨v5, rfl, ho5w, hb5w⟩
            have ho5 : OT w5 wq.heap.size w5.heap.size v5 (A.map (scl (repFac k))) (scl (repFac k) Bs) := by unfold repFac; rw [pw_self] at ho5w; exact ho5w
            obtain ⟨A3, c3, A4, c4, rfl⟩ := ho5.open_
            rw [List.length_map, scl_len] at ho5 ⊢
            have hb5 : Below wq.heap.size wq w5 := ((Below.refl wq.heap.size wq).drew).trans (hb5w.mono (by exact Nat.le_refl _))
            refine hK.out _ _ ⟨HSB.out _ hb5, trivial⟩ (fun hS => ?_)
            clear hK
            try simp only [Act.put, List.setIfInBounds_toArray, List.set_cons_zero, List.set_cons_succ]
            refine AnyT.go (rs := [4]) (by kernel_rfl) (by simp) ?_
            refine AllT.cons rfl (fun K hK => ?_) AllT.nil
            go_simp
            have hb7 : Below wq.heap.size wq (w5.alloc (.cells #[.slice none 0 0, .slice none 0 0] 27)) := (hb5).alloc (by exact hb5.size) _
            refine hK.out _ _ ⟨HSB.out _ hb7, trivial⟩ (fun hS => ?_)
            clear hK
            try simp only [Act.put, List.setIfInBounds_toArray, List.set_cons_zero, List.set_cons_succ]
            refine AnyT.go (rs := [5]) (by kernel_rfl) (by simp) ?_
            refine AllT.cons rfl (fun K hK => ?_) AllT.nil
            go_simp
            have hbs : Below wq.heap.size wq (w5.alloc (.cells #[.slice A3 A.length c3, .slice A4 Bs.length c4] 27)) := hb5.alloc hb5.size _
            have hpp : w.heap.size + 1 < w5.heap.size := by have := hb5.size; omega
            have KP := Lib.hid (Blk.new w5 #[.slice A3 A.length c3, .slice A4 Bs.length c4] 27)
            have HP := Lib.hid ((ho5.below (below1 w5 (.cells #[.slice A3 A.length c3, .slice A4 Bs.length c4] 27))).mono (B' := w.heap.size + 1) (by omega) (show w5.heap.size ≤ (w5.alloc (.cells #[.slice A3 A.length c3, .slice A4 Bs.length c4] 27)).heap.size by simp))
            have Z1 := Lib.hid (Y1.out.below hbs Y1.out.lt)
            have BZ := Lib.hid (BQ.out.trans (hbs.mono BQ.out.size))
            refine hK.out _ _ ⟨HSB.out _ hbs, trivial⟩ (fun hS => ?_)
            clear hK hS hbs
            refine AnyT.done (by kernel_rfl) ?_ _
            generalize (w5.alloc (.cells #[.slice A3 A.length c3, .slice A4 Bs.length c4] 27)) = w4 at HP KP Z1 BZ ⊢
            clear ho5w ho5 hb5w hb5
            generalize w5.heap.size = p at KP hpp ⊢
            clear HSB
            have e0 : w4.cell? ⟨p, 0, none⟩ = some (.slice A3 A.length c3) := KP.out.cell 0
            have e1 : w4.cell? ⟨p, 1, none⟩ = some (.slice A4 Bs.length c4) := KP.out.cell 1
            have hwk : IntKind.i64.wrap (k - 1) = k - 1 := IntWalk.i64_in _ (by omega)
            go_wp2_with fail
            clear e0 e1
            have hq : w.heap.size + 1 < w4.heap.size := Nat.lt_trans hpp KP.out.lt
            have KZ := Lib.hid (Blk.new w4 #[.slice A3 A.length c3, .slice A4 Bs.length c4] 27)
            have HP2 := Lib.hid (HP.out.below (below1 w4 (.cells #[.slice A3 A.length c3, .slice A4 Bs.length c4] 27)))
            have KP2 := Lib.hid (KP.out.alloc (.cells #[.slice A3 A.length c3, .slice A4 Bs.length c4] 27))
            have Z2 := Lib.hid (Z1.out.alloc (.cells #[.slice A3 A.length c3, .slice A4 Bs.length c4] 27))
            have BZ2 := Lib.hid (BZ.out.trans ((below1 w4 (.cells #[.slice A3 A.length c3, .slice A4 Bs.length c4] 27)).mono BZ.out.size))
            have hsz : w4.heap.size ≤ (w4.alloc (.cells #[.slice A3 A.length c3, .slice A4 Bs.length c4] 27)).heap.size := by simp
            have HP3 := Lib.hid (HP2.out.mono (Nat.le_refl _) hsz)
            generalize (w4.alloc (.cells #[.slice A3 A.length c3, .slice A4 Bs.length c4] 27)) = w6 at KZ HP3 KP2 Z2 BZ2 ⊢
            have hpq : p < w4.heap.size := KP.out.lt
            clear hsz HP KP HP2 Z1 BZ
            generalize w4.heap.size = q at KZ hq hpq ⊢
            go_loopw [32] (fun i wr => ∃ (n : Nat) (z0 z1 : Value), n + 1 ≤ k.toNat ∧ i = .int .i64 (n : Int) ∧ Blk wr q 27 #[z0, z1] ∧ OT wr (w.heap.size + 1) wr.heap.size (.agg #[z0, z1]) (repT (A.map (scl (repFac k))) (scl (repFac k) Bs) n).1 (repT (A.map (scl (repFac k))) (scl (repFac k) Bs) n).2 ∧ OT wr (w.heap.size + 1) wr.heap.size (.agg #[.slice A3 A.length c3, .slice A4 Bs.length c4]) (A.map (scl (repFac k))) (scl (repFac k) Bs) ∧ Blk wr p 27 #[.slice A3 A.length c3, .slice A4 Bs.length c4] ∧ Blk wr (w.heap.size + 1) 27 #[.slice none 0 0, .slice none 0 0] ∧ Below w.heap.size w wr) (fun i _ => k.toNat - (intOf i).toNat)
            case atStart => exact ⟨0, _, _, by omega, rfl, KZ.out, HP3.out, HP3.out, KP2.out, Z2.out, BZ2.out⟩
            case round =>
              obtain ⟨n, z0, z1, hn, rfl, hkz, hoz, hop, hkp, hz1, hbz⟩ := hrel
              clear KZ HP3 KP2 Z2 BZ2
              have HSQ := Lib.hid (rep_sq (k := k) HTB.out n)
              have hbd := rep_bd hk1 hm hn
              obtain ⟨Z3, d3, Z4, d4, hzv⟩ := hoz.open_
              rw [HSQ.out.la, HSQ.out.lb] at hzv
              simp only [Value.agg.injEq, Array.mk.injEq, List.cons.injEq, and_true] at hzv
              obtain ⟨rfl, rfl⟩ := hzv
              have KZ := Lib.hid hkz
              have HZ := Lib.hid hoz
              have HP := Lib.hid hop
              have KP := Lib.hid hkp
              have Z1 := Lib.hid hz1
              have BZ := Lib.hid hbz
              have z0' : wr.cell? ⟨q, 0, none⟩ = some (.slice Z3 ((n + 1) * Bs.length) d3) := KZ.out.cell 0
              have z1' : wr.cell? ⟨q, 1, none⟩ = some (.slice Z4 ((n + 1) * Bs.length) d4) := KZ.out.cell 1
              have p0' : wr.cell? ⟨p, 0, none⟩ = some (.slice A3 A.length c3) := KP.out.cell 0
              have p1' : wr.cell? ⟨p, 1, none⟩ = some (.slice A4 Bs.length c4) := KP.out.cell 1
              clear hkz hoz hop hkp hz1 hbz
              by_cases hlt : n + 1 < k.toNat
              · have hcond : (n : Int) < k - 1 := by omega
                have hsb := rep_bd (n := n + 1) hk1 hm (by omega)
                go_wp2_with fail
                refine (im_composed _ _ _ _ _ _ _ HZ.out.arg HP.out.arg (HSQ.out.numTab (by omega)) ((rep_sq (k := k) HTB.out 0).numTab (by omega))).mono ?_
                rintro e w7 ⟨r7, rfl, ho7, hb7⟩
                have ho7' : OT w7 wr.heap.size w7.heap.size r7 (repT (A.map (scl (repFac k))) (scl (repFac k) Bs) (n + 1)).1 (repT (A.map (scl (repFac k))) (scl (repFac k) Bs) (n + 1)).2 := ho7
                have HSQ2 := Lib.hid (rep_sq (k := k) HTB.out (n + 1))
                obtain ⟨Z5, d5, Z6, d6, rfl⟩ := ho7'.open_
                rw [HSQ2.out.la, HSQ2.out.lb] at ho7' ⊢
                have K7 := KZ.out.below hb7 KZ.out.lt
                have y0 : w7.cell? ⟨q, 0, none⟩ = some (.slice Z3 ((n + 1) * Bs.length) d3) := K7.cell 0
                have y1 : w7.cell? ⟨q, 1, none⟩ = some (.slice Z4 ((n + 1) * Bs.length) d4) := K7.cell 1
                have y2 := K7.frozen 0
                have y3 := K7.frozen 1
                have HB7 := Lib.hid hb7
                have HO7 := Lib.hid (ho7'.mono (B' := w.heap.size + 1) (by have := Z1.out.lt; omega) (Nat.le_refl _))
                have KQ := Lib.hid K7
                clear ho7 ho7' hb7 K7 z0' z1' p0' p1'
                go_wp2_with fail
                go_roundw
                case rel =>
                  refine ⟨n + 1, .slice Z5 ((n + 1 + 1) * Bs.length) d5, .slice Z6 ((n + 1 + 1) * Bs.length) d6, by omega, by go_num, ?_, ((HO7.out.storeAt KQ.out 0 (.slice Z5 ((n + 1 + 1) * Bs.length) d5)).storeAt (KQ.out.set_ 0 (.slice Z5 ((n + 1 + 1) * Bs.length) d5)) 1 (.slice Z6 ((n + 1 + 1) * Bs.length) d6)).mono (Nat.le_refl _) (Nat.le_of_eq (by simp [World.setCell])), ((((HP.out.below HB7.out).mono (Nat.le_refl _) HB7.out.size).storeAt KQ.out 0 (.slice Z5 ((n + 1 + 1) * Bs.length) d5)).storeAt (KQ.out.set_ 0 (.slice Z5 ((n + 1 + 1) * Bs.length) d5)) 1 (.slice Z6 ((n + 1 + 1) * Bs.length) d6)).mono (Nat.le_refl _) (Nat.le_of_eq (by simp [World.setCell])), ((KP.out.below HB7.out KP.out.lt).far (p := ⟨q, 0, none⟩) (by show _ ≠ q; omega) _).far (p := ⟨q, 1, none⟩) (by show _ ≠ q; omega) _, ((Z1.out.below HB7.out Z1.out.lt).far (p := ⟨q, 0, none⟩) (by show _ ≠ q; omega) _).far (p := ⟨q, 1, none⟩) (by show _ ≠ q; omega) _, ((BZ.out.trans (HB7.out.mono BZ.out.size)).setCell (p := ⟨q, 0, none⟩) (by show _ ≤ q; omega) _).setCell (p := ⟨q, 1, none⟩) (by show _ ≤ q; omega) _⟩
                  have h := (KQ.out.set_ 0 (.slice Z5 ((n + 1 + 1) * Bs.length) d5)).set_ 1 (.slice Z6 ((n + 1 + 1) * Bs.length) d6)
                  simpa using h
                case measure => simp [intOf]; omega
              · have hne : n = k.toNat - 1 := by omega
                have hcond : ¬ (n : Int) < k - 1 := by omega
                have HRR := Lib.hid (show repR A Bs k = repT (A.map (scl (repFac k))) (scl (repFac k) Bs) n by rw [repR, if_pos HC.out, hne])
                have f0 : wr.cell? ⟨w.heap.size + 1, 0, none⟩ = some (.slice none 0 0) := Z1.out.cell 0
                have f1 : wr.cell? ⟨w.heap.size + 1, 1, none⟩ = some (.slice none 0 0) := Z1.out.cell 1
                have f2 := Z1.out.frozen 0
                have f3 := Z1.out.frozen 1
                clear hne
                go_wp2_with fail
                refine bodyPost_ret (v := .tuple #[.agg #[.slice Z3 ((n + 1) * Bs.length) d3, .slice Z4 ((n + 1) * Bs.length) d4], .int .i64 0]) (by simp [results, Try.results14, go_sem, f0, f1]) rfl ⟨_, _, _, _, rfl, ⟨by rw [HRR.out], by rw [HRR.out], HC.out.symm⟩, ((HZ.out.storeAt Z1.out 0 _).storeAt (Z1.out.set_ 0 _) 1 _).mono (by omega) (Nat.le_of_eq (by simp [World.setCell])), (BZ.out.setCell (p := ⟨w.heap.size + 1, 0, none⟩) (by show _ ≤ w.heap.size + 1; omega) _).setCell (p := ⟨w.heap.size + 1, 1, none⟩) (by show _ ≤ w.heap.size + 1; omega) _⟩
          · go_simp
            have hb7 : Below wq.heap.size wq (wq.drew.alloc (.cells #[.slice none 0 0, .slice none 0 0] 27)) := ((Below.refl wq.heap.size wq).drew).alloc (by exact Nat.le_refl _) _
            refine hK.out _ _ ⟨HSB.out _ hb7, trivial⟩ (fun hS => ?_)
            clear hK
            try simp only [Act.put, List.setIfInBounds_toArray, List.set_cons_zero, List.set_cons_succ]
            refine AnyT.go (rs := [3]) (by kernel_rfl) (by simp) ?_
            refine AllT.cons rfl (fun K hK => ?_) AllT.nil
            go_simp
            refine (im_times _ _ A Bs (pw k 10005) (by exact HT.out.below (BQ.out.trans ((hb7).mono BQ.out.size))) HI.out.numTab (by have := pw_bd k 10005; omega) (by have := pw_bd k 10005; omega)).mono ?_
            rintro e w5 ⟨v5, rfl, ho5w, hb5w⟩
            have ho5 : OT w5 (wq.drew.alloc (.cells #[.slice none 0 0, .slice none 0 0] 27)).heap.size w5.heap.size v5 (A.map (scl (repFac k))) (scl (repFac k) Bs) := by unfold repFac; rw [pw_self] at ho5w; exact ho5w
            obtain ⟨A3, c3, A4, c4, rfl⟩ := ho5.open_
            rw [List.length_map, scl_len] at ho5 ⊢
            have hb5 : Below wq.heap.size wq w5 := (hb7).trans (hb5w.mono (by simp))
            refine hK.out _ _ ⟨HSB.out _ hb5, trivial⟩ (fun hS => ?_)
            clear hK
            try simp only [Act.put, List.setIfInBounds_toArray, List.set_cons_zero, List.set_cons_succ]
            refine AnyT.go (rs := [5]) (by kernel_rfl) (by simp) ?_
            refine AllT.cons rfl (fun K hK => ?_) AllT.nil
            have KP0 : Blk w5 wq.heap.size 27 #[.slice none 0 0, .slice none 0 0] := (Blk.new wq.drew _ _).below hb5w (by simp)
            have e0 : w5.cell? ⟨wq.heap.size, 0, none⟩ = some (.slice none 0 0) := KP0.cell 0
            have e1 : w5.cell? ⟨wq.heap.size, 1, none⟩ = some (.slice none 0 0) := KP0.cell 1
            have e2 : w5.frozen? ⟨wq.heap.size, 0, none⟩ = false := KP0.frozen 0
            have e3 : w5.frozen? ⟨wq.heap.size, 1, none⟩ = false := KP0.frozen 1
            go_simp
            have hbs : Below wq.heap.size wq ((w5.setCell ⟨wq.heap.size, 0, none⟩ (.slice A3 A.length c3)).setCell ⟨wq.heap.size, 1, none⟩ (.slice A4 Bs.length c4)) := (hb5.setCell (p := ⟨wq.heap.size, 0, none⟩) (Nat.le_refl _) _).setCell (p := ⟨wq.heap.size, 1, none⟩) (Nat.le_refl _) _
            have hpp : w.heap.size + 1 < wq.heap.size := hltq
            have KP := Lib.hid (show Blk ((w5.setCell ⟨wq.heap.size, 0, none⟩ (.slice A3 A.length c3)).setCell ⟨wq.heap.size, 1, none⟩ (.slice A4 Bs.length c4)) wq.heap.size 27 #[.slice A3 A.length c3, .slice A4 Bs.length c4] by have h := (KP0.set_ 0 (.slice A3 A.length c3)).set_ 1 (.slice A4 Bs.length c4); simpa using h)
            have HP := Lib.hid (((ho5.storeAt KP0 0 (.slice A3 A.length c3)).storeAt (KP0.set_ 0 (.slice A3 A.length c3)) 1 (.slice A4 Bs.length c4)).mono (B' := w.heap.size + 1) (by simp; omega) (show w5.heap.size ≤ ((w5.setCell ⟨wq.heap.size, 0, none⟩ (.slice A3 A.length c3)).setCell ⟨wq.heap.size, 1, none⟩ (.slice A4 Bs.length c4)).heap.size by simp [World.setCell]))
            have Z1 := Lib.hid (Y1.out.below hbs Y1.out.lt)
            have BZ := Lib.hid (BQ.out.trans (hbs.mono BQ.out.size))
            refine hK.out _ _ ⟨HSB.out _ hbs, trivial⟩ (fun hS => ?_)
            clear hK hS hbs e0 e1 e2 e3
            refine AnyT.done (by kernel_rfl) ?_ _
            generalize ((w5.setCell ⟨wq.heap.size, 0, none⟩ (.slice A3 A.length c3)).setCell ⟨wq.heap.size, 1, none⟩ (.slice A4 Bs.length c4)) = w4 at HP KP Z1 BZ ⊢
            clear ho5w ho5 hb5w hb5 KP0
            generalize wq.heap.size = p at KP hpp ⊢
            clear HSB
            have e0 : w4.cell? ⟨p, 0, none⟩ = some (.slice A3 A.length c3) := KP.out.cell 0
            have e1 : w4.cell? ⟨p, 1, none⟩ = some (.slice A4 Bs.length c4) := KP.out.cell 1
            have hwk : IntKind.i64.wrap (k - 1) = k - 1 := IntWalk.i64_in _ (by omega)
            go_wp2_with fail
            clear e0 e1
            have hq : w.heap.size + 1 < w4.heap.size := Nat.lt_trans hpp KP.out.lt
            have KZ := Lib.hid (Blk.new w4 #[.slice A3 A.length c3, .slice A4 Bs.length c4] 27)
            have HP2 := Lib.hid (HP.out.below (below1 w4 (.cells #[.slice A3 A.length c3, .slice A4 Bs.length c4] 27)))
            have KP2 := Lib.hid (KP.out.alloc (.cells #[.slice A3 A.length c3, .slice A4 Bs.length c4] 27))
            have Z2 := Lib.hid (Z1.out.alloc (.cells #[.slice A3 A.length c3, .slice A4 Bs.length c4] 27))
            have BZ2 := Lib.hid (BZ.out.trans ((below1 w4 (.cells #[.slice A3 A.length c3, .slice A4 Bs.length c4] 27)).mono BZ.out.size))
            have hsz : w4.heap.size ≤ (w4.alloc (.cells #[.slice A3 A.length c3, .slice A4 Bs.length c4] 27)).heap.size := by simp
            have HP3 := Lib.hid (HP2.out.mono (Nat.le_refl _) hsz)
            generalize (w4.alloc (.cells #[.slice A3 A.length c3, .slice A4 Bs.length c4] 27)) = w6 at KZ HP3 KP2 Z2 BZ2 ⊢
            have hpq : p < w4.heap.size := KP.out.lt
            clear hsz HP KP HP2 Z1 BZ
            generalize w4.heap.size = q at KZ hq hpq ⊢
            go_loopw [32] (fun i wr => ∃ (n : Nat) (z0 z1 : Value), n + 1 ≤ k.toNat ∧ i = .int .i64 (n : Int) ∧ Blk wr q 27 #[z0, z1] ∧ OT wr (w.heap.size + 1) wr.heap.size (.agg #[z0, z1]) (repT (A.map (scl (repFac k))) (scl (repFac k) Bs) n).1 (repT (A.map (scl (repFac k))) (scl (repFac k) Bs) n).2 ∧ OT wr (w.heap.size + 1) wr.heap.size (.agg #[.slice A3 A.length c3, .slice A4 Bs.length c4]) (A.map (scl (repFac k))) (scl (repFac k) Bs) ∧ Blk wr p 27 #[.slice A3 A.length c3, .slice A4 Bs.length c4] ∧ Blk wr (w.heap.size + 1) 27 #[.slice none 0 0, .slice none 0 0] ∧ Below w.heap.size w wr) (fun i _ => k.toNat - (intOf i).toNat)
            case atStart => exact ⟨0, _, _, by omega, rfl, KZ.out, HP3.out, HP3.out, KP2.out, Z2.out, BZ2.out⟩
            case round =>
              obtain ⟨n, z0, z1, hn, rfl, hkz, hoz, hop, hkp, hz1, hbz⟩ := hrel
              clear KZ HP3 KP2 Z2 BZ2
              have HSQ := Lib.hid (rep_sq (k := k) HTB.out n)
              have hbd := rep_bd hk1 hm hn
              obtain ⟨Z3, d3, Z4, d4, hzv⟩ := hoz.open_
              rw [HSQ.out.la, HSQ.out.lb] at hzv
              simp only [Value.agg.injEq, Array.mk.injEq, List.cons.injEq, and_true] at hzv
              obtain ⟨rfl, rfl⟩ := hzv
              have KZ := Lib.hid hkz
              have HZ := Lib.hid hoz
              have HP := Lib.hid hop
              have KP := Lib.hid hkp
              have Z1 := Lib.hid hz1
              have BZ := Lib.hid hbz
              have z0' : wr.cell? ⟨q, 0, none⟩ = some (.slice Z3 ((n + 1) * Bs.length) d3) := KZ.out.cell 0
              have z1' : wr.cell? ⟨q, 1, none⟩ = some (.slice Z4 ((n + 1) * Bs.length) d4) := KZ.out.cell 1
              have p0' : wr.cell? ⟨p, 0, none⟩ = some (.slice A3 A.length c3) := KP.out.cell 0
              have p1' : wr.cell? ⟨p, 1, none⟩ = some (.slice A4 Bs.length c4) := KP.out.cell 1
              clear hkz hoz hop hkp hz1 hbz
              by_cases hlt : n + 1 < k.toNat
              · have hcond : (n : Int) < k - 1 := by omega
                have hsb := rep_bd (n := n + 1) hk1 hm (by omega)
                go_wp2_with fail
                refine (im_composed _ _ _ _ _ _ _ HZ.out.arg HP.out.arg (HSQ.out.numTab (by omega)) ((rep_sq (k := k) HTB.out 0).numTab (by omega))).mono ?_
                rintro e w7 ⟨r7, rfl, ho7, hb7⟩
                have ho7' : OT w7 wr.heap.size w7.heap.size r7 (repT (A.map (scl (repFac k))) (scl (repFac k) Bs) (n + 1)).1 (repT (A.map (scl (repFac k))) (scl (repFac k) Bs) (n + 1)).2 := ho7
                have HSQ2 := Lib.hid (rep_sq (k := k) HTB.out (n + 1))
                obtain ⟨Z5, d5, Z6, d6, rfl⟩ := ho7'.open_
                rw [HSQ2.out.la, HSQ2.out.lb] at ho7' ⊢
                have K7 := KZ.out.below hb7 KZ.out.lt
                have y0 : w7.cell? ⟨q, 0, none⟩ = some (.slice Z3 ((n + 1) * Bs.length) d3) := K7.cell 0
                have y1 : w7.cell? ⟨q, 1, none⟩ = some (.slice Z4 ((n + 1) * Bs.length) d4) := K7.cell 1
                have y2 := K7.frozen 0
                have y3 := K7.frozen 1
                have HB7 := Lib.hid hb7
                have HO7 := Lib.hid (ho7'.mono (B' := w.heap.size + 1) (by have := Z1.out.lt; omega) (Nat.le_refl _))
                have KQ := Lib.hid K7
                clear ho7 ho7' hb7 K7 z0' z1' p0' p1'
                go_wp2_with fail
                go_roundw
                case rel =>
                  refine ⟨n + 1, .slice Z5 ((n + 1 + 1) * Bs.length) d5, .slice Z6 ((n + 1 + 1) * Bs.length) d6, by omega, by go_num, ?_, ((HO7.out.storeAt KQ.out 0 (.slice Z5 ((n + 1 + 1) * Bs.length) d5)).storeAt (KQ.out.set_ 0 (.slice Z5 ((n + 1 + 1) * Bs.length) d5)) 1 (.slice Z6 ((n + 1 + 1) * Bs.length) d6)).mono (Nat.le_refl _) (Nat.le_of_eq (by simp [World.setCell])), ((((HP.out.below HB7.out).mono (Nat.le_refl _) HB7.out.size).storeAt KQ.out 0 (.slice Z5 ((n + 1 + 1) * Bs.length) d5)).storeAt (KQ.out.set_ 0 (.slice Z5 ((n + 1 + 1) * Bs.length) d5)) 1 (.slice Z6 ((n + 1 + 1) * Bs.length) d6)).mono (Nat.le_refl _) (Nat.le_of_eq (by simp [World.setCell])), ((KP.out.below HB7.out KP.out.lt).far (p := ⟨q, 0, none⟩) (by show _ ≠ q; omega) _).far (p := ⟨q, 1, none⟩) (by show _ ≠ q; omega) _, ((Z1.out.below HB7.out Z1.out.lt).far (p := ⟨q, 0, none⟩) (by show _ ≠ q; omega) _).far (p := ⟨q, 1, none⟩) (by show _ ≠ q; omega) _, ((BZ.out.trans (HB7.out.mono BZ.out.size)).setCell (p := ⟨q, 0, none⟩) (by show _ ≤ q; omega) _).setCell (p := ⟨q, 1, none⟩) (by show _ ≤ q; omega) _⟩
                  have h := (KQ.out.set_ 0 (.slice Z5 ((n + 1 + 1) * Bs.length) d5)).set_ 1 (.slice Z6 ((n + 1 + 1) * Bs.length) d6)
                  simpa using h
                case measure => simp [intOf]; omega
              · have hne : n = k.toNat - 1 := by omega
                have hcond : ¬ (n : Int) < k - 1 := by omega
                have HRR := Lib.hid (show repR A Bs k = repT (A.map (scl (repFac k))) (scl (repFac k) Bs) n by rw [repR, if_pos HC.out, hne])
                have f0 : wr.cell? ⟨w.heap.size + 1, 0, none⟩ = some (.slice none 0 0) := Z1.out.cell 0
                have f1 : wr.cell? ⟨w.heap.size + 1, 1, none⟩ = some (.slice none 0 0) := Z1.out.cell 1
                have f2 := Z1.out.frozen 0
                have f3 := Z1.out.frozen 1
                clear hne
                go_wp2_with fail
                refine bodyPost_ret (v := .tuple #[.agg #[.slice Z3 ((n + 1) * Bs.length) d3, .slice Z4 ((n + 1) * Bs.length) d4], .int .i64 0]) (by simp [results, Try.results14, go_sem, f0, f1]) rfl ⟨_, _, _, _, rfl, ⟨by rw [HRR.out], by rw [HRR.out], HC.out.symm⟩, ((HZ.out.storeAt Z1.out 0 _).storeAt (Z1.out.set_ 0 _) 1 _).mono (by omega) (Nat.le_of_eq (by simp [World.setCell])), (BZ.out.setCell (p := ⟨w.heap.size + 1, 0, none⟩) (by show _ ≤ w.heap.size + 1; omega) _).setCell (p := ⟨w.heap.size + 1, 1, none⟩) (by show _ ≤ w.heap.size + 1; omega) _⟩
        · go_simp
          have hb7 : Below wq.heap.size wq (wq.drew.alloc (.cells #[.slice none 0 0, .slice none 0 0] 27)) := ((Below.refl wq.heap.size wq).drew).alloc (by exact Nat.le_refl _) _
          refine hK.out _ _ ⟨HSB.out _ hb7, trivial⟩ (fun hS => ?_)
          clear hK
          try simp only [Act.put, List.setIfInBounds_toArray, List.set_cons_zero, List.set_cons_succ]
          refine AnyT.go (rs := [2]) (by kernel_rfl) (by simp) ?_
          refine AllT.cons rfl (fun K hK => ?_) AllT.nil
          go_simp
          refine (i_inv _ _ (by omega) (by omega)).mono ?_
          rintro e w' ⟨rfl, rfl⟩
          refine hK.out _ _ ⟨HSB.out _ (hb7), trivial⟩ (fun hS => ?_)
          clear hK
          try simp only [Act.put, List.setIfInBounds_toArray, List.set_cons_zero, List.set_cons_succ]
          refine AnyT.go (rs := [3]) (by kernel_rfl) (by simp) ?_
          refine AllT.cons rfl (fun K hK => ?_) AllT.nil
          go_simp
          refine (im_times _ _ A Bs (pw k 10005) (by exact HT.out.below (BQ.out.trans ((hb7).mono BQ.out.size))) HI.out.numTab (by have := pw_bd k 10005; omega) (by have := pw_bd k 10005; omega)).mono ?_
          rintro e w5 ⟨v5, rfl, ho5w, hb5w⟩
          have ho5 : OT w5 (wq.drew.alloc (.cells #[.slice none 0 0, .slice none 0 0] 27)).heap.size w5.heap.size v5 (A.map (scl (repFac k))) (scl (repFac k) Bs) := by unfold repFac; rw [pw_self] at ho5w; exact ho5w
          obtain ⟨A3, c3, A4, c4, rfl⟩ := ho5.open_
          rw [List.length_map, scl_len] at ho5 ⊢
          have hb5 : Below wq.heap.size wq w5 := (hb7).trans (hb5w.mono (by simp))
          refine hK.out _ _ ⟨HSB.out _ hb5, trivial⟩ (fun hS => ?_)
          clear hK
          try simp only [Act.put, List.setIfInBounds_toArray, List.set_cons_zero, List.set_cons_succ]
          refine AnyT.go (rs := [5]) (by kernel_rfl) (by simp) ?_
          refine AllT.cons rfl (fun K hK => ?_) AllT.nil
          have KP0 : Blk w5 wq.heap.size 27 #[.slice none 0 0, .slice none 0 0] := (Blk.new wq.drew _ _).below hb5w (by simp)
          have e0 : w5.cell? ⟨wq.heap.size, 0, none⟩ = some (.slice none 0 0) := KP0.cell 0
          have e1 : w5.cell? ⟨wq.heap.size, 1, none⟩ = some (.slice none 0 0) := KP0.cell 1
          have e2 : w5.frozen? ⟨wq.heap.size, 0, none⟩ = false := KP0.frozen 0
          have e3 : w5.frozen? ⟨wq.heap.size, 1, none⟩ = false := KP0.frozen 1
          go_simp
          have hbs : Below wq.heap.size wq ((w5.setCell ⟨wq.heap.size, 0, none⟩ (.slice A3 A.length c3)).setCell ⟨wq.heap.size, 1, none⟩ (.slice A4 Bs.length c4)) := (hb5.setCell (p := ⟨wq.heap.size, 0, none⟩) (Nat.le_refl _) _).setCell (p := ⟨wq.heap.size, 1, none⟩) (Nat.le_refl _) _
          have hpp : w.heap.size + 1 < wq.heap.size := hltq
          have KP := Lib.hid (show Blk ((w5.setCell ⟨wq.heap.size, 0, none⟩ (.slice A3 A.length c3)).setCell ⟨wq.heap.size, 1, none⟩ (.slice A4 Bs.length c4)) wq.heap.size 27 #[.slice A3 A.length c3, .slice A4 Bs.length c4] by have h := (KP0.set_ 0 (.slice A3 A.length c3)).set_ 1 (.slice A4 Bs.length c4); simpa using h)
          have HP := Lib.hid (((ho5.storeAt KP0 0 (.slice A3 A.length c3)).storeAt (KP0.set_ 0 (.slice A3 A.length c3)) 1 (.slice A4 Bs.length c4)).mono (B' := w.heap.size + 1) (by simp; omega) (show w5.heap.size ≤ ((w5.setCell ⟨wq.heap.size, 0, none⟩ (.slice A3 A.length c3)).setCell ⟨wq.heap.size, 1, none⟩ (.slice A4 Bs.length c4)).heap.size by simp [World.setCell]))
          have Z1 := Lib.hid (Y1.out.below hbs Y1.out.lt)
          have BZ := Lib.hid (BQ.out.trans (hbs.mono BQ.out.size))
          refine hK.out _ _ ⟨HSB.out _ hbs, trivial⟩ (fun hS => ?_)
          clear hK hS hbs e0 e1 e2 e3
          refine AnyT.done (by kernel_rfl) ?_ _
          generalize ((w5.setCell ⟨wq.heap.size, 0, none⟩ (.slice A3 A.length c3)).setCell ⟨wq.heap.size, 1, none⟩ (.slice A4 Bs.length c4)) = w4 at HP KP Z1 BZ ⊢
          clear ho5w ho5 hb5w hb5 KP0
          generalize wq.heap.size = p at KP hpp ⊢
          clear HSB
          have e0 : w4.cell? ⟨p, 0, none⟩ = some (.slice A3 A.length c3) := KP.out.cell 0
          have e1 : w4.cell? ⟨p, 1, none⟩ = some (.slice A4 Bs.length c4) := KP.out.cell 1
          have hwk : IntKind.i64.wrap (k - 1) = k - 1 := IntWalk.i64_in _ (by omega)
          go_wp2_with fail
          clear e0 e1
          have hq : w.heap.size + 1 < w4.heap.size := Nat.lt_trans hpp KP.out.lt
          have KZ := Lib.hid (Blk.new w4 #[.slice A3 A.length c3, .slice A4 Bs.length c4] 27)
          have HP2 := Lib.hid (HP.out.below (below1 w4 (.cells #[.slice A3 A.length c3, .slice A4 Bs.length c4] 27)))
          have KP2 := Lib.hid (KP.out.alloc (.cells #[.slice A3 A.length c3, .slice A4 Bs.length c4] 27))
          have Z2 := Lib.hid (Z1.out.alloc (.cells #[.slice A3 A.length c3, .slice A4 Bs.length c4] 27))
          have BZ2 := Lib.hid (BZ.out.trans ((below1 w4 (.cells #[.slice A3 A.length c3, .slice A4 Bs.length c4] 27)).mono BZ.out.size))
          have hsz : w4.heap.size ≤ (w4.alloc (.cells #[.slice A3 A.length c3, .slice A4 Bs.length c4] 27)).heap.size := by simp
          have HP3 := Lib.hid (HP2.out.mono (Nat.le_refl _) hsz)
          generalize (w4.alloc (.cells #[.slice A3 A.length c3, .slice A4 Bs.length c4] 27)) = w6 at KZ HP3 KP2 Z2 BZ2 ⊢
          have hpq : p < w4.heap.size := KP.out.lt
          clear hsz HP KP HP2 Z1 BZ
          generalize w4.heap.size = q at KZ hq hpq ⊢
          go_loopw [32] (fun i wr => ∃ (n : Nat) (z0 z1 : Value), n + 1 ≤ k.toNat ∧ i = .int .i64 (n : Int) ∧ Blk wr q 27 #[z0, z1] ∧ OT wr (w.heap.size + 1) wr.heap.size (.agg #[z0, z1]) (repT (A.map (scl (repFac k))) (scl (repFac k) Bs) n).1 (repT (A.map (scl (repFac k))) (scl (repFac k) Bs) n).2 ∧ OT wr (w.heap.size + 1) wr.heap.size (.agg #[.slice A3 A.length c3, .slice A4 Bs.length c4]) (A.map (scl (repFac k))) (scl (repFac k) Bs) ∧ Blk wr p 27 #[.slice A3 A.length c3, .slice A4 Bs.length c4] ∧ Blk wr (w.heap.size + 1) 27 #[.slice none 0 0, .slice none 0 0] ∧ Below w.heap.size w wr) (fun i _ => k.toNat - (intOf i).toNat)
          case atStart => exact ⟨0, _, _, by omega, rfl, KZ.out, HP3.out, HP3.out, KP2.out, Z2.out, BZ2.out⟩
          case round =>
            obtain ⟨n, z0, z1, hn, rfl, hkz, hoz, hop, hkp, hz1, hbz⟩ := hrel
            clear KZ HP3 KP2 Z2 BZ2
            have HSQ := Lib.hid (rep_sq (k := k) HTB.out n)
            have hbd := rep_bd hk1 hm hn
            obtain ⟨Z3, d3, Z4, d4, hzv⟩ := hoz.open_
            rw [HSQ.out.la, HSQ.out.lb] at hzv
            simp only [Value.agg.injEq, Array.mk.injEq, List.cons.injEq, and_true] at hzv
            obtain ⟨rfl, rfl⟩ := hzv
            have KZ := Lib.hid hkz
            have HZ := Lib.hid hoz
            have HP := Lib.hid hop
            have KP := Lib.hid hkp
            have Z1 := Lib.hid hz1
            have BZ := Lib.hid hbz
            have z0' : wr.cell? ⟨q, 0, none⟩ = some (.slice Z3 ((n + 1) * Bs.length) d3) := KZ.out.cell 0
            have z1' : wr.cell? ⟨q, 1, none⟩ = some (.slice Z4 ((n + 1) * Bs.length) d4) := KZ.out.cell 1
            have p0' : wr.cell? ⟨p, 0, none⟩ = some (.slice A3 A.length c3) := KP.out.cell 0
            have p1' : wr.cell? ⟨p, 1, none⟩ = some (.slice A4 Bs.length c4) := KP.out.cell 1
            clear hkz hoz hop hkp hz1 hbz
            by_cases hlt : n + 1 < k.toNat
            · have hcond : (n : Int) < k - 1 := by omega
              have hsb := rep_bd (n := n + 1) hk1 hm (by omega)
              go_wp2_with fail
              refine (im_composed _ _ _ _ _ _ _ HZ.out.arg HP.out.arg (HSQ.out.numTab (by omega)) ((rep_sq (k := k) HTB.out 0).numTab (by omega))).mono ?_
              rintro e w7 ⟨r7, rfl, ho7, hb7⟩
              have ho7' : OT w7 wr.heap.size w7.heap.size r7 (repT (A.map (scl (repFac k))) (scl (repFac k) Bs) (n + 1)).1 (repT (A.map (scl (repFac k))) (scl (repFac k) Bs) (n + 1)).2 := ho7
              have HSQ2 := Lib.hid (rep_sq (k := k) HTB.out (n + 1))
              obtain ⟨Z5, d5, Z6, d6, rfl⟩ := ho7'.open_
              rw [HSQ2.out.la, HSQ2.out.lb] at ho7' ⊢
              have K7 := KZ.out.below hb7 KZ.out.lt
              have y0 : w7.cell? ⟨q, 0, none⟩ = some (.slice Z3 ((n + 1) * Bs.length) d3) := K7.cell 0
              have y1 : w7.cell? ⟨q, 1, none⟩ = some (.slice Z4 ((n + 1) * Bs.length) d4) := K7.cell 1
              have y2 := K7.frozen 0
              have y3 := K7.frozen 1
              have HB7 := Lib.hid hb7
              have HO7 := Lib.hid (ho7'.mono (B' := w.heap.size + 1) (by have := Z1.out.lt; omega) (Nat.le_refl _))
              have KQ := Lib.hid K7
              clear ho7 ho7' hb7 K7 z0' z1' p0' p1'
              go_wp2_with fail
              go_roundw
              case rel =>
                refine ⟨n + 1, .slice Z5 ((n + 1 + 1) * Bs.length) d5, .slice Z6 ((n + 1 + 1) * Bs.length) d6, by omega, by go_num, ?_, ((HO7.out.storeAt KQ.out 0 (.slice Z5 ((n + 1 + 1) * Bs.length) d5)).storeAt (KQ.out.set_ 0 (.slice Z5 ((n + 1 + 1) * Bs.length) d5)) 1 (.slice Z6 ((n + 1 + 1) * Bs.length) d6)).mono (Nat.le_refl _) (Nat.le_of_eq (by simp [World.setCell])), ((((HP.out.below HB7.out).mono (Nat.le_refl _) HB7.out.size).storeAt KQ.out 0 (.slice Z5 ((n + 1 + 1) * Bs.length) d5)).storeAt (KQ.out.set_ 0 (.slice Z5 ((n + 1 + 1) * Bs.length) d5)) 1 (.slice Z6 ((n + 1 + 1) * Bs.length) d6)).mono (Nat.le_refl _) (Nat.le_of_eq (by simp [World.setCell])), ((KP.out.below HB7.out KP.out.lt).far (p := ⟨q, 0, none⟩) (by show _ ≠ q; omega) _).far (p := ⟨q, 1, none⟩) (by show _ ≠ q; omega) _, ((Z1.out.below HB7.out Z1.out.lt).far (p := ⟨q, 0, none⟩) (by show _ ≠ q; omega) _).far (p := ⟨q, 1, none⟩) (by show _ ≠ q; omega) _, ((BZ.out.trans (HB7.out.mono BZ.out.size)).setCell (p := ⟨q, 0, none⟩) (by show _ ≤ q; omega) _).setCell (p := ⟨q, 1, none⟩) (by show _ ≤ q; omega) _⟩
                have h := (KQ.out.set_ 0 (.slice Z5 ((n + 1 + 1) * Bs.length) d5)).set_ 1 (.slice Z6 ((n + 1 + 1) * Bs.length) d6)
                simpa using h
              case measure => simp [intOf]; omega
            · have hne : n = k.toNat - 1 := by omega
              have hcond : ¬ (n : Int) < k - 1 := by omega
              have HRR := Lib.hid (show repR A Bs k = repT (A.map (scl (repFac k))) (scl (repFac k) Bs) n by rw [repR, if_pos HC.out, hne])
              have f0 : wr.cell? ⟨w.heap.size + 1, 0, none⟩ = some (.slice none 0 0) := Z1.out.cell 0
              have f1 : wr.cell? ⟨w.heap.size + 1, 1, none⟩ = some (.slice none 0 0) := Z1.out.cell 1
              have f2 := Z1.out.frozen 0
              have f3 := Z1.out.frozen 1
              clear hne
              go_wp2_with fail
              refine bodyPost_ret (v := .tuple #[.agg #[.slice Z3 ((n + 1) * Bs.length) d3, .slice Z4 ((n + 1) * Bs.length) d4], .int .i64 0]) (by simp [results, Try.results14, go_sem, f0, f1]) rfl ⟨_, _, _, _, rfl, ⟨by rw [HRR.out], by rw [HRR.out], HC.out.symm⟩, ((HZ.out.storeAt Z1.out 0 _).storeAt (Z1.out.set_ 0 _) 1 _).mono (by omega) (Nat.le_of_eq (by simp [World.setCell])), (BZ.out.setCell (p := ⟨w.heap.size + 1, 0, none⟩) (by show _ ≤ w.heap.size + 1; omega) _).setCell (p := ⟨w.heap.size + 1, 1, none⟩) (by show _ ≤ w.heap.size + 1; omega) _⟩
      · have HC := Lib.hid (show repC A Bs k = 3 by simp [repC, HTB.out, HR.out, hm])
        have hm2 : (8 : Int) < (Bs.length : Int) * k := by omega
        go_wp2_with fail
        have c0 := Chg.refl (w.heap.size + 1) (w.heap.size + 1 + 1) wq
        have c1' := c0.setCell (p := ⟨w.heap.size + 1, 0, none⟩) (Nat.le_refl _) (by simp) (.slice none 0 0)
        have c2' := c1'.setCell (p := ⟨w.heap.size + 1, 1, none⟩) (Nat.le_refl _) (by simp) (.slice none 0 0)
        refine bodyPost_ret (v := .tuple #[.agg #[.slice none 0 0, .slice none 0 0], .int .i64 3]) (by simp [results, Try.results14, go_sem, f0, f1]) rfl ⟨[], [], _, _, rfl, ⟨by rw [show repR A Bs k = ([], []) from by simp [repR, HC.out]], by rw [show repR A Bs k = ([], []) from by simp [repR, HC.out]], HC.out.symm⟩, OT.nil _ _ _, c2'.below BQ.out (by omega) BQ.out.size⟩
end Go.Proofs.Ytbjeibcombjfgaa

