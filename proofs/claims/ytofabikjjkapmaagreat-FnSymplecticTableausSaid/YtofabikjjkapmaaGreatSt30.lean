/- Walk: l12Palindrome of the reference. | Walk (the tableau gauss, with its two stages; printed out of Drt3): tableaus by name (l09Named of the reference). | Walk: DrawRepeatTableau. | Walks: l12Draw and DrawIsSymplectic of the reference. | Walks of helpers of the laws: likeInts, whole9, big. | Walks of helpers of the laws: likeRows5, likeTableau5. -/
import Derived.Test.YtofabikjjkapmaaGreatSt28
import Derived.Test.YtofabikjjkapmaaGreatSt29
import Derived.StillTailTactics
import Derived.Test.YtofabikjjkapmaaGreatSt27
import Derived.Test.YtofabikjjkapmaaGreatSt3
import Derived.Test.YtofabikjjkapmaaGreatSt23
import Derived.Test.YtofabikjjkapmaaGreatSt9
set_option maxRecDepth 100000
set_option linter.unusedVariables false
set_option linter.unusedSimpArgs false
namespace Go.Proofs.YtofabikjjkapmaaGreat
open Go.RowKit

theorem run_min2P {P : Program} (i j m : Nat) (hm : m = min i j) (J : Int) (hJ : J = (j : Int)) (W : World) (ts : Array TypeId) (t : TypeId) : (Builtin.min_ ts t #[.int .i64 (i : Int), .int .i64 J]).run P W = .ok (.int .i64 (m : Int)) W := by
  have h : (if J < (i : Int) then J else (i : Int)) = (m : Int) := by split <;> omega
  rw [← h]
  simp [Builtin.min_, Builtin.min2]
theorem DrS.drew {w0 w : World} {B p q m n : Nat} {va vb : Value} {vs : List Value} (h : DrS w0 w B p q va vb vs m n) (hp : p < w0.heap.size) : DrS w0 w.drew B p q va vb vs m n := by
  have hbd : Below w.heap.size w w.drew := (Below.refl _ _).drew
  exact h.draw hp (gof hbd) (h.src.below hbd)
/-- a row of the tableau that is drawn, by its place; a number of it is read, or stored -/
theorem DrS.rowAt {w0 w : World} {B p q m n : Nat} {va vb : Value} {vs : List Value} (h : DrS w0 w B p q va vb vs m n) (hp : p < w0.heap.size) (hm : 1 ≤ m) (hn : 1 ≤ n) :
    ∃ ga ca, va = .slice (some ⟨ga, 0, none⟩) m ca ∧ ∀ i, i < m → ∃ gi ci, w.cell? ⟨ga, i, none⟩ = some (.slice (some ⟨gi, 0, none⟩) n ci) ∧ ∀ k, k < n → (∃ z, w.cell? ⟨gi, k, none⟩ = some (.int .i64 z) ∧ 0 ≤ z ∧ z ≤ 10006) ∧ w.frozen? ⟨gi, k, none⟩ = false ∧ ∀ z, 0 ≤ z → z ≤ 10006 → DrS w0 (w.setCell ⟨gi, k, none⟩ (.int .i64 z)) B p q va vb vs m n := by
  obtain ⟨rows, Bs, h1, h2, h3⟩ := h.ex
  have hvl := h.lenA
  have hva : ∃ ga ca, va = .slice (some ⟨ga, 0, none⟩) m ca := by
    rcases h1.own.cases with ⟨-, he⟩ | ⟨g, cap, cur, he, -⟩
    · rw [he] at hvl; simp at hvl; omega
    · exact ⟨g, cap, by rw [he, hvl]⟩
  obtain ⟨ga, ca, rfl⟩ := hva
  refine ⟨ga, ca, rfl, fun i hi => ?_⟩
  obtain ⟨u0, hu0, hcg, -, -, -, -, -⟩ := h1.own.storeAt (k := i) (by omega) (.int .i64 0)
  have hir : i < rows.length := by rw [h2.1]; exact hi
  have hx : rows[i]? = some rows[i] := List.getElem?_eq_getElem hir
  have hnl := h2.2 rows[i] (List.getElem_mem hir)
  generalize rows[i] = zs0 at hx hnl
  have hr0 := h1.rows.2.1 i u0 zs0 hu0 hx
  obtain ⟨gi, ci, rfl⟩ := own_openD hr0.1 hnl hn
  refine ⟨gi, ci, hcg, fun k hk => ?_⟩
  have hst := fun z => hr0.1.1.storeAt (k := k) (by rw [ints_len, hnl.1]; exact hk) (.int .i64 z)
  obtain ⟨u1, hu1, hc1, hf1, -, -, -, -⟩ := hst 0
  refine ⟨?_, hf1, fun z z0 z1 => ?_⟩
  · have hk0 : k < zs0.length := by rw [hnl.1]; exact hk
    refine ⟨zs0[k], ?_, hnl.2 _ (List.getElem_mem hk0)⟩
    rw [hc1, ← hu1]
    simp [ints, hk0]
  · obtain ⟨u0', hu0', -, -, -, -, hown', hgr'⟩ := hst z
    have hn' : OwnInts (w.setCell ⟨gi, k, none⟩ (.int .i64 z)) (w0.heap.size + 1) tI (.slice (some ⟨gi, 0, none⟩) n ci) (zs0.set k z) := ⟨by rw [show ints (zs0.set k z) = (ints zs0).set k (.int .i64 z) by simp [ints, List.map_set]]; exact hown', (nl_set hnl ⟨z0, z1⟩ k).in64⟩
    have hR := h1.rows.set (j := i) hu0 hgr' hn'
    have hge := hr0.1.1.ge gi rfl
    have hgq : gi ≠ q := fun e => (hr0.1.1.ne_blk h.blk (by decide)) (by rw [e]; rfl)
    refine ⟨⟨rows.set i (zs0.set k z), Bs, ⟨h1.own.kept hgr' (Own.ne_of_type h1.own hr0.1.1 (by decide)), hR.mono (Nat.le_refl _) hgr'.size, ⟨h1.ws.1.kept hgr' (apFlip (h1.ap i _ hu0)), h1.ws.2⟩, h1.ap⟩, ⟨by rw [List.length_set]; exact h2.1, fun zs hz => ?_⟩, h3⟩, h.blk.far (p := ⟨gi, k, none⟩) (by simpa using fun e => hgq e.symm) _, h.res.far (p := ⟨gi, k, none⟩) (by simp; omega) _, h.ge, gthen h.gr hgr' (by rintro b ⟨⟩; omega), h.src.kept hgr' (by intro e; injection e with e; omega) (by rintro b ⟨⟩; have := h.src.ge; omega)⟩
    rcases List.mem_or_eq_of_mem_set hz with h5 | rfl
    · exact h2.2 _ h5
    · exact nl_set hnl ⟨z0, z1⟩ k
theorem DrS.rowAt' {w0 w : World} {B p q m n ga ca : Nat} {vb : Value} {vs : List Value} (h : DrS w0 w B p q (.slice (some ⟨ga, 0, none⟩) m ca) vb vs m n) (hp : p < w0.heap.size) (hm : 1 ≤ m) (hn : 1 ≤ n) (i : Nat) (hi : i < m) :
    ∃ gi ci, w.cell? ⟨ga, i, none⟩ = some (.slice (some ⟨gi, 0, none⟩) n ci) ∧ ∀ k, k < n → (∃ z, w.cell? ⟨gi, k, none⟩ = some (.int .i64 z) ∧ 0 ≤ z ∧ z ≤ 10006) ∧ w.frozen? ⟨gi, k, none⟩ = false ∧ ∀ z, 0 ≤ z → z ≤ 10006 → DrS w0 (w.setCell ⟨gi, k, none⟩ (.int .i64 z)) B p q (.slice (some ⟨ga, 0, none⟩) m ca) vb vs m n := by
  obtain ⟨ga', ca', he, hr⟩ := h.rowAt hp hm hn
  injection he with e1 e2 e3
  injection e1 with e1
  injection e1 with e1
  subst e1
  subst e3
  exact hr i hi
set_option maxHeartbeats 32000000 in
theorem s_l12Palindrome (w : World) (B p s : Nat) (h : Src w B tSc p) (hm1 : 1 ≤ s) (hm8 : s ≤ 8) :
    Calls Tryz.prog 150 #[at0 p, .int .i64 (s : Nat)] w fun e w' => ∃ v n, e = .returned v ∧ DT w' w.heap.size v n ∧ 1 ≤ n ∧ n ≤ 8 ∧ w.grownBy w' (some p) ∧ Src w' B tSc p := by
  have hpl := h.lt
  have HBp := Lib.hid h.ge
  obtain ⟨W, hW⟩ : ∃ W, W = w.alloc (.cells #[.slice none 0 0, .slice none 0 0] tTb) := ⟨_, rfl⟩
  have HSW := Lib.hid (show W.heap.size = w.heap.size + 1 from by rw [hW]; simp)
  have HKR := Lib.hid (show Blk W w.heap.size tTb #[.slice none 0 0, .slice none 0 0] from by rw [hW]; exact Blk.new _ _ _)
  have HG0 := Lib.hid (show w.grownBy W (some p) from gof (by rw [hW]; exact below1 w _))
  have HS0 := Lib.hid (show Src W B tSc p from h.below (by rw [hW]; exact below1 w _))
  have HF := Lib.hid (fun X => s_l01FracO 2 X (by omega) (by omega))
  have hfb := pw_bd 2 10005
  generalize pw 2 10005 = y2 at *
  have hws : wrap64 ((s : Int) - 1) = (s : Int) - 1 := w64_dr _ (by omega)
  have hws2 : IntKind.i64.wrap ((s : Int) - 1) = (s : Int) - 1 := IntWalk.i64_in _ (by omega)
  clear h
  go_enter Tryz.func150, Tryz.ntmps150
  go_upto_region 1 with fail
  rw [← hW]
  clear hW
  go_upto_region 2 with (go_at_call 125; go_loud (refine (s_l01List W B p s HS0.out (by omega)).mono ?_; rintro e w4 ⟨x4, rfl, zs, ho, lz, nz, hg, hs⟩; obtain ⟨gb, cb, rfl⟩ := own_openD ho ⟨lz, nz⟩ (by omega); have HO4 := Lib.hid ho; have HZ4 := Lib.hid (show Nl s zs from ⟨lz, nz⟩); have HG4 := Lib.hid (gtrans HG0.out hg); have HS4 := Lib.hid hs; have HK4 := Lib.hid (HKR.out.srcD hg (by omega)); have HSZ4 := Lib.hid (show W.heap.size ≤ w4.heap.size from hg.size); clear ho lz nz hg hs))
  have HD0 := Lib.hid (DrS.init HK4.out HG4.out HS4.out HO4.out (by have h2 := HSW.out; omega) HZ4.out)
  clear HO4 HZ4 HG4 HS4 HK4 HSZ4
  generalize w4.heap.size = q at *
  generalize w4.alloc (.cells #[.slice none 0 0, .slice (some ⟨gb, 0, none⟩) s cb] tTb) = W5 at *
  go_wp2_with fail
  go_loopw [6] (fun x wr => ∃ (i : Nat), i ≤ s ∧ x = .int .i64 i ∧ ∃ va vs, Hid (DrS w wr B p q va (.slice (some ⟨gb, 0, none⟩) s cb) vs i s)) (fun x _ => s - (intOf x).toNat)
  case atStart => exact ⟨0, Nat.zero_le _, rfl, _, _, HD0⟩
  case round =>
    obtain ⟨i, hi, rfl, va, vs, HD⟩ := hrel
    rename World => wi
    clear HD0
    have q1 : wi.cell? ⟨q, 1, none⟩ = some (.slice (some ⟨gb, 0, none⟩) s cb) := HD.out.blk.cell 1
    by_cases hlt : i < s
    · have hii : (i : Int) < (s : Int) := by omega
      have hwj : wrap64 ((s : Int) - 1 - (i : Int)) = (s : Int) - 1 - (i : Int) := w64_dr _ (by omega)
      have hwj2 : IntKind.i64.wrap ((s : Int) - 1 - (i : Int)) = (s : Int) - 1 - (i : Int) := IntWalk.i64_in _ (by omega)
      have hmn : min i (s - 1 - i) < s := by omega
      have HMI := fun X ts t => run_min2P (P := Tryz.prog) i (s - 1 - i) (min i (s - 1 - i)) rfl ((s : Int) - 1 - (i : Int)) (by omega) X ts t
      generalize min i (s - 1 - i) = mi at *
      have hmi : (mi : Int) < (s : Int) := by omega
      obtain ⟨z, hc, z0, z1⟩ := HD.out.wcell mi hmn
      obtain ⟨⟨u0, hcg⟩, hfg, hst⟩ := HD.out.setB (k := i) (z := z) hpl hlt ⟨z0, z1⟩
      have HST := Lib.hid hst
      have HST1 := Lib.hid (hst.drew hpl)
      clear hst
      go_upto_region 5 with fail
      go_cut [5] from 14 to 40 (fun x wx => x = .pointer (some ⟨q, 0, none⟩) ∧ Hid (DrS w wx B p q va (.slice (some ⟨gb, 0, none⟩) s cb) vs i s))
      case first =>
        go_region_law (go_simp)
        all_goals
          go_wp2_with fail
          go_meet
          first | exact ⟨rfl, HST1⟩ | exact ⟨rfl, HST⟩
      case rest =>
        obtain ⟨rfl, hcut⟩ := hcut
        rename World => wz
        have HDd := Lib.hid (hcut.out.drew hpl)
        clear hcut
        have HVL := Lib.hid HDd.out.lenA
        obtain ⟨Ava, cva, heva, -, -⟩ := HDd.out.ownA.cells.open_
        rw [HVL.out] at heva
        subst heva
        have q0 : wz.cell? ⟨q, 0, none⟩ = some (.slice Ava i cva) := HDd.out.blk.cell 0
        have HQS := Lib.hid (show w.heap.size + 1 ≤ wz.drew.heap.size from by have h2 := HDd.out.ge; have h3 := HDd.out.blk.lt; omega)
        go_wp2_with fail
        go_region_law (first
          | (refine step_app1 T_row (B := w.heap.size + 1) (v := .slice Ava i cva) (vs := vs) HD5.out.ownA (by rw [HVL.out]; omega) (Nat.le_trans HQS.out hg5.size) (by rfl) rfl (by rfl) (by rfl) (by rfl) ?_; intro v6 w6 hown6 hgr6; obtain ⟨A6, c6, hv6, -, -⟩ := hown6.cells.open_; (rw [List.length_append, HVL.out] at hv6); subst hv6; have hk6 := HD5.out.blk.grow hgr6 (HD5.out.ownA.ne_blk HD5.out.blk (by decide)); have q6 : w6.cell? ⟨q, 0, none⟩ = some (.slice Ava i cva) := hk6.cell 0; have f6 : w6.frozen? ⟨q, 0, none⟩ = false := hk6.frozen 0; clear hk6)
          | (go_simp; go_at_call 125; refine (s_l01List _ B p s HDd.out.src (by omega)).mono ?_; rintro e w5 ⟨x5, rfl, zs5, ho5, lz5, nz5, hg5, hs5⟩; obtain ⟨gr, cr, rfl⟩ := own_openD ho5 ⟨lz5, nz5⟩ (by omega); have HD5 := Lib.hid (HDd.out.draw hpl hg5 hs5); have q5 : w5.cell? ⟨q, 0, none⟩ = some (.slice Ava i cva) := HD5.out.blk.cell 0; have q5a : ∀ o, (w5.alloc o).cell? ⟨q, 0, none⟩ = some (.slice Ava i cva) := fun o => (HD5.out.blk.alloc o).cell 0))
        all_goals
          have HN := Lib.hid (HDd.out.next hpl hg5 hs5 ho5 ⟨lz5, nz5⟩ hown6 hgr6)
          clear hown6 hgr6 ho5 q5 q5a q6 f6
          go_wp2_with fail
          go_roundw
          case rel => exact ⟨i + 1, by omega, by go_num, _, _, HN⟩
          case measure => simp [intOf]; omega
    · have hii : ¬ (i : Int) < (s : Int) := by omega
      have hin : i = s := by omega
      subst hin
      obtain ⟨ga, ca, rfl, -⟩ := HD.out.rowAt hpl hm1 hm1
      go_wp2_with fail
      go_loopw [7] (fun x wr => ∃ (j : Nat), j ≤ i ∧ x = .int .i64 j ∧ Hid (DrS w wr B p q (.slice (some ⟨ga, 0, none⟩) i ca) (.slice (some ⟨gb, 0, none⟩) i cb) vs i i)) (fun x _ => i - (intOf x).toNat)
      case atStart => exact ⟨0, Nat.zero_le _, rfl, HD⟩
      case round =>
        obtain ⟨r, hr, rfl, HR⟩ := hrel
        rename World => wr
        clear HD q1 hi hlt hii
        by_cases hrl : r < i
        · have hri : (r : Int) < (i : Int) := by omega
          go_wp2_with fail
          go_loopw [8] (fun x wr => ∃ (k : Nat), k ≤ i ∧ x = .int .i64 k ∧ Hid (DrS w wr B p q (.slice (some ⟨ga, 0, none⟩) i ca) (.slice (some ⟨gb, 0, none⟩) i cb) vs i i)) (fun x _ => i - (intOf x).toNat)
          case atStart => exact ⟨0, Nat.zero_le _, rfl, HR⟩
          case round =>
            obtain ⟨k, hk, rfl, HK⟩ := hrel
            rename World => wj
            clear HR
            by_cases hkl : k < i
            · have hki : (k : Int) < (i : Int) := by omega
              obtain ⟨j, hj⟩ : ∃ j, j + r + 1 = i := ⟨i - 1 - r, by omega⟩
              obtain ⟨kk, hkk⟩ : ∃ kk, kk + k + 1 = i := ⟨i - 1 - k, by omega⟩
              have hwj : wrap64 ((i : Int) - 1 - (r : Int)) = (j : Int) := by rw [w64_dr _ (by omega)]; omega
              have hwk : wrap64 ((i : Int) - 1 - (k : Int)) = (kk : Int) := by rw [w64_dr _ (by omega)]; omega
              have hwj2 : IntKind.i64.wrap ((i : Int) - 1 - (r : Int)) = (j : Int) := by rw [IntWalk.i64_in _ (by omega)]; omega
              have hwk2 : IntKind.i64.wrap ((i : Int) - 1 - (k : Int)) = (kk : Int) := by rw [IntWalk.i64_in _ (by omega)]; omega
              have hjl : j < i := by omega
              have hkkl : kk < i := by omega
              have hjl' : (j : Int) < (i : Int) := by omega
              have hkkl' : (kk : Int) < (i : Int) := by omega
              have q0 : wj.cell? ⟨q, 0, none⟩ = some (.slice (some ⟨ga, 0, none⟩) i ca) := HK.out.blk.cell 0
              have q1 : wj.cell? ⟨q, 1, none⟩ = some (.slice (some ⟨gb, 0, none⟩) i cb) := HK.out.blk.cell 1
              obtain ⟨z, hc, z0, z1⟩ := HK.out.wcell k hkl
              obtain ⟨gi, ci, hci, hrow⟩ := HK.out.rowAt' hpl hm1 hm1 r hrl
              obtain ⟨⟨y, hy, y0, y1⟩, hfy, hst⟩ := hrow k hkl
              by_cases hjr : j < r
              · have hjr' : (j : Int) < (r : Int) := by omega
                have hjn : ((j : Int) == (r : Int)) = false := by simp; omega
                obtain ⟨gj, cj, hcj, hrowj⟩ := HK.out.rowAt' hpl hm1 hm1 j hjl
                obtain ⟨⟨x, hx, x0, x1⟩, -, -⟩ := hrowj kk hkkl
                have HSB := Lib.hid (fun X => s_l01Sub z x X (by omega) (by omega) (by omega) (by omega))
                have hmb := nume_bd (z - x)
                generalize (z - x) % 10007 = m at *
                have HST := Lib.hid (hst m hmb.1 hmb.2)
                have HST1 := Lib.hid ((hst m hmb.1 hmb.2).drew hpl)
                clear hst hrow hrowj
                go_wp2_with fail
                go_still_tail 24, (by kernel_rfl)
                still_call ((HSB.out _).mono (by rintro e w' ⟨rfl, rfl⟩; exact ⟨rfl, rfl⟩))
                still_step
                refine wpStill_nil ?_
                all_goals
                  go_wp2_with fail
                  go_roundw
                  case rel => exact ⟨k + 1, by omega, by go_num, by first | exact HST1 | exact HST⟩
                  case measure => simp [intOf]; omega
              · have hjr' : ¬ (j : Int) < (r : Int) := by omega
                by_cases hje : j = r ∧ kk ≤ k
                · obtain ⟨hje, hkk1⟩ := hje
                  have hkk1' : (kk : Int) ≤ (k : Int) := by omega
                  have hkkd : decide ((kk : Int) ≤ (k : Int)) = true := decide_eq_true hkk1'
                  have hjb : ((j : Int) == (r : Int)) = true := by simp; omega
                  have hje' : (j : Int) = (r : Int) := by omega
                  obtain ⟨⟨x, hx, x0, x1⟩, -, -⟩ := hrow kk hkkl
                  have HSB := Lib.hid (fun X => s_l01Sub z x X (by omega) (by omega) (by omega) (by omega))
                  have hmb := nume_bd (z - x)
                  generalize (z - x) % 10007 = m at *
                  have HST := Lib.hid (hst m hmb.1 hmb.2)
                  have HST1 := Lib.hid ((hst m hmb.1 hmb.2).drew hpl)
                  clear hst hrow
                  by_cases hke : kk = k
                  · have hxy : x = y := by
                      have h1 := hx
                      rw [hke, hy] at h1
                      simpa using h1.symm
                    subst hxy
                    have hke' : (kk : Int) = (k : Int) := by omega
                    have hkb : ((kk : Int) == (k : Int)) = true := by simp; omega
                    go_wp2_with fail
                    go_still_tail 24, (by kernel_rfl)
                    still_call ((HSB.out _).mono (by rintro e w' ⟨rfl, rfl⟩; exact ⟨rfl, rfl⟩))
                    still_step
                    refine wpStill_nil ?_
                    go_upto_region 19 with fail
                    change Code.wp _ _ _ _ ((wj.setCell ⟨gi, k, none⟩ (.int .i64 m)).drew)
                    generalize (wj.setCell ⟨gi, k, none⟩ (.int .i64 m)).drew = wz at *
                    have HZ := HST1
                    clear HST HST1 HK hci hy hfy hc hx q0 q1
                    have q0 : wz.cell? ⟨q, 0, none⟩ = some (.slice (some ⟨ga, 0, none⟩) i ca) := HZ.out.blk.cell 0
                    have q1 : wz.cell? ⟨q, 1, none⟩ = some (.slice (some ⟨gb, 0, none⟩) i cb) := HZ.out.blk.cell 1
                    obtain ⟨z2, hc2, z20, z21⟩ := HZ.out.wcell k hkl
                    obtain ⟨g2, c2, hci2, hrow2⟩ := HZ.out.rowAt' hpl hm1 hm1 r hrl
                    obtain ⟨⟨yy, hyy, yy0, yy1⟩, hfyy, hst2⟩ := hrow2 k hkl
                    have HMU := Lib.hid (fun X => s_l01Mul z2 y2 X (by omega) (by omega) (by omega) (by omega))
                    have hmb2 := nume_bd (z2 * y2)
                    generalize z2 * y2 % 10007 = m2 at *
                    have HST2 := Lib.hid (hst2 m2 hmb2.1 hmb2.2)
                    have HST3 := Lib.hid ((hst2 m2 hmb2.1 hmb2.2).drew hpl)
                    clear hst2 hrow2
                    go_still_tail 14, (by kernel_rfl)
                    still_call ((HF.out _).mono (by rintro e w' ⟨rfl, rfl⟩; exact ⟨rfl, rfl⟩))
                    still_call ((HMU.out _).mono (by rintro e w' ⟨rfl, rfl⟩; exact ⟨rfl, rfl⟩))
                    still_step
                    refine wpStill_nil ?_
                    go_wp2_with fail
                    go_roundw
                    case rel => exact ⟨k + 1, by omega, by go_num, by first | exact HST3 | exact HST2⟩
                    case measure => simp [intOf]; omega
                  · have hkb : ((kk : Int) == (k : Int)) = false := by simp; omega
                    have hke' : ¬ (kk : Int) = (k : Int) := by omega
                    go_wp2_with fail
                    go_still_tail 24, (by kernel_rfl)
                    still_call ((HSB.out _).mono (by rintro e w' ⟨rfl, rfl⟩; exact ⟨rfl, rfl⟩))
                    still_step
                    refine wpStill_nil ?_
                    go_wp2_with fail
                    go_roundw
                    case rel => exact ⟨k + 1, by omega, by go_num, by first | exact HST1 | exact HST⟩
                    case measure => simp [intOf]; omega
                · by_cases hjq : j = r
                  · have hjb : ((j : Int) == (r : Int)) = true := by simp; omega
                    have hje' : (j : Int) = (r : Int) := by omega
                    have hkk1' : ¬ (kk : Int) ≤ (k : Int) := by omega
                    have hkkd : decide ((kk : Int) ≤ (k : Int)) = false := decide_eq_false hkk1'
                    go_wp2_with fail
                    go_roundw
                    case rel => exact ⟨k + 1, by omega, by go_num, HK⟩
                    case measure => simp [intOf]; omega
                  · have hjb : ((j : Int) == (r : Int)) = false := by simp; omega
                    have hje' : ¬ (j : Int) = (r : Int) := by omega
                    go_wp2_with fail
                    go_roundw
                    case rel => exact ⟨k + 1, by omega, by go_num, HK⟩
                    case measure => simp [intOf]; omega
            · have hki : ¬ (k : Int) < (i : Int) := by omega
              go_wp2_with fail
              go_roundw
              case rel => exact ⟨r + 1, by omega, by go_num, HK⟩
              case measure => simp [intOf]; omega
        · have hri : ¬ (r : Int) < (i : Int) := by omega
          have hrn : r = i := by omega
          subst hrn
          have HD9 := HR
          clear HR
          have HDz := HD9.out
          have q0 : wr.cell? ⟨q, 0, none⟩ = some (.slice (some ⟨ga, 0, none⟩) r ca) := HDz.blk.cell 0
          have q1 : wr.cell? ⟨q, 1, none⟩ = some (.slice (some ⟨gb, 0, none⟩) r cb) := HDz.blk.cell 1
          have p0 : wr.cell? ⟨w.heap.size, 0, none⟩ = some (.slice none 0 0) := HDz.res.cell 0
          have p1 : wr.cell? ⟨w.heap.size, 1, none⟩ = some (.slice none 0 0) := HDz.res.cell 1
          have f0 : wr.frozen? ⟨w.heap.size, 0, none⟩ = false := HDz.res.frozen 0
          have f1 : wr.frozen? ⟨w.heap.size, 1, none⟩ = false := HDz.res.frozen 1
          have HBLK := Lib.hid (show Blk ((wr.setCell ⟨w.heap.size, 0, none⟩ (.slice (some ⟨ga, 0, none⟩) r ca)).setCell ⟨w.heap.size, 1, none⟩ (.slice (some ⟨gb, 0, none⟩) r cb)) w.heap.size tTb #[.slice (some ⟨ga, 0, none⟩) r ca, .slice (some ⟨gb, 0, none⟩) r cb] from by have h := (HDz.res.set_ 0 (.slice (some ⟨ga, 0, none⟩) r ca)).set_ 1 (.slice (some ⟨gb, 0, none⟩) r cb); simpa using h)
          clear HDz
          obtain ⟨hfin, hgf, hsf⟩ := HD9.out.fin hpl
          have HFN := Lib.hid hfin
          have HGF := Lib.hid hgf
          have HSF := Lib.hid hsf
          clear hfin hgf hsf
          go_wp2_with fail
          have g0 : ((wr.setCell ⟨w.heap.size, 0, none⟩ (.slice (some ⟨ga, 0, none⟩) r ca)).setCell ⟨w.heap.size, 1, none⟩ (.slice (some ⟨gb, 0, none⟩) r cb)).cell? ⟨w.heap.size, 0, none⟩ = some (.slice (some ⟨ga, 0, none⟩) r ca) := HBLK.out.cell 0
          have g1 : ((wr.setCell ⟨w.heap.size, 0, none⟩ (.slice (some ⟨ga, 0, none⟩) r ca)).setCell ⟨w.heap.size, 1, none⟩ (.slice (some ⟨gb, 0, none⟩) r cb)).cell? ⟨w.heap.size, 1, none⟩ = some (.slice (some ⟨gb, 0, none⟩) r cb) := HBLK.out.cell 1
          refine bodyPost_ret (v := .agg #[.slice (some ⟨ga, 0, none⟩) r ca, .slice (some ⟨gb, 0, none⟩) r cb]) (by simp [results, Tryz.results150, go_sem, g0, g1]) rfl ⟨_, rfl, _, HFN.out, by omega, by omega, HGF.out, HSF.out⟩
end Go.Proofs.YtofabikjjkapmaaGreat

set_option maxRecDepth 100000
set_option linter.unusedVariables false
set_option linter.unusedSimpArgs false
namespace Go.Proofs.YtofabikjjkapmaaGreat
open Go.RowKit

set_option maxHeartbeats 16000000 in
theorem s_l09NamedG2 (w : World) (str : ByteArray) (hg : (str.toList == [103, 97, 117, 115, 115]) = true) :
    Calls Tryz.prog 151 #[.string str] w fun e w' => ∃ v, e = .returned v ∧ DT w' w.heap.size v 2 ∧ Below w.heap.size w w' := by
  obtain ⟨W, hW⟩ : ∃ W, W = w.alloc (.cells #[.slice none 0 0, .slice none 0 0] tTb) := ⟨_, rfl⟩
  have HSW := Lib.hid (show W.heap.size = w.heap.size + 1 from by rw [hW]; simp)
  have HK := Lib.hid (show Blk W w.heap.size tTb #[.slice none 0 0, .slice none 0 0] from by rw [hW]; exact Blk.new _ _ _)
  have HBW := Lib.hid (show Below w.heap.size w W from by rw [hW]; exact below1 w _)
  have he : (str.toList == [101, 117, 108, 101, 114]) = false := by
    rw [beq_iff_eq] at hg
    rw [hg]
    decide
  go_enter Tryz.func151, Tryz.ntmps151
  go_upto_region 1 with fail
  rw [← hW]
  clear hW
  go_upto_region 7 with (first
    | (go_at_call 198; refine (s_root32 _).mono ?_; rintro e w3 ⟨rfl, rfl⟩)
    | (go_at_call 119; (with_reducible refine (s_l01FracZ _ 1 6 (by omega) (by omega) (by omega) (by omega)).mono ?_); go_loud (rintro e w3 ⟨z, rfl, hz, rfl⟩; obtain ⟨z0, z1⟩ := hz))
    | (go_at_call 176; go_loud (refine (s_l01Mul 1477 z _ (by omega) (by omega) (by omega) (by omega)).mono ?_; rintro e w3 ⟨rfl, rfl⟩; have hm := mod_numD (1477 * z); generalize 1477 * z % 10007 = m at *))
    | (go_at_call 119; (with_reducible refine (s_l01FracZ _ 1 4 (by omega) (by omega) (by omega) (by omega)).mono ?_); go_loud (rintro e w3 ⟨q, rfl, hq, rfl⟩; obtain ⟨q0, q1⟩ := hq)))
  obtain ⟨m0, m1⟩ := hm
  have HS1 := Lib.hid (fun X => s_l01Sub q m X (by omega) (by omega) (by omega) (by omega))
  have HA1 := Lib.hid (fun X => s_l01Add q m X (by omega) (by omega) (by omega) (by omega))
  have hs1 := mod_numD (q - m)
  have ha1 := mod_numD (q + m)
  generalize (q - m) % 10007 = d at *
  generalize (q + m) % 10007 = a at *
  obtain ⟨W3, hW3⟩ : ∃ W3, W3 = ((W.alloc (.cells #[.int .i64 q, .int .i64 d] tI)).alloc (.cells #[.int .i64 a, .int .i64 q] tI)).alloc (.cells #[.slice (some ⟨W.heap.size, 0, none⟩) 2 2, .slice (some ⟨W.heap.size + 1, 0, none⟩) 2 2] tL) := ⟨_, rfl⟩
  obtain ⟨hor, hsq, hb3⟩ := two_rows W q d a q ⟨q0, q1⟩ hs1 ha1 ⟨q0, q1⟩ W3 hW3
  have HOR := Lib.hid hor
  have HSQ := Lib.hid hsq
  have HB3 := Lib.hid (HBW.out.trans (hb3.mono HBW.out.size))
  have HK3 := Lib.hid (HK.out.below hb3 HK.out.lt)
  have HW3 := Lib.hid hW3
  have HSZ3 := Lib.hid (show W.heap.size + 1 + 1 + 1 = W3.heap.size from by rw [hW3]; simp)
  clear hor hsq hb3 hW3 hs1 ha1 z0 z1 m0 m1 he hg
  go_wp2_with (first
    | (go_at_call 184; refine (HS1.out _).mono ?_; rintro e w3 ⟨rfl, rfl⟩)
    | (go_at_call 189; refine (HA1.out _).mono ?_; rintro e w3 ⟨rfl, rfl⟩)
    | (go_at_call 197; rw [← HW3.out, HSZ3.out]; go_loud (refine (s_l09RowA W3 #[.int .i64 1, .int .i64 1] 2 2 rfl rfl (by decide) (by omega) (by omega) (by omega)).mono ?_; rintro e w5 ⟨x5, rfl, us, ho5, hn5, hb5⟩; obtain ⟨A5, c5, rfl, -, -, -⟩ := ho5.ints.open_; have hb5' : Below W3.heap.size W3 w5 := (below1 W3 _).trans (hb5.mono (by omega)); have HK5 := Lib.hid (HK3.out.below hb5' HK3.out.lt); have HO5 := Lib.hid (ho5.mono (Nat.le_succ _)); have HN5 := Lib.hid hn5; have HB5 := Lib.hid (HB3.out.trans (hb5'.mono HB3.out.size)); have HOR5 := Lib.hid (HOR.out.below hb5'); have f0 : w5.cell? ⟨w.heap.size, 0, none⟩ = some (.slice none 0 0) := HK5.out.cell 0; have f1 : w5.cell? ⟨w.heap.size, 1, none⟩ = some (.slice none 0 0) := HK5.out.cell 1; have f2 := HK5.out.frozen 0; have f3 := HK5.out.frozen 1; have HSZ5 := Lib.hid hb5'.size; clear ho5 hn5 hb5 hb5')))
  refine bodyPost_ret (v := .agg #[.slice (some ⟨W.heap.size + 1 + 1, 0, none⟩) 2 2, .slice A5 us.length c5]) (by simp [results, Tryz.results151, go_sem, f0, f1]) rfl ?_
  obtain ⟨p1, p2⟩ := nam_end (n := 2) (g := w.heap.size) (B := W.heap.size) (M := W3.heap.size) HB5.out (Nat.le_refl _) (by have := HSW.out; omega) (by have := HSZ3.out; omega) HSZ5.out HOR5.out HO5.out HSQ.out HN5.out
  exact ⟨_, rfl, p1, p2⟩
end Go.Proofs.YtofabikjjkapmaaGreat

set_option maxRecDepth 100000
set_option linter.unusedVariables false
set_option linter.unusedSimpArgs false
namespace Go.Proofs.YtofabikjjkapmaaGreat
open Go.RowKit

theorem ByB.belowS {w w' : World} {B n : Nat} {A : Option Addr} (h : ByB w B A n) (hB : B ≤ w.heap.size) (hb : Below B w w') : ByB w' B A n := fun k hk => by
  obtain ⟨ad, z, rfl, h1, h2, h3, h4, h5⟩ := h k hk
  exact ⟨ad, z, rfl, h1, Nat.lt_of_lt_of_le h2 hb.size, h3, h4, by rw [hb.cell (by rw [block_add]; exact h1)]; exact h5⟩
theorem ByB.monoS {w : World} {B B' n : Nat} {A : Option Addr} (h : ByB w B A n) (hB : B ≤ B') : ByB w B' A n := fun k hk => by
  obtain ⟨ad, z, rfl, h1, h2⟩ := h k hk
  exact ⟨ad, z, rfl, Nat.lt_of_lt_of_le h1 hB, h2⟩
end Go.Proofs.YtofabikjjkapmaaGreat

set_option maxRecDepth 100000
set_option linter.unusedVariables false
set_option linter.unusedSimpArgs false
namespace Go.Proofs.YtofabikjjkapmaaGreat
open Go.RowKit

theorem stabG_fin {w0 w : World} {p B : Nat} {va vb : Value} {A : List (List Int)} {Bs : List Int} (h1 : Stab w (w0.heap.size + 1) (.agg #[va, vb]) A Bs) (hg : w0.grownBy w (some p)) (hs : Src w B tSc p) (hp : p < w0.heap.size) :
    (∃ A Bs, Stab ((w.setCell ⟨w0.heap.size, 0, none⟩ va).setCell ⟨w0.heap.size, 1, none⟩ vb) w0.heap.size (.agg #[va, vb]) A Bs) ∧ w0.grownBy ((w.setCell ⟨w0.heap.size, 0, none⟩ va).setCell ⟨w0.heap.size, 1, none⟩ vb) (some p) ∧ Src ((w.setCell ⟨w0.heap.size, 0, none⟩ va).setCell ⟨w0.heap.size, 1, none⟩ vb) B tSc p := by
  have c2 := ((Chg.refl 0 (w0.heap.size + 1) w).setCell (p := ⟨w0.heap.size, 0, none⟩) (Nat.zero_le _) (by simp) va).setCell (p := ⟨w0.heap.size, 1, none⟩) (Nat.zero_le _) (by simp) vb
  have g1 := gthen hg (gset w w0.heap.size 0 va) (by rintro b ⟨⟩; omega)
  have g2 := gthen g1 (gset _ w0.heap.size 1 vb) (by rintro b ⟨⟩; omega)
  have s1 := hs.kept (gset w w0.heap.size 0 va) (by intro e; injection e with e; omega) (by rintro b ⟨⟩; have := hs.ge; omega)
  have s2 := s1.kept (gset _ w0.heap.size 1 vb) (by intro e; injection e with e; omega) (by rintro b ⟨⟩; have := hs.ge; omega)
  exact ⟨⟨A, Bs, (h1.step c2).mono (Nat.le_succ _)⟩, g2, s2⟩
/-- a drawn tableau can be read as long as only blocks below it change -/
theorem dt_stab {w : World} {C n : Nat} {v : Value} (h : DT w C v n) : ∃ A Bs, Stab w C v A Bs := by
  obtain ⟨A, Bs, h1, -, -⟩ := h
  exact ⟨A, Bs, fun W hW => (h1.kept hW (.inr (Nat.le_refl _))).arg⟩
set_option maxHeartbeats 16000000 in
theorem s_l12Draw (w : World) (B p : Nat) (h : Src w B tSc p) :
    Calls Tryz.prog 82 #[at0 p] w fun e w' => ∃ v, e = .returned v ∧ (∃ A Bs, Stab w' w.heap.size v A Bs) ∧ w.grownBy w' (some p) ∧ Src w' B tSc p := by
  have hpl := h.lt
  obtain ⟨W, hW⟩ : ∃ W, W = w.alloc (.cells #[.slice none 0 0, .slice none 0 0] tTb) := ⟨_, rfl⟩
  have HSW := Lib.hid (show W.heap.size = w.heap.size + 1 from by rw [hW]; simp)
  have HG0 := Lib.hid (show w.grownBy W (some p) from by rw [hW]; exact gof (below1 w _))
  have HK0 := Lib.hid (show Blk W w.heap.size tTb #[.slice none 0 0, .slice none 0 0] from by rw [hW]; exact Blk.new _ _ _)
  have HS0 := Lib.hid (show Src W B tSc p from by rw [hW]; exact h.below (below1 w _))
  clear h
  go_enter Tryz.func82, Tryz.ntmps82
  go_upto_region 1 with fail
  rw [← hW]
  clear hW
  go_upto_region 2 with (go_at_call 111; (with_reducible refine (s_l01Next W B p 6 HS0.out (by omega) (by omega)).mono ?_); go_loud (rintro e w1 ⟨x, rfl, x0, x1, hg, hs⟩; have HG1 := Lib.hid hg; have HS1 := Lib.hid hs; clear hg hs))
  have HFIN := Lib.hid (fun (X w5 : World) (va vb : Value) (A : List (List Int)) (Bs : List Int) (hg1 : W.grownBy X (some p)) (hg2 : X.grownBy w5 (some p)) (hst : Stab w5 X.heap.size (.agg #[va, vb]) A Bs) (hs : Src w5 B tSc p) => stabG_fin (w0 := w) (hst.mono (by rw [← HSW.out]; exact hg1.size)) (gtrans HG0.out (gtrans hg1 hg2)) hs hpl)
  have HKF := Lib.hid (fun (X : World) (hg1 : W.grownBy X (some p)) => (HK0.out.srcD hg1 (by omega) : Blk X w.heap.size tTb #[.slice none 0 0, .slice none 0 0]))
  have hx : x = 0 ∨ x = 1 ∨ x = 2 ∨ x = 3 ∨ x = 4 ∨ x = 5 := by omega
  clear x0 x1
  obtain rfl | rfl | rfl | rfl | rfl | rfl := hx
  · go_wp2_with (go_at_call 149; go_loud (refine (s_l12Diagonal w1 B p 3 HS1.out (by omega) (by omega)).mono ?_; rintro e w5 ⟨v, n5, rfl, hd, -, -, hg, hs⟩; obtain ⟨X, Bs, hst⟩ := dt_stab hd; clear hd; obtain ⟨Aa, ca, Ab, cb, rfl⟩ := hst.arg.open_; have HST := Lib.hid hst; have HG5 := Lib.hid hg; have HS5 := Lib.hid hs; have HK5 := Lib.hid (HKF.out w5 (gtrans HG1.out HG5.out)); have f0 : w5.cell? ⟨w.heap.size, 0, none⟩ = some (.slice none 0 0) := HK5.out.cell 0; have f1 : w5.cell? ⟨w.heap.size, 1, none⟩ = some (.slice none 0 0) := HK5.out.cell 1; have f2 := HK5.out.frozen 0; have f3 := HK5.out.frozen 1; clear hst hg hs))
    have hf := HFIN.out w1 w5 _ _ _ _ HG1.out HG5.out HST.out HS5.out
    have HBLK := Lib.hid (show Blk ((w5.setCell ⟨w.heap.size, 0, none⟩ (.slice Aa X.length ca)).setCell ⟨w.heap.size, 1, none⟩ (.slice Ab Bs.length cb)) w.heap.size tTb #[.slice Aa X.length ca, .slice Ab Bs.length cb] from by have h := (HK5.out.set_ 0 (.slice Aa X.length ca)).set_ 1 (.slice Ab Bs.length cb); simpa using h)
    have g0 := HBLK.out.cell 0
    have g1 := HBLK.out.cell 1
    simp only [List.getElem?_toArray, List.getElem?_cons_zero, List.getElem?_cons_succ] at g0 g1
    exact bodyPost_ret (v := .agg #[.slice Aa X.length ca, .slice Ab Bs.length cb]) (by simp [results, Tryz.results82, go_sem, g0, g1]) rfl ⟨_, rfl, hf.1, hf.2.1, hf.2.2⟩
  · go_wp2_with (go_at_call 149; go_loud (refine (s_l12Diagonal w1 B p 3 HS1.out (by omega) (by omega)).mono ?_; rintro e w5 ⟨v, n5, rfl, hd, -, -, hg, hs⟩; obtain ⟨X, Bs, hst⟩ := dt_stab hd; clear hd; obtain ⟨Aa, ca, Ab, cb, rfl⟩ := hst.arg.open_; have HST := Lib.hid hst; have HG5 := Lib.hid hg; have HS5 := Lib.hid hs; have HK5 := Lib.hid (HKF.out w5 (gtrans HG1.out HG5.out)); have f0 : w5.cell? ⟨w.heap.size, 0, none⟩ = some (.slice none 0 0) := HK5.out.cell 0; have f1 : w5.cell? ⟨w.heap.size, 1, none⟩ = some (.slice none 0 0) := HK5.out.cell 1; have f2 := HK5.out.frozen 0; have f3 := HK5.out.frozen 1; clear hst hg hs))
    have hf := HFIN.out w1 w5 _ _ _ _ HG1.out HG5.out HST.out HS5.out
    have HBLK := Lib.hid (show Blk ((w5.setCell ⟨w.heap.size, 0, none⟩ (.slice Aa X.length ca)).setCell ⟨w.heap.size, 1, none⟩ (.slice Ab Bs.length cb)) w.heap.size tTb #[.slice Aa X.length ca, .slice Ab Bs.length cb] from by have h := (HK5.out.set_ 0 (.slice Aa X.length ca)).set_ 1 (.slice Ab Bs.length cb); simpa using h)
    have g0 := HBLK.out.cell 0
    have g1 := HBLK.out.cell 1
    simp only [List.getElem?_toArray, List.getElem?_cons_zero, List.getElem?_cons_succ] at g0 g1
    exact bodyPost_ret (v := .agg #[.slice Aa X.length ca, .slice Ab Bs.length cb]) (by simp [results, Tryz.results82, go_sem, g0, g1]) rfl ⟨_, rfl, hf.1, hf.2.1, hf.2.2⟩
  · go_wp2_with (first | (go_at_call 111; (with_reducible refine (s_l01Next w1 B p 4 HS1.out (by omega) (by omega)).mono ?_); go_loud (rintro e w2 ⟨y, rfl, y0, y1, hg, hs⟩; obtain ⟨n0, rfl⟩ : ∃ n0 : Nat, y = n0 := ⟨y.toNat, by omega⟩; have hn4 : n0 < 4 := (by omega); have hwn : wrap64 (1 + (n0 : Int)) = 1 + (n0 : Int) := (by rw [w64_dr _ (by omega)]); have HG2 := Lib.hid (gtrans HG1.out hg); have HS2 := Lib.hid hs; clear hg hs y0 y1)) | (go_at_call 150; go_loud (refine (s_l12Palindrome w2 B p (1 + n0) HS2.out (by omega) (by omega)).mono ?_; rintro e w5 ⟨v, n5, rfl, hd, -, -, hg, hs⟩; obtain ⟨X, Bs, hst⟩ := dt_stab hd; clear hd; obtain ⟨Aa, ca, Ab, cb, rfl⟩ := hst.arg.open_; have HST := Lib.hid hst; have HG5 := Lib.hid hg; have HS5 := Lib.hid hs; have HK5 := Lib.hid (HKF.out w5 (gtrans HG2.out HG5.out)); have f0 : w5.cell? ⟨w.heap.size, 0, none⟩ = some (.slice none 0 0) := HK5.out.cell 0; have f1 : w5.cell? ⟨w.heap.size, 1, none⟩ = some (.slice none 0 0) := HK5.out.cell 1; have f2 := HK5.out.frozen 0; have f3 := HK5.out.frozen 1; clear hst hg hs)))
    have hf := HFIN.out w2 w5 _ _ _ _ HG2.out HG5.out HST.out HS5.out
    have HBLK := Lib.hid (show Blk ((w5.setCell ⟨w.heap.size, 0, none⟩ (.slice Aa X.length ca)).setCell ⟨w.heap.size, 1, none⟩ (.slice Ab Bs.length cb)) w.heap.size tTb #[.slice Aa X.length ca, .slice Ab Bs.length cb] from by have h := (HK5.out.set_ 0 (.slice Aa X.length ca)).set_ 1 (.slice Ab Bs.length cb); simpa using h)
    have g0 := HBLK.out.cell 0
    have g1 := HBLK.out.cell 1
    simp only [List.getElem?_toArray, List.getElem?_cons_zero, List.getElem?_cons_succ] at g0 g1
    exact bodyPost_ret (v := .agg #[.slice Aa X.length ca, .slice Ab Bs.length cb]) (by simp [results, Tryz.results82, go_sem, g0, g1]) rfl ⟨_, rfl, hf.1, hf.2.1, hf.2.2⟩
  · go_wp2_with (go_at_call 151; go_loud (refine (s_l09NamedG2 w1 _ (by simp [ByteArray.toList, ByteArray.toList.loop, ByteArray.size, ByteArray.get!])).mono ?_; rintro e w5 ⟨v, rfl, hd, hb5⟩; obtain ⟨X, Bs, hst⟩ := dt_stab hd; have hg : w1.grownBy w5 (some p) := gof hb5; have hs := HS1.out.below hb5; clear hd hb5; obtain ⟨Aa, ca, Ab, cb, rfl⟩ := hst.arg.open_; have HST := Lib.hid hst; have HG5 := Lib.hid hg; have HS5 := Lib.hid hs; have HK5 := Lib.hid (HKF.out w5 (gtrans HG1.out HG5.out)); have f0 : w5.cell? ⟨w.heap.size, 0, none⟩ = some (.slice none 0 0) := HK5.out.cell 0; have f1 : w5.cell? ⟨w.heap.size, 1, none⟩ = some (.slice none 0 0) := HK5.out.cell 1; have f2 := HK5.out.frozen 0; have f3 := HK5.out.frozen 1; clear hst hg hs))
    have hf := HFIN.out w1 w5 _ _ _ _ HG1.out HG5.out HST.out HS5.out
    have HBLK := Lib.hid (show Blk ((w5.setCell ⟨w.heap.size, 0, none⟩ (.slice Aa X.length ca)).setCell ⟨w.heap.size, 1, none⟩ (.slice Ab Bs.length cb)) w.heap.size tTb #[.slice Aa X.length ca, .slice Ab Bs.length cb] from by have h := (HK5.out.set_ 0 (.slice Aa X.length ca)).set_ 1 (.slice Ab Bs.length cb); simpa using h)
    have g0 := HBLK.out.cell 0
    have g1 := HBLK.out.cell 1
    simp only [List.getElem?_toArray, List.getElem?_cons_zero, List.getElem?_cons_succ] at g0 g1
    exact bodyPost_ret (v := .agg #[.slice Aa X.length ca, .slice Ab Bs.length cb]) (by simp [results, Tryz.results82, go_sem, g0, g1]) rfl ⟨_, rfl, hf.1, hf.2.1, hf.2.2⟩
  · go_wp2_with (go_at_call 152; go_loud (refine (s_l09Spoil w1 B p 4 HS1.out (by omega) (by omega)).mono ?_; rintro e w5 ⟨v, rfl, ⟨X, Bs, hst⟩, hg, hs⟩; obtain ⟨Aa, ca, Ab, cb, rfl⟩ := hst.arg.open_; have HST := Lib.hid hst; have HG5 := Lib.hid hg; have HS5 := Lib.hid hs; have HK5 := Lib.hid (HKF.out w5 (gtrans HG1.out HG5.out)); have f0 : w5.cell? ⟨w.heap.size, 0, none⟩ = some (.slice none 0 0) := HK5.out.cell 0; have f1 : w5.cell? ⟨w.heap.size, 1, none⟩ = some (.slice none 0 0) := HK5.out.cell 1; have f2 := HK5.out.frozen 0; have f3 := HK5.out.frozen 1; clear hst hg hs))
    have hf := HFIN.out w1 w5 _ _ _ _ HG1.out HG5.out HST.out HS5.out
    have HBLK := Lib.hid (show Blk ((w5.setCell ⟨w.heap.size, 0, none⟩ (.slice Aa X.length ca)).setCell ⟨w.heap.size, 1, none⟩ (.slice Ab Bs.length cb)) w.heap.size tTb #[.slice Aa X.length ca, .slice Ab Bs.length cb] from by have h := (HK5.out.set_ 0 (.slice Aa X.length ca)).set_ 1 (.slice Ab Bs.length cb); simpa using h)
    have g0 := HBLK.out.cell 0
    have g1 := HBLK.out.cell 1
    simp only [List.getElem?_toArray, List.getElem?_cons_zero, List.getElem?_cons_succ] at g0 g1
    exact bodyPost_ret (v := .agg #[.slice Aa X.length ca, .slice Ab Bs.length cb]) (by simp [results, Tryz.results82, go_sem, g0, g1]) rfl ⟨_, rfl, hf.1, hf.2.1, hf.2.2⟩
  · go_wp2_with (go_at_call 152; go_loud (refine (s_l09Spoil w1 B p 4 HS1.out (by omega) (by omega)).mono ?_; rintro e w5 ⟨v, rfl, ⟨X, Bs, hst⟩, hg, hs⟩; obtain ⟨Aa, ca, Ab, cb, rfl⟩ := hst.arg.open_; have HST := Lib.hid hst; have HG5 := Lib.hid hg; have HS5 := Lib.hid hs; have HK5 := Lib.hid (HKF.out w5 (gtrans HG1.out HG5.out)); have f0 : w5.cell? ⟨w.heap.size, 0, none⟩ = some (.slice none 0 0) := HK5.out.cell 0; have f1 : w5.cell? ⟨w.heap.size, 1, none⟩ = some (.slice none 0 0) := HK5.out.cell 1; have f2 := HK5.out.frozen 0; have f3 := HK5.out.frozen 1; clear hst hg hs))
    have hf := HFIN.out w1 w5 _ _ _ _ HG1.out HG5.out HST.out HS5.out
    have HBLK := Lib.hid (show Blk ((w5.setCell ⟨w.heap.size, 0, none⟩ (.slice Aa X.length ca)).setCell ⟨w.heap.size, 1, none⟩ (.slice Ab Bs.length cb)) w.heap.size tTb #[.slice Aa X.length ca, .slice Ab Bs.length cb] from by have h := (HK5.out.set_ 0 (.slice Aa X.length ca)).set_ 1 (.slice Ab Bs.length cb); simpa using h)
    have g0 := HBLK.out.cell 0
    have g1 := HBLK.out.cell 1
    simp only [List.getElem?_toArray, List.getElem?_cons_zero, List.getElem?_cons_succ] at g0 g1
    exact bodyPost_ret (v := .agg #[.slice Aa X.length ca, .slice Ab Bs.length cb]) (by simp [results, Tryz.results82, go_sem, g0, g1]) rfl ⟨_, rfl, hf.1, hf.2.1, hf.2.2⟩
set_option maxHeartbeats 8000000 in
theorem s_DrawIsSymplectic (w : World) (A : Option Addr) (N c : Nat) (hb : ByB w w.heap.size A N) (hN : N ≤ 4096) :
    Calls Tryz.prog 35 #[.slice A N c] w fun e w' => ∃ v, e = .returned v ∧ (∃ X Bs, TabArg w' v X Bs) ∧ Below w.heap.size w w' := by
  obtain ⟨W, hW⟩ : ∃ W, W = w.alloc (.cells #[.slice none 0 0, .slice none 0 0] tTb) := ⟨_, rfl⟩
  have HSW := Lib.hid (show W.heap.size = w.heap.size + 1 from by rw [hW]; simp)
  have HBW := Lib.hid (show Below w.heap.size w W from by rw [hW]; exact below1 w _)
  have HKR := Lib.hid (show Blk W w.heap.size tTb #[.slice none 0 0, .slice none 0 0] from by rw [hW]; exact Blk.new _ _ _)
  have HFR := Lib.hid (s_l01From W A N c ((hb.belowS (Nat.le_refl _) HBW.out).monoS HBW.out.size) hN)
  clear hb
  go_enter Tryz.func35, Tryz.ntmps35
  go_upto_region 1 with fail
  rw [← hW]
  clear hW
  go_wp2_with (first
    | (go_at_call 68; go_loud (refine HFR.out.mono ?_; rintro e w1 ⟨p, rfl, hs1, hb1⟩; have HS1 := Lib.hid hs1; have HB1 := Lib.hid (HBW.out.trans (hb1.mono HBW.out.size)); have HK1 := Lib.hid (HKR.out.below hb1 HKR.out.lt); have hpg := hs1.ge; have hpl := hs1.lt; have HPW := Lib.hid (show w.heap.size < p from by have := HSW.out; omega); clear hs1 hb1))
    | (go_at_call 82; go_loud (refine (s_l12Draw w1 W.heap.size p HS1.out).mono ?_; rintro e w2 ⟨v, rfl, ⟨X, Bs, hst⟩, hg, hs⟩; obtain ⟨Aa, ca, Ab, cb, rfl⟩ := hst.arg.open_; have HST := Lib.hid hst; have HG2 := Lib.hid hg; have HK2 := Lib.hid (HK1.out.srcD hg (by have := HPW.out; omega)); have f0 : w2.cell? ⟨w.heap.size, 0, none⟩ = some (.slice none 0 0) := HK2.out.cell 0; have f1 : w2.cell? ⟨w.heap.size, 1, none⟩ = some (.slice none 0 0) := HK2.out.cell 1; have f2 := HK2.out.frozen 0; have f3 := HK2.out.frozen 1; clear hst hg hs)))
  have HBLK := Lib.hid (show Blk ((w2.setCell ⟨w.heap.size, 0, none⟩ (.slice Aa X.length ca)).setCell ⟨w.heap.size, 1, none⟩ (.slice Ab Bs.length cb)) w.heap.size tTb #[.slice Aa X.length ca, .slice Ab Bs.length cb] from by have h := (HK2.out.set_ 0 (.slice Aa X.length ca)).set_ 1 (.slice Ab Bs.length cb); simpa using h)
  have c2 := ((Chg.refl 0 w1.heap.size w2).setCell (p := ⟨w.heap.size, 0, none⟩) (Nat.zero_le _) (by have := HPW.out; simp; omega) (.slice Aa X.length ca)).setCell (p := ⟨w.heap.size, 1, none⟩) (Nat.zero_le _) (by have := HPW.out; simp; omega) (.slice Ab Bs.length cb)
  have HT := Lib.hid (HST.out.step c2).arg
  have HB := Lib.hid (((HB1.out.grown HG2.out (by have := HPW.out; omega) (fun b e => by injection e with e; have := HPW.out; omega)).setCell (p := ⟨w.heap.size, 0, none⟩) (Nat.le_refl _) (.slice Aa X.length ca)).setCell (p := ⟨w.heap.size, 1, none⟩) (Nat.le_refl _) (.slice Ab Bs.length cb))
  have g0 := HBLK.out.cell 0
  have g1 := HBLK.out.cell 1
  simp only [List.getElem?_toArray, List.getElem?_cons_zero, List.getElem?_cons_succ] at g0 g1
  exact bodyPost_ret (v := .agg #[.slice Aa X.length ca, .slice Ab Bs.length cb]) (by simp [results, Tryz.results35, go_sem, g0, g1]) rfl ⟨_, rfl, ⟨X, Bs, HT.out⟩, HB.out⟩
end Go.Proofs.YtofabikjjkapmaaGreat

set_option maxRecDepth 100000
set_option linter.unusedVariables false
set_option linter.unusedSimpArgs false
namespace Go.Proofs.YtofabikjjkapmaaGreat
open Go.RowKit

set_option maxHeartbeats 400000 in
theorem l_big (w : World) (A : Option Addr) (n c : Nat) :
    Calls Tryz.prog 6 #[.slice A n c] w fun e w' => e = .returned (.bool (decide (4096 < n))) ∧ w = w' := by
  by_cases h : 4096 < n
  · have hd : (4096 : Int) < (n : Int) := by omega
    have HD := Lib.hid (show decide (4096 < n) = true by simp [h])
    clear h
    go_enter Tryz.func6, Tryz.ntmps6
    go_wp2_with fail
    go_ret
    exact ⟨ret_bool HD.out.symm, rfl⟩
  · have hd : ¬ ((4096 : Int) < (n : Int)) := by omega
    have HD := Lib.hid (show decide (4096 < n) = false by simp [h])
    clear h
    go_enter Tryz.func6, Tryz.ntmps6
    go_wp2_with fail
    go_ret
    exact ⟨ret_bool HD.out.symm, rfl⟩
end Go.Proofs.YtofabikjjkapmaaGreat

set_option maxRecDepth 100000
set_option linter.unusedVariables false
set_option linter.unusedSimpArgs false
namespace Go.Proofs.YtofabikjjkapmaaGreat
open Go.RowKit

end Go.Proofs.YtofabikjjkapmaaGreat

