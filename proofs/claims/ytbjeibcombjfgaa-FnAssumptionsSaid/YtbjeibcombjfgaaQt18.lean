/- Walk: l09Draw of the reference. | Spoilt tableaus (l09Spoil of the reference), in plain words of memory. No program in sight. -/
import Derived.Test.YtbjeibcombjfgaaQt17
import Derived.Test.YtbjeibcombjfgaaQt13
set_option maxRecDepth 100000
set_option linter.unusedVariables false
set_option linter.unusedSimpArgs false
namespace Go.Proofs.Ytbjeibcombjfgaa
open Go.RowKit

theorem addr_addT (g n : Nat) : (⟨g, 0, none⟩ : Addr).add n = ⟨g, n, none⟩ := by by_cases h0 : n = 0 <;> simp [Addr.add, h0]
theorem DT.below {w w' : World} {B n : Nat} {v : Value} (h : DT w B v n) (hb : Below w.heap.size w w') : DT w' B v n := by
  obtain ⟨A, Bs, h1, h2, h3⟩ := h
  exact ⟨A, Bs, (h1.below hb).mono (Nat.le_refl _) hb.size, h2, h3⟩
theorem DT.arg {w : World} {B n : Nat} {v : Value} (h : DT w B v n) : ∃ A Bs, TabArg w v A Bs := by
  obtain ⟨A, Bs, h1, h2, h3⟩ := h
  exact ⟨A, Bs, h1.arg⟩
theorem DT.open_ {w : World} {B n : Nat} {v : Value} (h : DT w B v n) : ∃ Aa ca Ab cb, v = .agg #[.slice Aa n ca, .slice Ab n cb] := by
  obtain ⟨A, Bs, h1, h2, h3⟩ := h
  obtain ⟨Aa, ca, Ab, cb, rfl⟩ := h1.open_
  rw [h2.1, h3.1]
  exact ⟨_, _, _, _, rfl⟩
/-- a tableau stored into an older block -/
theorem DT.store {w : World} {C g n : Nat} {x y : Value} (h : DT w C (.agg #[x, y]) n) (hg : g < C) : DT ((w.setCell ⟨g, 0, none⟩ x).setCell ⟨g, 1, none⟩ y) g (.agg #[x, y]) n := by
  obtain ⟨A, Bs, h1, h2, h3⟩ := h
  have c0 := Chg.refl g (g + 1) w
  have c1 := c0.setCell (p := ⟨g, 0, none⟩) (Nat.le_refl _) (by simp) x
  have c2 := c1.setCell (p := ⟨g, 1, none⟩) (Nat.le_refl _) (by simp) y
  exact ⟨A, Bs, (h1.kept c2 (.inr (by omega))).mono (by omega) c2.size, h2, h3⟩
set_option maxHeartbeats 2000000 in
theorem s_TableauNames (w : World) : Calls Try.prog 179 #[] w fun e w' => e = .returned (.slice (some ⟨w.heap.size, 0, none⟩) 12 12) ∧ (∀ k, k < 12 → ∃ str, w'.cell? ⟨w.heap.size, k, none⟩ = some (.string str)) ∧ Below w.heap.size w w' := by
  go_enter Try.func179, Try.ntmps179
  go_wp2_with fail
  go_ret
  refine ⟨rfl, fun k hk => ?_, below1 w _⟩
  have hc := heap_alloc_new w
  obtain rfl | rfl | rfl | rfl | rfl | rfl | rfl | rfl | rfl | rfl | rfl | rfl : k = 0 ∨ k = 1 ∨ k = 2 ∨ k = 3 ∨ k = 4 ∨ k = 5 ∨ k = 6 ∨ k = 7 ∨ k = 8 ∨ k = 9 ∨ k = 10 ∨ k = 11 := by omega
  all_goals exact ⟨_, (Blk.new w _ _).cell _⟩
theorem cellD {w w' : World} {p : Nat} {ad : Addr} {u : Value} (hg : w.grownBy w' (some p)) (hne : ad.block ≠ p) (h : w.cell? ad = some u) : w'.cell? ad = some u := by
  have hb : w'.heap[ad.block]? = w.heap[ad.block]? := hg.block ad.block (World.block_lt_of_cell? w _ h) (fun e => hne (by injection e))
  rw [← h]
  unfold World.cell?
  rw [hb]
theorem DrS.init {w w4 : World} {B p n C : Nat} {vb : Value} {zs : List Int} (hk : Blk w4 w.heap.size tTb #[.slice none 0 0, .slice none 0 0]) (hg : w.grownBy w4 (some p)) (hs : Src w4 B tSc p) (ho : OwnInts w4 C tI vb zs) (hC : w.heap.size + 1 ≤ C) (hz : Nl n zs) :
    DrS w (w4.alloc (.cells #[.slice none 0 0, vb] tTb)) B p w4.heap.size (.slice none 0 0) vb [] 0 n := by
  have hb := below1 w4 (.cells #[.slice none 0 0, vb] tTb)
  have hlt := hk.lt
  exact ⟨⟨[], zs, ⟨Own.nil _ _ _, RowsOwn.nil _ _ _ _, (ho.mono hC).below hb, fun k u hu => by simp at hu⟩, Sqm.nil _, hz⟩, Blk.new _ _ _, hk.below hb hlt, by omega, gtrans hg (gof hb), hs.below hb⟩
/-- a row that is drawn and zeroed in part -/
def RwS (wi wx : World) (B p : Nat) (r : Value) (n : Nat) : Prop := (∃ zs, OwnInts wx wi.heap.size tI r zs ∧ Nl n zs) ∧ wi.grownBy wx (some p) ∧ Src wx B tSc p
theorem RwS.store {wi wx : World} {B p g n cap k : Nat} (h : RwS wi wx B p (.slice (some ⟨g, 0, none⟩) n cap) n) (hp : p < wi.heap.size) (hk : k < n) :
    (∃ u0, wx.cell? ⟨g, k, none⟩ = some u0) ∧ wx.frozen? ⟨g, k, none⟩ = false ∧ RwS wi (wx.setCell ⟨g, k, none⟩ (.int .i64 0)) B p (.slice (some ⟨g, 0, none⟩) n cap) n := by
  obtain ⟨⟨zs, ho, hz⟩, hg, hs⟩ := h
  obtain ⟨u0, hu0, hcg, hfg, hg2, hg1, hown', hgr⟩ := ho.1.storeAt (k := k) (by rw [ints_len, hz.1]; exact hk) (.int .i64 0)
  refine ⟨⟨u0, hcg⟩, hfg, ⟨zs.set k 0, ⟨?_, (nl_set hz (by omega) k).in64⟩, nl_set hz (by omega) k⟩, gthen hg hgr (by rintro b ⟨⟩; omega), hs.kept hgr (by intro e; injection e with e; omega) (by rintro b ⟨⟩; have := hs.ge; omega)⟩
  rw [show ints (zs.set k 0) = (ints zs).set k (.int .i64 0) by simp [ints, List.map_set]]
  exact hown'
set_option maxHeartbeats 32000000 in
theorem s_l09Draw (w : World) (B p most : Nat) (h : Src w B tSc p) (hm1 : 1 ≤ most) (hm8 : most ≤ 8) :
    Calls Try.prog 113 #[at0 p, .int .i64 (most : Nat)] w fun e w' => ∃ v n, e = .returned v ∧ DT w' w.heap.size v n ∧ 1 ≤ n ∧ n ≤ 8 ∧ w.grownBy w' (some p) ∧ Src w' B tSc p := by
  have hpl := h.lt
  have HBp := Lib.hid h.ge
  obtain ⟨W, hW⟩ : ∃ W, W = w.alloc (.cells #[.slice none 0 0, .slice none 0 0] tTb) := ⟨_, rfl⟩
  have HSW := Lib.hid (show W.heap.size = w.heap.size + 1 from by rw [hW]; simp)
  have HKR := Lib.hid (show Blk W w.heap.size tTb #[.slice none 0 0, .slice none 0 0] from by rw [hW]; exact Blk.new _ _ _)
  have HG0 := Lib.hid (show w.grownBy W (some p) from gof (by rw [hW]; exact below1 w _))
  have HS0 := Lib.hid (show Src W B tSc p from h.below (by rw [hW]; exact below1 w _))
  clear h
  go_enter Try.func113, Try.ntmps113
  go_upto_region 1 with fail
  rw [← hW]
  clear hW
  go_cut [20] (fun v wx => (∃ b, v = .bool b) ∧ W.grownBy wx (some p) ∧ Src wx B tSc p)
  case first =>
    by_cases h4 : 4 ≤ most
    · have h4i : (4 : Int) ≤ (most : Int) := by omega
      have h4d : decide (4 ≤ most) = true := decide_eq_true h4
      go_wp2_with (go_at_call 114; go_loud (refine (s_l01Next _ B p 2 HS0.out (by omega) (by omega)).mono ?_; rintro e w1 ⟨x, rfl, x0, x1, hg, hs⟩; have HG1 := Lib.hid hg; have HS1 := Lib.hid hs; clear hg hs x0 x1))
      go_meet
      exact ⟨⟨_, rfl⟩, HG1.out, HS1.out⟩
    · have h4i : ¬ (4 : Int) ≤ (most : Int) := by omega
      have h4d : decide (4 ≤ most) = false := decide_eq_false h4
      go_wp2_with fail
      go_meet
      exact ⟨⟨_, rfl⟩, World.grownBy.refl _ _, HS0.out⟩
  case rest =>
    obtain ⟨⟨bb, rfl⟩, hg, hs⟩ := hcut
    rename World => w1
    have HG1 := Lib.hid (gtrans HG0.out hg)
    have HS1 := Lib.hid hs
    have HK1 := Lib.hid (HKR.out.srcD hg (by omega))
    have HSZ1 := Lib.hid (show W.heap.size ≤ w1.heap.size from hg.size)
    clear hg hs HKR HG0 HS0
    cases bb with
    | true =>
      have hw1 : w.heap.size < w1.heap.size := by have := HSZ1.out; have := HSW.out; omega
      go_wp2_with (first
        | (go_at_call 179; go_loud (refine (s_TableauNames _).mono ?_; rintro e w2 ⟨rfl, hn, hb2⟩; have HN := Lib.hid hn; have HG2 := Lib.hid (gtrans HG1.out (gof hb2)); have HS2 := Lib.hid (HS1.out.below hb2); have HK2 := Lib.hid (HK1.out.below hb2 HK1.out.lt); have hsz2 := hb2.size; clear hn hb2))
        | (go_at_call 114; go_loud (refine (s_l01Next _ B p 12 HS2.out (by omega) (by omega)).mono ?_; rintro e w3 ⟨x, rfl, x0, x1, hg, hs⟩; obtain ⟨k, rfl⟩ : ∃ k : Nat, x = k := ⟨x.toNat, by omega⟩; have hk12 : (k : Int) < 12 := x1; obtain ⟨str, hstr⟩ := HN.out k (by omega); have hc3 : w3.cell? ⟨w1.heap.size, k, none⟩ = some (.string str) := (by rw [cellD hg (by simp; omega) hstr]); have HG3 := Lib.hid (gtrans HG2.out hg); have HS3 := Lib.hid hs; have HK3 := Lib.hid (HK2.out.srcD hg (by omega)); have hsz3 : w.heap.size < w3.heap.size := (by have := hg.size; omega); clear hstr hg hs x0 x1))
        | (go_at_call 180; go_loud (refine (s_l09Named _ str).mono ?_; rintro e w4 ⟨v4, n4, rfl, hd4, hn1, hn4, hb4⟩; obtain ⟨Aa, ca, Ab, cb, rfl⟩ := hd4.open_; have HD4 := Lib.hid hd4; have HG4 := Lib.hid (gtrans HG3.out (gof hb4)); have HS4 := Lib.hid (HS3.out.below hb4); have HK4 := Lib.hid (HK3.out.below hb4 HK3.out.lt); have f0 : w4.cell? ⟨w.heap.size, 0, none⟩ = some (.slice none 0 0) := HK4.out.cell 0; have f1 : w4.cell? ⟨w.heap.size, 1, none⟩ = some (.slice none 0 0) := HK4.out.cell 1; have f2 := HK4.out.frozen 0; have f3 := HK4.out.frozen 1; clear hd4 hb4)))
      have g1 := gthen HG4.out (gset w4 w.heap.size 0 (.slice Aa n4 ca)) (by rintro b ⟨⟩; omega)
      have g2 := gthen g1 (gset _ w.heap.size 1 (.slice Ab n4 cb)) (by rintro b ⟨⟩; omega)
      have s1 := HS4.out.kept (gset w4 w.heap.size 0 (.slice Aa n4 ca)) (by intro e; injection e with e; omega) (by rintro b ⟨⟩; have := HBp.out; omega)
      have s2 := s1.kept (gset _ w.heap.size 1 (.slice Ab n4 cb)) (by intro e; injection e with e; omega) (by rintro b ⟨⟩; have := HBp.out; omega)
      refine bodyPost_ret (v := .agg #[.slice Aa n4 ca, .slice Ab n4 cb]) (by simp [results, Try.results113, go_sem, f0, f1]) rfl ⟨_, n4, rfl, HD4.out.store hsz3, hn1, by omega, g2, s2⟩
    | false =>
      go_upto_region 5 with (first
        | (go_at_call 114; (with_reducible refine (s_l01Next w1 B p (most : Nat) HS1.out (by omega) (by omega)).mono ?_); go_loud (rintro e w2 ⟨x, rfl, x0, x1, hg, hs⟩; obtain ⟨n0, rfl⟩ : ∃ n0 : Nat, x = n0 := ⟨x.toNat, by omega⟩; have hn8 : n0 + 1 ≤ 8 := (by omega); have hwn : wrap64 (1 + (n0 : Int)) = 1 + (n0 : Int) := (by rw [w64_dr _ (by omega)]); have HG2 := Lib.hid (gtrans HG1.out hg); have HS2 := Lib.hid hs; have HK2 := Lib.hid (HK1.out.srcD hg (by omega)); have HSZ2 := Lib.hid (Nat.le_trans HSZ1.out hg.size); clear hg hs x0 x1))
        | (go_at_call 114; (with_reducible refine (s_l01Next w2 B p 3 HS2.out (by omega) (by omega)).mono ?_); go_loud (rintro e w3 ⟨kd, rfl, x0, x1, hg, hs⟩; have HG3 := Lib.hid (gtrans HG2.out hg); have HS3 := Lib.hid hs; have HK3 := Lib.hid (HK2.out.srcD hg (by omega)); have HSZ3 := Lib.hid (Nat.le_trans HSZ2.out hg.size); clear hg hs x0 x1)))
      go_upto_region 6 with (go_at_call 181; go_loud (refine (s_l01List w3 B p (1 + n0) HS3.out (by omega)).mono ?_; rintro e w4 ⟨x4, rfl, zs, ho, lz, nz, hg, hs⟩; obtain ⟨gb, cb, rfl⟩ := own_openD ho ⟨lz, nz⟩ (by omega); have HO4 := Lib.hid ho; have HZ4 := Lib.hid (show Nl (1 + n0) zs from ⟨lz, nz⟩); have HG4 := Lib.hid (gtrans HG3.out hg); have HS4 := Lib.hid hs; have HK4 := Lib.hid (HK3.out.srcD hg (by omega)); have HSZ4 := Lib.hid (Nat.le_trans HSZ3.out hg.size); clear ho lz nz hg hs))
      have HD0 := Lib.hid (DrS.init HK4.out HG4.out HS4.out HO4.out (by have h1 := HSZ3.out; have h2 := HSW.out; omega) HZ4.out)
      clear HO4 HZ4 HG4 HS4 HK4 HSZ4 HG3 HS3 HK3 HSZ3 HG2 HS2 HK2 HSZ2 HG1 HS1 HK1 HSZ1
      go_wp2_with fail
      generalize w4.heap.size = q at *
      generalize w4.alloc (.cells #[.slice none 0 0, .slice (some ⟨gb, 0, none⟩) (1 + n0) cb] tTb) = W5 at *
      go_loopw [9] (fun x wr => ∃ (i : Nat), i ≤ 1 + n0 ∧ x = .int .i64 i ∧ ∃ va vs, Hid (DrS w wr B p q va (.slice (some ⟨gb, 0, none⟩) (1 + n0) cb) vs i (1 + n0))) (fun x _ => 1 + n0 - (intOf x).toNat)
      case atStart => exact ⟨0, Nat.zero_le _, rfl, _, _, HD0⟩
      case round =>
        obtain ⟨i, hi, rfl, va, vs, HD⟩ := hrel
        rename World => wi
        clear HD0
        by_cases hlt : i < 1 + n0
        · have hii : (i : Int) < 1 + (n0 : Int) := by omega
          have hpi : p < wi.heap.size := by have h1 := HD.out.gr.size; omega
          have HPI := Lib.hid hpi
          clear hpi
          go_wp2_with (go_at_call 181; go_loud (refine (s_l01List wi B p (1 + n0) HD.out.src (by omega)).mono ?_; rintro e w6 ⟨x6, rfl, zs6, ho, lz, nz, hg, hs⟩; obtain ⟨gr, cr, rfl⟩ := own_openD ho ⟨lz, nz⟩ (by omega); have HR6 := Lib.hid (show RwS wi w6 B p (.slice (some ⟨gr, 0, none⟩) (1 + n0) cr) (1 + n0) from ⟨⟨_, ho, lz, nz⟩, hg, hs⟩); clear ho lz nz hg hs))
          go_loopw [11] (fun x wr => ∃ (k : Nat), k ≤ 1 + n0 ∧ x = .int .i64 k ∧ Hid (RwS wi wr B p (.slice (some ⟨gr, 0, none⟩) (1 + n0) cr) (1 + n0))) (fun x _ => 1 + n0 - (intOf x).toNat)
          case atStart => exact ⟨0, Nat.zero_le _, rfl, HR6⟩
          case round =>
            obtain ⟨k, hk, rfl, HR⟩ := hrel
            rename World => wj
            clear HR6
            by_cases hlk : k < 1 + n0
            · have hkk : (k : Int) < 1 + (n0 : Int) := by omega
              obtain ⟨⟨u0, hcg⟩, hfg, hst⟩ := HR.out.store HPI.out hlk
              have HST := Lib.hid hst
              clear hst
              by_cases hk0 : kd = 0
              · have hkd : decide (kd = 0) = true := decide_eq_true hk0
                by_cases hc1 : i ≤ k
                · have hcc : (i : Int) ≤ (k : Int) := by omega
                  go_wp2_with fail
                  go_roundw
                  case rel => exact ⟨k + 1, by omega, by go_num, HST⟩
                  case measure => simp [intOf]; omega
                · have hcc : ¬ (i : Int) ≤ (k : Int) := by omega
                  have hk1 : ¬ kd = 1 := by omega
                  go_wp2_with fail
                  go_roundw
                  case rel => exact ⟨k + 1, by omega, by go_num, HR⟩
                  case measure => simp [intOf]; omega
              · by_cases hk1 : kd = 1
                · by_cases hc1 : i < k
                  · have hcc : (i : Int) < (k : Int) := by omega
                    go_wp2_with fail
                    go_roundw
                    case rel => exact ⟨k + 1, by omega, by go_num, HST⟩
                    case measure => simp [intOf]; omega
                  · have hcc : ¬ (i : Int) < (k : Int) := by omega
                    go_wp2_with fail
                    go_roundw
                    case rel => exact ⟨k + 1, by omega, by go_num, HR⟩
                    case measure => simp [intOf]; omega
                · go_wp2_with fail
                  go_roundw
                  case rel => exact ⟨k + 1, by omega, by go_num, HR⟩
                  case measure => simp [intOf]; omega
            · have hkk : ¬ (k : Int) < 1 + (n0 : Int) := by omega
              have HD5 := Lib.hid (HD.out.draw hpl HR.out.2.1 HR.out.2.2)
              have hva := HD5.out.ownA.cells.open_
              have HVL := Lib.hid HD5.out.lenA
              obtain ⟨Ava, cva, heva, -, -⟩ := hva
              rw [HVL.out] at heva
              subst heva
              have q0 : wj.cell? ⟨q, 0, none⟩ = some (.slice Ava i cva) := HD5.out.blk.cell 0
              have HZR := Lib.hid HR.out.1
              go_wp2_with (at_builtin; go_loud (refine wpList_app1 T_row HD5.out.ownA (by rw [HVL.out]; omega) (by have h1 := HD5.out.gr.size; have h2 := HD5.out.ge; have h3 := HD5.out.blk.lt; omega) (by rfl) rfl (by rfl) (by rfl) (by rfl) ?_; intro v7 w7 hown7 hgr7; have hop7 := hown7.cells.open_; (obtain ⟨A7, c7, he7, -, -⟩ := hop7); (rw [List.length_append, HVL.out] at he7); subst he7; have HN7 := Lib.hid hown7; have HR7 := Lib.hid hgr7; have hk7 := HD5.out.blk.grow hgr7 (HD5.out.ownA.ne_blk HD5.out.blk (by decide)); have q1 : w7.cell? ⟨q, 0, none⟩ = some (.slice Ava i cva) := hk7.cell 0; have q2 : w7.frozen? ⟨q, 0, none⟩ = false := hk7.frozen 0; clear hown7 hgr7 hk7))
              go_roundw
              case rel =>
                obtain ⟨zz, ho, hz⟩ := HZR.out
                exact ⟨i + 1, by omega, by go_num, _, _, HD.out.next hpl HR.out.2.1 HR.out.2.2 ho hz HN7.out HR7.out⟩
              case measure => simp [intOf]; omega
        · have hii : ¬ (i : Int) < 1 + (n0 : Int) := by omega
          have hin : i = 1 + n0 := by omega
          subst hin
          go_upto_if 80 with (go_at_call 114; go_loud (refine (s_l01Next wi B p 2 HD.out.src (by omega) (by omega)).mono ?_; rintro e w8 ⟨x8, rfl, -, -, hg, hs⟩; have HD8 := Lib.hid (HD.out.draw hpl hg hs); clear hg hs))
          generalize (x8 == 0) = cc at *
          go_cut [12, 13] (fun a b wx => Hid (DrS w wx B p q va (.slice (some ⟨gb, 0, none⟩) (1 + n0) cb) vs (1 + n0) (1 + n0)))
          case first =>
            cases cc with
            | true =>
              obtain ⟨bs, hbs, hbn⟩ := HD8.out.ws
              have HBN := Lib.hid hbn
              have HDq := HD8.out.blk
              have q0 : w8.cell? ⟨q, 1, none⟩ = some (.slice (some ⟨gb, 0, none⟩) (1 + n0) cb) := HDq.cell 1
              have HCB := Lib.hid (show ∀ k, k < 1 + n0 → ∃ z, w8.cell? ⟨gb, k, none⟩ = some (.int .i64 z) ∧ (0 ≤ z ∧ z ≤ 10006) from fun k hk => by
                obtain ⟨A, c, he, l1, l2, h3⟩ := hbs.open_
                obtain ⟨ad, z, hA, hz, hz2, hc⟩ := h3 k (by rw [hbn.1]; exact hk)
                rw [hA] at he
                injection he with e1 e2 e3
                injection e1 with e1
                subst e1
                rw [addr_addT] at hc
                exact ⟨z, hc, hbn.2 z (List.mem_of_getElem? hz)⟩)
              clear hbs hbn HDq
              go_wp2_with fail
              go_loopw [12, 13] (fun a b wr => ∃ (z : Int) (k : Nat), 1 ≤ k ∧ k ≤ 1 + n0 ∧ b = .int .i64 k ∧ a = .int .i64 z ∧ 0 ≤ z ∧ z ≤ 10006 ∧ wr = w8) (fun _ b _ => 1 + n0 - (intOf b).toNat)
              case atStart => exact ⟨0, 1, by omega, by omega, rfl, rfl, by omega, by omega, rfl⟩
              case round =>
                obtain ⟨z, k, hk1, hk, rfl, rfl, z0, z1, rfl⟩ := hrel
                by_cases hlk : k < 1 + n0
                · have hkk : (k : Int) < 1 + (n0 : Int) := by omega
                  obtain ⟨y, hc, y0, y1⟩ := HCB.out k hlk
                  go_wp2_with (go_at_call 182; refine (s_l01Add _ _ _ (by omega) (by omega) (by omega) (by omega)).mono ?_; rintro e w' ⟨rfl, rfl⟩)
                  go_roundw
                  case rel =>
                    exact ⟨_, k + 1, by omega, by omega, by go_num, rfl, by omega, by omega, trivial⟩
                  case measure => simp [intOf]; omega
                · have hkk : ¬ (k : Int) < 1 + (n0 : Int) := by omega
                  obtain ⟨⟨u0, hcg⟩, hfg, hst⟩ := HD8.out.setB (k := 0) (z := (1 - z) % 10007) hpl (by omega) (by omega)
                  have hbd : ∀ X : World, Below X.heap.size X X.drew := fun X => (Below.refl _ _).drew
                  have hst1 := hst.draw hpl (gof (hbd _)) (hst.src.below (hbd _))
                  have HST := Lib.hid hst
                  have HST1 := Lib.hid hst1
                  have h0n : 0 < 1 + n0 := by omega
                  have h0i : (0 : Int) < 1 + (n0 : Int) := by omega
                  clear hst hst1 hbd
                  go_wp2_with fail
                  go_region_law (go_simp; go_at_call 183; (with_reducible refine (s_l01Sub _ _ _ ?_ ?_ ?_ ?_).mono ?_); omega; omega; omega; omega; go_loud (rintro e w' ⟨rfl, rfl⟩))
                  all_goals
                    go_wp2_with fail
                    go_meet
                    first | exact HST | exact HST1
            | false =>
              go_wp2_with fail
              go_meet
              exact HD8
          case rest =>
            have HD9 := Lib.hid hcut.out
            rename World => wz
            have HDz := HD9.out
            have q0 : wz.cell? ⟨q, 0, none⟩ = some va := HDz.blk.cell 0
            have q1 : wz.cell? ⟨q, 1, none⟩ = some (.slice (some ⟨gb, 0, none⟩) (1 + n0) cb) := HDz.blk.cell 1
            have p0 : wz.cell? ⟨w.heap.size, 0, none⟩ = some (.slice none 0 0) := HDz.res.cell 0
            have p1 : wz.cell? ⟨w.heap.size, 1, none⟩ = some (.slice none 0 0) := HDz.res.cell 1
            have f0 : wz.frozen? ⟨w.heap.size, 0, none⟩ = false := HDz.res.frozen 0
            have f1 : wz.frozen? ⟨w.heap.size, 1, none⟩ = false := HDz.res.frozen 1
            obtain ⟨Av, cv, hve, -, -⟩ := HDz.ownA.cells.open_
            rw [HDz.lenA] at hve
            subst hve
            have HBLK := Lib.hid (show Blk ((wz.setCell ⟨w.heap.size, 0, none⟩ (.slice Av (1 + n0) cv)).setCell ⟨w.heap.size, 1, none⟩ (.slice (some ⟨gb, 0, none⟩) (1 + n0) cb)) w.heap.size tTb #[.slice Av (1 + n0) cv, .slice (some ⟨gb, 0, none⟩) (1 + n0) cb] from by have h := (HDz.res.set_ 0 (.slice Av (1 + n0) cv)).set_ 1 (.slice (some ⟨gb, 0, none⟩) (1 + n0) cb); simpa using h)
            clear HDz
            obtain ⟨hfin, hgf, hsf⟩ := HD9.out.fin hpl
            have HF := Lib.hid hfin
            have HGF := Lib.hid hgf
            have HSF := Lib.hid hsf
            clear hfin hgf hsf
            go_wp2_with fail
            have g0 : ((wz.setCell ⟨w.heap.size, 0, none⟩ (.slice Av (1 + n0) cv)).setCell ⟨w.heap.size, 1, none⟩ (.slice (some ⟨gb, 0, none⟩) (1 + n0) cb)).cell? ⟨w.heap.size, 0, none⟩ = some (.slice Av (1 + n0) cv) := HBLK.out.cell 0
            have g1 : ((wz.setCell ⟨w.heap.size, 0, none⟩ (.slice Av (1 + n0) cv)).setCell ⟨w.heap.size, 1, none⟩ (.slice (some ⟨gb, 0, none⟩) (1 + n0) cb)).cell? ⟨w.heap.size, 1, none⟩ = some (.slice (some ⟨gb, 0, none⟩) (1 + n0) cb) := HBLK.out.cell 1
            refine bodyPost_ret (v := .agg #[.slice Av (1 + n0) cv, .slice (some ⟨gb, 0, none⟩) (1 + n0) cb]) (by simp [results, Try.results113, go_sem, g0, g1]) rfl ⟨_, _, rfl, HF.out, by omega, by omega, HGF.out, HSF.out⟩
end Go.Proofs.Ytbjeibcombjfgaa

set_option linter.unusedVariables false
set_option linter.unusedSimpArgs false
namespace Go.Proofs.Ytbjeibcombjfgaa
open Go.RowKit

theorem apFlip {a b : Value} (h : Apart a b) : b.ownBlock = none ∨ b.ownBlock ≠ a.ownBlock := by
  unfold Apart at h
  cases hb : b.ownBlock with
  | none => exact .inl rfl
  | some x =>
    refine .inr fun e => ?_
    rcases h with h | h
    · rw [h] at e; cases e
    · exact h (e.symm.trans hb.symm)
theorem apGrow {w w' : World} {r r1 u : Value} (hg : Grow w w' r r1) (h : Apart r u) (hu : ∀ b, u.ownBlock = some b → b < w.heap.size) : Apart r1 u := by
  rcases hg.2 with e | ⟨b, e, hge⟩
  · unfold Apart at h ⊢; rw [e]; exact h
  · unfold Apart
    refine .inr fun e2 => ?_
    rw [e] at e2
    have := hu b e2.symm
    omega
section
variable {w w1 : World} {N g n cap : Nat} {vb r0 r1 : Value} {vs : List Value} {rows : List (List Int)} {zs0 Bs : List Int} {z : Int}
/-- row 0 grows by a number -/
theorem Two.row0 (h : Two w N (.slice (some ⟨g, 0, none⟩) n cap) vb (r0 :: vs) (zs0 :: rows) Bs) (hz : In64 z) (hown : Own w1 N tI r1 (ints zs0 ++ [.int .i64 z])) (hgr : Grow w w1 r0 r1) :
    (∃ u, w1.cell? ⟨g, 0, none⟩ = some u) ∧ w1.frozen? ⟨g, 0, none⟩ = false ∧ Two (w1.setCell ⟨g, 0, none⟩ r1) N (.slice (some ⟨g, 0, none⟩) n cap) vb (r1 :: vs) ((zs0 ++ [z]) :: rows) Bs ∧ w1.grownBy (w1.setCell ⟨g, 0, none⟩ r1) (some g) := by
  have hr0 := h.rows.2.1 0 r0 zs0 rfl rfl
  have ho1 := h.own.kept hgr.1 (Own.ne_of_type h.own hr0.1.1 (by decide))
  obtain ⟨u0, hu0, hcg, hfg, hg2, hg1, hown', hgr'⟩ := ho1.storeAt (k := 0) (by simp) r1
  have hset : ∀ {v : Value} {us : List Value}, Own w1 N tI v us → Own (w1.setCell ⟨g, 0, none⟩ r1) N tI v us := fun hv => hv.kept hgr' (Own.ne_of_type hv ho1 (by decide))
  have hw1 := h.ws.1.kept hgr.1 (apFlip (h.ap 0 r0 rfl))
  have hlt : ∀ k u, (r0 :: vs)[k]? = some u → ∃ zs, (zs0 :: rows)[k]? = some zs := fun k u hu => by
    have hk := (List.getElem?_eq_some_iff.1 hu).1
    rw [h.rows.1] at hk
    exact ⟨_, List.getElem?_eq_getElem hk⟩
  refine ⟨⟨_, hcg⟩, hfg, ⟨hown', ⟨?_, fun k u zs hu hx => ?_, fun i j u u' hij hu hu' => ?_⟩, ⟨hset hw1, h.ws.2⟩, fun k u hu => ?_⟩, hgr'⟩
  · have := h.rows.1; simp at this ⊢; exact this
  · cases k with
    | zero =>
      simp at hu hx
      subst hu hx
      refine OI.of ⟨hset (by simpa [ints] using hown), fun y hy => ?_⟩
      rcases List.mem_append.1 hy with hy | hy
      · exact hr0.1.2 y hy
      · simp at hy; subst hy; exact hz
    | succ k =>
      have ho := h.rows.2.1 (k + 1) u zs hu hx
      exact OI.of ⟨hset (ho.1.1.kept hgr.1 (apFlip (h.rows.2.2 0 (k + 1) r0 u (by omega) rfl hu))), ho.1.2⟩
  · cases i with
    | zero =>
      cases j with
      | zero => omega
      | succ j =>
        simp at hu
        subst hu
        obtain ⟨zs, hx⟩ := hlt (j + 1) u' hu'
        exact apGrow hgr (h.rows.2.2 0 (j + 1) r0 u' (by omega) rfl hu') (h.rows.2.1 (j + 1) u' zs hu' hx).2
    | succ i =>
      cases j with
      | zero => omega
      | succ j => exact h.rows.2.2 (i + 1) (j + 1) u u' hij hu hu'
  · cases k with
    | zero =>
      simp at hu
      subst hu
      exact apGrow hgr (h.ap 0 r0 rfl) h.ws.1.lt
    | succ k => exact h.ap (k + 1) u hu
/-- a number of row 0 is stored -/
theorem Two.cell0 {gr nr cr : Nat} {va : Value} (h : Two w N va vb (.slice (some ⟨gr, 0, none⟩) nr cr :: vs) (zs0 :: rows) Bs) (hz : In64 z) (hl : 0 < zs0.length) :
    (∃ u, w.cell? ⟨gr, 0, none⟩ = some u) ∧ w.frozen? ⟨gr, 0, none⟩ = false ∧ Two (w.setCell ⟨gr, 0, none⟩ (.int .i64 z)) N va vb (.slice (some ⟨gr, 0, none⟩) nr cr :: vs) (zs0.set 0 z :: rows) Bs ∧ w.grownBy (w.setCell ⟨gr, 0, none⟩ (.int .i64 z)) (some gr) := by
  have hr0 := h.rows.2.1 0 _ zs0 rfl rfl
  obtain ⟨u0, hu0, hcg, hfg, hg2, hg1, hown', hgr'⟩ := hr0.1.1.storeAt (k := 0) (by rw [ints_len]; exact hl) (.int .i64 z)
  have hn : OwnInts (w.setCell ⟨gr, 0, none⟩ (.int .i64 z)) N tI (.slice (some ⟨gr, 0, none⟩) nr cr) (zs0.set 0 z) := by
    refine ⟨by rw [show ints (zs0.set 0 z) = (ints zs0).set 0 (.int .i64 z) by simp [ints, List.map_set]]; exact hown', fun y hy => ?_⟩
    rcases List.mem_or_eq_of_mem_set hy with h1 | rfl
    · exact hr0.1.2 y h1
    · exact hz
  have hR := h.rows.set (j := 0) rfl hgr' hn
  refine ⟨⟨_, hcg⟩, hfg, ⟨h.own.kept hgr' (Own.ne_of_type h.own hr0.1.1 (by decide)), ?_, ⟨h.ws.1.kept hgr' (apFlip (h.ap 0 _ rfl)), h.ws.2⟩, h.ap⟩, hgr'⟩
  exact hR.mono (Nat.le_refl _) hgr'.size
end
/-- a tableau that can be read as long as only blocks below N change -/
def Stab (w : World) (N : Nat) (v : Value) (A : List (List Int)) (Bs : List Int) : Prop := ∀ W, Chg 0 N w W → TabArg W v A Bs
section
variable {w w' : World} {N M : Nat} {v va vb : Value} {vs : List Value} {A : List (List Int)} {Bs : List Int}
theorem Stab.step (h : Stab w N v A Bs) (hc : Chg 0 N w w') : Stab w' N v A Bs := fun W hW => h W (hc.trans hW)
theorem Stab.mono (h : Stab w N v A Bs) (hm : M ≤ N) : Stab w M v A Bs := fun W hW => h W (hW.mono (Nat.le_refl _) hm)
theorem Stab.arg (h : Stab w N v A Bs) : TabArg w v A Bs := h w (Chg.refl _ _ _)
theorem Two.stab (h : Two w N va vb vs A Bs) : Stab w N (.agg #[va, vb]) A Bs := fun W hW => (h.kept hW (Nat.le_refl _)).tab.arg
theorem rowsTail {g n cap : Nat} (h : Rows w (.slice (some ⟨g, 0, none⟩) (n + 1) cap) A) : Rows w (.slice (if cap = 1 then some ⟨g, 0, none⟩ else some ⟨g, 1, none⟩) n (cap - 1)) A.tail := by
  obtain ⟨us, ⟨A0, c, he, h1, h2, h3⟩, h4, h5⟩ := h
  simp only [Value.slice.injEq] at he
  obtain ⟨rfl, hn, rfl⟩ := he
  cases us with
  | nil => simp at hn
  | cons u0 us =>
    cases A with
    | nil => simp at h4
    | cons x A =>
      have hul : us.length = n := by simp at hn; omega
      have hcap : us.length + 1 ≤ cap := by simpa using h1
      refine ⟨us, ⟨if cap = 1 then some ⟨g, 0, none⟩ else some ⟨g, 1, none⟩, cap - 1, by rw [hul], by omega, by omega, fun k u hu => ?_⟩, by simpa using h4, fun k u zs hu hz => h5 (k + 1) u zs hu hz⟩
      have hk := (List.getElem?_eq_some_iff.1 hu).1
      rw [if_neg (by omega)]
      obtain ⟨ad, hA, hc⟩ := h3 (k + 1) u hu
      injection hA with hA
      subst hA
      refine ⟨_, rfl, ?_⟩
      rw [addr_addT] at hc
      have e : (⟨g, 1, none⟩ : Addr).add k = ⟨g, k + 1, none⟩ := by
        by_cases h0 : k = 0
        · subst h0; rfl
        · simp [Addr.add, h0, Nat.add_comm]
      rw [e]
      exact hc
theorem Two.stabTail {g n cap : Nat} (h : Two w N (.slice (some ⟨g, 0, none⟩) (n + 1) cap) vb vs A Bs) : Stab w N (.agg #[.slice (if cap = 1 then some ⟨g, 0, none⟩ else some ⟨g, 1, none⟩) n (cap - 1), vb]) A.tail Bs := fun W hW => by
  obtain ⟨a, b, he, h1, h2⟩ := (h.kept hW (Nat.le_refl _)).tab.arg
  have e := Value.agg.inj he
  have e1 : Value.slice (some ⟨g, 0, none⟩) (n + 1) cap = a := by have := congrArg (fun x : Array Value => x[0]?) e; simpa using this
  have e2 : vb = b := by have := congrArg (fun x : Array Value => x[1]?) e; simpa using this
  subst e1 e2
  exact ⟨_, _, rfl, rowsTail h1, h2⟩
end
/-- the state of a tableau that is spoilt -/
structure SpT (w0 w : World) (B p q : Nat) (va vb : Value) (vs : List Value) (A : List (List Int)) (Bs : List Int) : Prop where
  two : Two w (w0.heap.size + 1) va vb vs A Bs
  blk : Blk w q tTb #[va, vb]
  res : Blk w w0.heap.size tTb #[.slice none 0 0, .slice none 0 0]
  ge : w0.heap.size + 1 ≤ q
  gr : w0.grownBy w (some p)
  src : Src w B tSc p
/-- .. and at the end, where it is but read -/
structure SpS (w0 w : World) (B p q : Nat) (va vb : Value) : Prop where
  tab : ∃ A Bs, Stab w (w0.heap.size + 1) (.agg #[va, vb]) A Bs
  blk : Blk w q tTb #[va, vb]
  res : Blk w w0.heap.size tTb #[.slice none 0 0, .slice none 0 0]
  ge : w0.heap.size + 1 ≤ q
  gr : w0.grownBy w (some p)
  src : Src w B tSc p
section
variable {w0 w w5 w6 : World} {B p q : Nat} {va vb v1 r0 r1 : Value} {vs : List Value} {A : List (List Int)} {zs0 Bs : List Int} {z : Int}
theorem SpT.toS (h : SpT w0 w B p q va vb vs A Bs) : SpS w0 w B p q va vb := ⟨⟨A, Bs, h.two.stab⟩, h.blk, h.res, h.ge, h.gr, h.src⟩
theorem SpT.draw (h : SpT w0 w B p q va vb vs A Bs) (hp : p < w0.heap.size) (hg : w.grownBy w5 (some p)) (hs : Src w5 B tSc p) : SpT w0 w5 B p q va vb vs A Bs :=
  ⟨h.two.srcD hg (by omega), h.blk.srcD hg (by have := h.ge; omega), h.res.srcD hg (by omega), h.ge, gtrans h.gr hg, hs⟩
theorem SpT.below (h : SpT w0 w B p q va vb vs A Bs) (hp : p < w0.heap.size) (hb : Below w.heap.size w w5) : SpT w0 w5 B p q va vb vs A Bs := h.draw hp (gof hb) (h.src.below hb)
/-- the weights grow -/
theorem SpT.addB (h : SpT w0 w B p q va vb vs A Bs) (hp : p < w0.heap.size) (hz : In64 z) (hown : Own w6 (w0.heap.size + 1) tI v1 (ints Bs ++ [.int .i64 z])) (hgr : Grow w w6 vb v1) :
    Blk w6 q tTb #[va, vb] ∧ SpS w0 (w6.setCell ⟨q, 1, none⟩ v1) B p q va v1 := by
  have hnq : vb.ownBlock ≠ some q := h.two.ws.1.ne_blk h.blk (by decide)
  have hnr : vb.ownBlock ≠ some w0.heap.size := fun e => by have := h.two.ws.1.ge _ e; omega
  have hk := h.blk.grow hgr hnq
  have h6 := (h.two.addB hz hown hgr).storeAt hk (by decide) (by decide) 1 v1
  have hgo : ∀ b, vb.ownBlock = some b → w0.heap.size ≤ b := fun b hb => by have := h.two.ws.1.ge b hb; omega
  have g6 : w0.grownBy w6 (some p) := gthen h.gr hgr.1 hgo
  have s6 : Src w6 B tSc p := h.src.kept hgr.1 (fun e => by have := h.two.ws.1.ge _ e; omega) (fun b hb => by have := hgo b hb; have := h.src.ge; omega)
  refine ⟨hk, ⟨_, _, h6.stab⟩, by simpa using hk.set_ 1 v1, (h.res.grow hgr hnr).far (p := ⟨q, 1, none⟩) (by have := h.ge; simp; omega) v1, h.ge, gthen g6 (gset w6 q 1 v1) (by rintro b ⟨⟩; have := h.ge; omega), s6.kept (gset w6 q 1 v1) (by intro e; injection e with e; have := h.ge; omega) (by rintro b ⟨⟩; have := h.ge; have := h.src.ge; omega)⟩
/-- row 0 grows -/
theorem SpT.row0 {g n cap : Nat} (h : SpT w0 w B p q (.slice (some ⟨g, 0, none⟩) n cap) vb (r0 :: vs) (zs0 :: A) Bs) (hp : p < w0.heap.size) (hz : In64 z) (hown : Own w6 (w0.heap.size + 1) tI r1 (ints zs0 ++ [.int .i64 z])) (hgr : Grow w w6 r0 r1) :
    (∃ u, w6.cell? ⟨g, 0, none⟩ = some u) ∧ w6.frozen? ⟨g, 0, none⟩ = false ∧ Blk w6 q tTb #[.slice (some ⟨g, 0, none⟩) n cap, vb] ∧ SpS w0 (w6.setCell ⟨g, 0, none⟩ r1) B p q (.slice (some ⟨g, 0, none⟩) n cap) vb := by
  have hr0 := h.two.rows.2.1 0 r0 zs0 rfl rfl
  obtain ⟨a1, a2, a3, a4⟩ := h.two.row0 hz hown hgr
  have hnq : r0.ownBlock ≠ some q := hr0.1.1.ne_blk h.blk (by decide)
  have hnr : r0.ownBlock ≠ some w0.heap.size := fun e => by have := hr0.1.1.ge _ e; omega
  have hk := h.blk.grow hgr hnq
  have hge : w0.heap.size + 1 ≤ g := h.two.own.ge g rfl
  have hgq : g ≠ q := fun e => (h.two.own.ne_blk h.blk (by decide)) (by rw [e]; rfl)
  have hgo : ∀ b, r0.ownBlock = some b → w0.heap.size ≤ b := fun b hb => by have := hr0.1.1.ge b hb; omega
  have g6 : w0.grownBy w6 (some p) := gthen h.gr hgr.1 hgo
  have s6 : Src w6 B tSc p := h.src.kept hgr.1 (fun e => by have := hr0.1.1.ge _ e; omega) (fun b hb => by have := hgo b hb; have := h.src.ge; omega)
  exact ⟨a1, a2, hk, ⟨_, _, a3.stab⟩, hk.far (p := ⟨g, 0, none⟩) (by simpa using fun e => hgq e.symm) r1, (h.res.grow hgr hnr).far (p := ⟨g, 0, none⟩) (by simp; omega) r1, h.ge, gthen g6 a4 (by rintro b ⟨⟩; omega), s6.kept a4 (by intro e; injection e with e; omega) (by rintro b ⟨⟩; have := h.src.ge; omega)⟩
/-- a number of row 0 is stored -/
theorem SpT.cell0 {gr nr cr : Nat} (h : SpT w0 w B p q va vb (.slice (some ⟨gr, 0, none⟩) nr cr :: vs) (zs0 :: A) Bs) (hp : p < w0.heap.size) (hz : In64 z) (hl : 0 < zs0.length) :
    (∃ u, w.cell? ⟨gr, 0, none⟩ = some u) ∧ w.frozen? ⟨gr, 0, none⟩ = false ∧ SpS w0 (w.setCell ⟨gr, 0, none⟩ (.int .i64 z)) B p q va vb := by
  have hr0 := h.two.rows.2.1 0 _ zs0 rfl rfl
  obtain ⟨a1, a2, a3, a4⟩ := h.two.cell0 hz hl
  have hge : w0.heap.size + 1 ≤ gr := hr0.1.1.ge gr rfl
  have hgq : gr ≠ q := fun e => (hr0.1.1.ne_blk h.blk (by decide)) (by rw [e]; rfl)
  exact ⟨a1, a2, ⟨_, _, a3.stab⟩, h.blk.far (p := ⟨gr, 0, none⟩) (by simpa using fun e => hgq e.symm) _, h.res.far (p := ⟨gr, 0, none⟩) (by simp; omega) _, h.ge, gthen h.gr a4 (by rintro b ⟨⟩; omega), h.src.kept a4 (by intro e; injection e with e; omega) (by rintro b ⟨⟩; have := h.src.ge; omega)⟩
/-- nothing is left -/
theorem SpT.nil0 (h : SpT w0 w B p q va vb vs A Bs) (hp : p < w0.heap.size) : SpS w0 ((w.setCell ⟨q, 0, none⟩ (.slice none 0 0)).setCell ⟨q, 1, none⟩ (.slice none 0 0)) B p q (.slice none 0 0) (.slice none 0 0) := by
  have hge := h.ge
  have hsg := h.src.ge
  have r1 := h.res.far (p := ⟨q, 0, none⟩) (by simp; omega) (.slice none 0 0)
  have r2 := r1.far (p := ⟨q, 1, none⟩) (by simp; omega) (.slice none 0 0)
  have g1 := gthen h.gr (gset w q 0 (.slice none 0 0)) (by rintro b ⟨⟩; omega)
  have g2 := gthen g1 (gset _ q 1 (.slice none 0 0)) (by rintro b ⟨⟩; omega)
  have s1 := h.src.kept (gset w q 0 (.slice none 0 0)) (by intro e; injection e with e; omega) (by rintro b ⟨⟩; omega)
  have s2 := s1.kept (gset _ q 1 (.slice none 0 0)) (by intro e; injection e with e; omega) (by rintro b ⟨⟩; omega)
  exact ⟨⟨_, _, (Two.nil _ _).stab⟩, by simpa using (h.blk.set_ 0 (.slice none 0 0)).set_ 1 (.slice none 0 0), r2, hge, g2, s2⟩
/-- the first row is cut off -/
theorem SpT.tail {g n cap : Nat} (h : SpT w0 w B p q (.slice (some ⟨g, 0, none⟩) (n + 1) cap) vb vs A Bs) (hp : p < w0.heap.size) :
    SpS w0 (w.setCell ⟨q, 0, none⟩ (.slice (if cap = 1 then some ⟨g, 0, none⟩ else some ⟨g, 1, none⟩) n (cap - 1))) B p q (.slice (if cap = 1 then some ⟨g, 0, none⟩ else some ⟨g, 1, none⟩) n (cap - 1)) vb := by
  have hge := h.ge
  have hsg := h.src.ge
  have h6 := h.two.storeAt h.blk (by decide) (by decide) 0 (.slice (if cap = 1 then some ⟨g, 0, none⟩ else some ⟨g, 1, none⟩) n (cap - 1))
  exact ⟨⟨_, _, h6.stabTail⟩, by simpa using h.blk.set_ 0 (.slice (if cap = 1 then some ⟨g, 0, none⟩ else some ⟨g, 1, none⟩) n (cap - 1)), h.res.far (p := ⟨q, 0, none⟩) (by simp; omega) _, hge, gthen h.gr (gset w q 0 _) (by rintro b ⟨⟩; omega), h.src.kept (gset w q 0 _) (by intro e; injection e with e; omega) (by rintro b ⟨⟩; omega)⟩
theorem SpT.rowCell {g n cap : Nat} (h : SpT w0 w B p q (.slice (some ⟨g, 0, none⟩) n cap) vb (r0 :: vs) A Bs) : w.cell? ⟨g, 0, none⟩ = some r0 := by
  obtain ⟨A0, c0, he, h1, h2, h3⟩ := h.two.own.cells
  simp only [Value.slice.injEq] at he
  obtain ⟨rfl, -, -⟩ := he
  obtain ⟨ad, hA, hc⟩ := h3 0 _ rfl
  injection hA with hA
  subst hA
  exact hc
/-- the end: the result is stored -/
theorem SpS.fin (h : SpS w0 w B p q va vb) (hp : p < w0.heap.size) :
    (∃ A Bs, Stab ((w.setCell ⟨w0.heap.size, 0, none⟩ va).setCell ⟨w0.heap.size, 1, none⟩ vb) w0.heap.size (.agg #[va, vb]) A Bs) ∧ w0.grownBy ((w.setCell ⟨w0.heap.size, 0, none⟩ va).setCell ⟨w0.heap.size, 1, none⟩ vb) (some p) ∧ Src ((w.setCell ⟨w0.heap.size, 0, none⟩ va).setCell ⟨w0.heap.size, 1, none⟩ vb) B tSc p := by
  obtain ⟨A, Bs, h1⟩ := h.tab
  have c2 := ((Chg.refl 0 (w0.heap.size + 1) w).setCell (p := ⟨w0.heap.size, 0, none⟩) (Nat.zero_le _) (by simp) va).setCell (p := ⟨w0.heap.size, 1, none⟩) (Nat.zero_le _) (by simp) vb
  have g1 := gthen h.gr (gset w w0.heap.size 0 va) (by rintro b ⟨⟩; omega)
  have g2 := gthen g1 (gset _ w0.heap.size 1 vb) (by rintro b ⟨⟩; omega)
  have s1 := h.src.kept (gset w w0.heap.size 0 va) (by intro e; injection e with e; omega) (by rintro b ⟨⟩; have := h.src.ge; omega)
  have s2 := s1.kept (gset _ w0.heap.size 1 vb) (by intro e; injection e with e; omega) (by rintro b ⟨⟩; have := h.src.ge; omega)
  exact ⟨⟨A, Bs, (h1.step c2).mono (Nat.le_succ _)⟩, g2, s2⟩
end
end Go.Proofs.Ytbjeibcombjfgaa

