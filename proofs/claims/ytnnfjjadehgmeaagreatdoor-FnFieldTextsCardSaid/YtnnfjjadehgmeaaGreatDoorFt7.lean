/- Walk of the reference: ParseNumber. | Walks of the program: NumberOf, readDecimal. -/
import Derived.Test.YtnnfjjadehgmeaaGreatDoorFt6
import Derived.Deep.CutRange
import Derived.Deep.CutBlock
import Derived.Test.YtnnfjjadehgmeaaGreatDoorFt5
import Derived.Lib.AtoiErrMem
import Derived.Lib.ParseIntBTie
set_option maxRecDepth 100000
set_option linter.unusedVariables false
set_option linter.unusedSimpArgs false
namespace Go.Proofs.YtnnfjjadehgmeaaGreatDoor
open Go.RowKit

set_option maxHeartbeats 1000000 in
theorem s_l01FracN (p q : Int) (w : World) (h0 : -2000000000 ≤ p) (h1 : p ≤ 2000000000) (g0 : -2000000000 ≤ q) (g1 : q ≤ 2000000000) :
    Calls Tryz.prog 39 #[.int .i64 p, .int .i64 q] w fun e w' => e = .returned (.int .i64 (nofR p q)) ∧ w = w' := by
  obtain ⟨x, hx⟩ : ∃ x, x = p % 10007 := ⟨_, rfl⟩
  obtain ⟨y, hy⟩ : ∃ y, y = q % 10007 := ⟨_, rfl⟩
  have hpb : 0 ≤ pw y 10005 ∧ pw y 10005 ≤ 10006 := by unfold pw; omega
  obtain ⟨z, hz⟩ : ∃ z, z = pw y 10005 := ⟨_, rfl⟩
  have HM1 := Lib.hid (fun W => show Calls Tryz.prog 61 #[.int .i64 p] W fun e w' => e = .returned (.int .i64 x) ∧ W = w' from by rw [hx]; exact s_l01Mod p W (by omega) (by omega))
  have HM2 := Lib.hid (fun W => show Calls Tryz.prog 61 #[.int .i64 q] W fun e w' => e = .returned (.int .i64 y) ∧ W = w' from by rw [hy]; exact s_l01Mod q W (by omega) (by omega))
  have HIV := Lib.hid (fun W => show Calls Tryz.prog 62 #[.int .i64 y] W fun e w' => e = .returned (.int .i64 z) ∧ W = w' from by rw [hz]; exact s_l01Inv y W (by omega) (by omega))
  have HMU := Lib.hid (fun W => show Calls Tryz.prog 60 #[.int .i64 x, .int .i64 z] W fun e w' => e = .returned (.int .i64 (nofR p q)) ∧ W = w' from by
    have h := s_l01Mul x z W (by omega) (by omega) (by omega) (by omega)
    rwa [show x * z % 10007 = nofR p q by unfold nofR; rw [hx, hz, hy]] at h)
  clear hx hy hz hpb
  go_enter Tryz.func39, Tryz.ntmps39
  go_wp2_with (first
    | (go_at_call 61; with_reducible (refine (HM1.out _).mono ?_); rintro e w2 ⟨rfl, rfl⟩)
    | (go_at_call 61; with_reducible (refine (HM2.out _).mono ?_); rintro e w2 ⟨rfl, rfl⟩)
    | (go_at_call 62; refine (HIV.out _).mono ?_; rintro e w2 ⟨rfl, rfl⟩)
    | (go_at_call 60; refine (HMU.out _).mono ?_; rintro e w2 ⟨rfl, rfl⟩))
  go_ret
  exact ⟨rfl, rfl⟩
theorem valB_bd (l : List UInt8) : -1 ≤ valB l ∧ valB l < 1000000000 := by
  rcases valB_or l with h | ⟨n, h1, -, h2⟩
  · rw [h]; decide
  · rw [h2]; omega
theorem pnR_bd (l : List UInt8) : -1 ≤ pnP l ∧ pnP l < 1000000000 ∧ -1 ≤ pnQ l ∧ pnQ l < 1000000000 ∧ (pnS l = 1 ∨ pnS l = -1) := by
  have h1 := valB_bd (if (pnH l).head? = some 45 then (pnH l).tail else pnH l)
  refine ⟨h1.1, h1.2, ?_, ?_, ?_⟩
  · unfold pnQ; split
    · exact (valB_bd _).1
    · decide
  · unfold pnQ; split
    · exact (valB_bd _).2
    · decide
  · unfold pnS; split
    · exact .inr rfl
    · exact .inl rfl
theorem strs_cell {w : World} {B g n c : Nat} {ls : List (List UInt8)} {x : List UInt8} {j : Nat} (h : Own w B tStr (.slice (some ⟨g, 0, none⟩) n c) (strs ls)) (hx : ls[j]? = some x) : w.cell? ⟨g, j, none⟩ = some (strB x) := by
  have hc := World.ownsRow.cells h (g := g) rfl j (strB x) (by unfold strs; rw [List.getElem?_map, hx]; rfl)
  rwa [addr_add] at hc
set_option maxHeartbeats 8000000 in
theorem s_ParseNumber (w : World) (l : List UInt8) (hl : l.length ≤ 4294960000) :
    Calls Tryz.prog 18 #[strB l] w fun e w' => e = .returned (.tuple #[.int .i64 (pnR l).1, .int .i64 (pnR l).2]) ∧ Below w.heap.size w w' := by
  have HSP := Lib.hid (s_l01Split w l 47 (by omega))
  have hpos := splB_pos 47 l
  have hlen := splB_len 47 l
  obtain ⟨H, R, hHR⟩ : ∃ H R, splB 47 l = H :: R := by
    cases h : splB 47 l with
    | nil => rw [h] at hpos; simp at hpos
    | cons a b => exact ⟨a, b, rfl⟩
  have hHl : H.length ≤ l.length := splB_mem_len 47 l H (by rw [hHR]; simp)
  have hRl : ∀ x ∈ R, x.length ≤ l.length := fun x hx => splB_mem_len 47 l x (by rw [hHR]; simp [hx])
  have HPH := Lib.hid (show pnH l = H by unfold pnH; rw [hHR]; rfl)
  have HPQ := Lib.hid (show pnQ l = if R.length = 1 then valB (R.getD 0 []) else 1 by unfold pnQ; rw [hHR]; simp)
  have HPR := Lib.hid (show pnR l = if 1 < R.length ∨ pnP l < 0 ∨ pnQ l < 1 ∨ (pnP l = 0 ∧ pnS l < 0) then (0, 6) else if pnQ l % 10007 = 0 then (0, 5) else (nofR (pnS l * pnP l) (pnQ l), 0) by
    unfold pnR
    rw [hHR, List.length_cons]
    simp only [show (2 < R.length + 1) = (1 < R.length) from by apply propext; omega])
  rw [hHR] at HSP hlen
  have HRL := Lib.hid hRl
  have hbd := pnR_bd l
  obtain ⟨P, hP⟩ : ∃ P, P = pnP l := ⟨_, rfl⟩
  obtain ⟨Q, hQ⟩ : ∃ Q, Q = pnQ l := ⟨_, rfl⟩
  obtain ⟨sg, hS⟩ : ∃ sg, sg = pnS l := ⟨_, rfl⟩
  rw [← hP, ← hQ, ← hS] at hbd HPR
  rw [← hQ] at HPQ
  have HPP := Lib.hid (show P = valB (if H.head? = some 45 then H.tail else H) by rw [hP]; unfold pnP; rw [HPH.out])
  have HPS := Lib.hid (show sg = if H.head? = some 45 then -1 else 1 by rw [hS]; unfold pnS; rw [HPH.out])
  obtain ⟨PR, hPR⟩ : ∃ PR, PR = pnR l := ⟨_, rfl⟩
  rw [← hPR] at HPR ⊢
  rw [List.length_cons] at hlen
  clear hP hQ hS hPR hpos hHR hRl
  go_enter Tryz.func18, Tryz.ntmps18
  go_upto_region 2 with (go_at_call 17; refine HSP.out.mono ?_; rintro e w1 ⟨v1, rfl, ho1, hb1⟩; obtain ⟨g, c1, hv1⟩ := str_open ho1 (by simp); subst hv1; have HO1 := Lib.hid ho1; have HB1 := Lib.hid hb1; clear ho1 hb1)
  obtain ⟨m, hm⟩ : ∃ m, m = R.length + 1 := ⟨_, rfl⟩
  rw [List.length_cons] at HO1
  rw [← hm] at HO1 ⊢
  have hm1 : 1 ≤ m := by omega
  have hmR : m = R.length + 1 := hm
  have hml : m ≤ 4294967000 := by omega
  have HMR := Lib.hid hmR
  clear hm hmR
  have g0 : w1.cell? ⟨g, 0, none⟩ = some (strB H) := strs_cell HO1.out (j := 0) rfl
  have hm0 : (0 : Int) < (m : Int) := by omega
  obtain ⟨H2, hH2⟩ : ∃ H2, H2 = if H.head? = some 45 then H.tail else H := ⟨_, rfl⟩
  rw [← hH2] at HPP
  have hH2l : H2.length ≤ l.length := by
    rw [hH2]
    split
    · rw [List.length_tail]; omega
    · exact hHl
  have HH2 := Lib.hid hH2
  clear hH2
  obtain ⟨u0, -, hs1, hs2, hs3, hs4, hs5, hs6⟩ := HO1.out.storeAt (k := 0) (by simp [strs]) (strB H2)
  have HST := Lib.hid (show Own (w1.setCell ⟨g, 0, none⟩ (strB H2)) w.heap.size tStr (.slice (some ⟨g, 0, none⟩) m c1) (strs (H2 :: R)) from hs5)
  have HGW := Lib.hid (show Below w.heap.size w (w1.setCell ⟨g, 0, none⟩ (strB H2)) from HB1.out.grown hs6 HB1.out.size (fun b hb => by simp [Value.ownBlock] at hb; omega))
  clear hs1 hs3 hs4 hs5 hs6
  by_cases hneg : H.head? = some 45
  · have h0c : H[0]? = some 45 := by rw [← List.head?_eq_getElem?]; exact hneg
    have hHe : H2 = H.tail := by rw [HH2.out, if_pos hneg]
    have HSG := Lib.hid (show sg = -1 by rw [HPS.out, if_pos hneg])
    have hix := str_ix h0c
    have hl1 : 0 < H.length := (List.getElem?_eq_some_iff.1 h0c).1
    have hl0 : (0 : Int) < (H.length : Int) := by omega
    have hl2 : (1 : Int) ≤ (H.length : Int) := by omega
    have hex : (⟨H.toArray⟩ : ByteArray).extract 1 H.length = ⟨H2.toArray⟩ := by
      rw [str_ex, hHe, List.drop_one, List.take_of_length_le (by rw [List.length_tail]; exact Nat.le_refl _)]
    clear hneg h0c hHe
    go_upto_if 21 with fail
    go_cut [5] from 8 to 65 (fun s wx => s = .int .i64 sg ∧ Own wx w.heap.size tStr (.slice (some ⟨g, 0, none⟩) m c1) (strs (H2 :: R)) ∧ Below w.heap.size w wx)
    case first =>
      go_wp2_with fail
      go_meet
      exact ⟨by rw [HSG.out], HST.out, HGW.out⟩
    case rest =>
      clear g0 hs2 hix hl0 hl1 hl2 hex HST HGW HSG HO1 HB1
      obtain ⟨rfl, ho2, hb2⟩ := hcut
      rename World => w2
      have HO2 := Lib.hid ho2
      have HB2 := Lib.hid hb2
      clear ho2 hb2
      have g0 : w2.cell? ⟨g, 0, none⟩ = some (strB H2) := strs_cell HO2.out (j := 0) rfl
      have HV := Lib.hid (fun W => show Calls Tryz.prog 38 #[strB H2] W fun e w' => e = .returned (.int .i64 P) ∧ ∃ n, w' = W.drewN n from by rw [HPP.out]; exact s_l01Value W H2 (by omega))
      go_upto_if 34 with (go_at_call 38; refine (HV.out _).mono ?_; rintro e w3 ⟨rfl, n3, rfl⟩)
      clear g0
      go_cut [7] from 8 to 65 (fun x wx => x = .int .i64 Q ∧ Below w.heap.size w wx)
      case first =>
        by_cases h2 : R.length = 1
        · have hmb : ((m : Int) == 2) = true := by rw [beq_iff_eq]; have := HMR.out; omega
          obtain ⟨R0, rfl⟩ : ∃ R0, R = [R0] := by
            cases R with
            | nil => simp at h2
            | cons a b => cases b with
              | nil => exact ⟨a, rfl⟩
              | cons x y => simp at h2
          have hm2 : (1 : Int) < (m : Int) := by have := HMR.out; simp at this; omega
          have g1 : w2.cell? ⟨g, 1, none⟩ = some (strB R0) := strs_cell HO2.out (j := 1) rfl
          have hr0 := HRL.out R0 (by simp)
          have HV2 := Lib.hid (fun W => show Calls Tryz.prog 38 #[strB R0] W fun e w' => e = .returned (.int .i64 Q) ∧ ∃ n, w' = W.drewN n from by rw [HPQ.out, if_pos h2]; exact s_l01Value W R0 (by omega))
          clear h2
          go_wp2_with (go_at_call 38; refine (HV2.out _).mono ?_; rintro e w4 ⟨rfl, n4, rfl⟩)
          go_meet
          exact ⟨rfl, below_drewN HB2.out _⟩
        · have hmb : ((m : Int) == 2) = false := by rw [beq_eq_false_iff_ne]; have := HMR.out; omega
          have HQ1 := Lib.hid (show Q = 1 by rw [HPQ.out, if_neg h2])
          clear h2
          go_wp2_with fail
          go_meet
          exact ⟨by rw [HQ1.out], below_drewN HB2.out _⟩
      case rest =>
        obtain ⟨rfl, hb5⟩ := hcut
        rename World => w5
        have HB5 := Lib.hid hb5
        clear hb5 HV HB2 HO2
        by_cases c1 : 1 < R.length
        · have hc1 : (2 : Int) < (m : Int) := by have := HMR.out; omega
          have HRR := Lib.hid (show PR = (0, 6) by rw [HPR.out, if_pos (.inl c1)])
          clear c1
          go_wp2_with fail
          go_ret2
          exact ⟨by rw [HRR.out]; rfl, HB5.out⟩
        · have hc1 : ¬ (2 : Int) < (m : Int) := by have := HMR.out; omega
          by_cases c2 : P < 0
          · have HRR := Lib.hid (show PR = (0, 6) by rw [HPR.out, if_pos (.inr (.inl c2))])
            clear c1
            go_wp2_with fail
            go_ret2
            exact ⟨by rw [HRR.out]; rfl, HB5.out⟩
          · by_cases c3 : Q < 1
            · have HRR := Lib.hid (show PR = (0, 6) by rw [HPR.out, if_pos (.inr (.inr (.inl c3)))])
              clear c1
              go_wp2_with fail
              go_ret2
              exact ⟨by rw [HRR.out]; rfl, HB5.out⟩
            · by_cases c4 : P = 0
              · by_cases c5 : sg < 0
                · have HRR := Lib.hid (show PR = (0, 6) by rw [HPR.out, if_pos (.inr (.inr (.inr ⟨c4, c5⟩)))])
                  have hpb : (P == 0) = true := by simpa using c4
                  clear c1 c4
                  go_wp2_with fail
                  go_ret2
                  exact ⟨by rw [HRR.out]; rfl, HB5.out⟩
                · have hpb : (P == 0) = true := by simpa using c4
                  have HPN := Lib.hid (show PR = if Q % 10007 = 0 then (0, 5) else (nofR (sg * P) Q, 0) by rw [HPR.out, if_neg (fun h => h.elim c1 fun h => h.elim c2 fun h => h.elim c3 fun h => c5 h.2)])
                  clear c1 c4
                  have hsP : sg * P ≤ 2000000000 ∧ -2000000000 ≤ sg * P := by
                    rcases hbd.2.2.2.2 with h | h <;> rw [h] <;> omega
                  have HFR := Lib.hid (fun W => s_l01FracN (sg * P) Q W (by omega) (by omega) (by omega) (by omega))
                  have htm : Q.tmod 10007 = Q % 10007 := Int.tmod_eq_emod_of_nonneg (by omega)
                  by_cases c6 : Q % 10007 = 0
                  · have HRR := Lib.hid (show PR = (0, 5) by rw [HPN.out, if_pos c6])
                    have hqb : (Q % 10007 == 0) = true := by simpa using c6
                    clear c6
                    go_wp2_with fail
                    go_ret2
                    exact ⟨by rw [HRR.out]; rfl, HB5.out⟩
                  · have HRR := Lib.hid (show PR = (nofR (sg * P) Q, 0) by rw [HPN.out, if_neg c6])
                    have hqb : (Q % 10007 == 0) = false := by simpa using c6
                    clear c6
                    go_wp2_with (go_at_call 39; refine (HFR.out _).mono ?_; rintro e w6 ⟨rfl, rfl⟩)
                    go_ret2
                    exact ⟨by rw [HRR.out]; rfl, HB5.out⟩
              · have hpb : (P == 0) = false := by simpa using c4
                have HPN := Lib.hid (show PR = if Q % 10007 = 0 then (0, 5) else (nofR (sg * P) Q, 0) by rw [HPR.out, if_neg (fun h => h.elim c1 fun h => h.elim c2 fun h => h.elim c3 fun h => c4 h.1)])
                clear c1 c4
                have hsP : sg * P ≤ 2000000000 ∧ -2000000000 ≤ sg * P := by
                  rcases hbd.2.2.2.2 with h | h <;> rw [h] <;> omega
                have HFR := Lib.hid (fun W => s_l01FracN (sg * P) Q W (by omega) (by omega) (by omega) (by omega))
                have htm : Q.tmod 10007 = Q % 10007 := Int.tmod_eq_emod_of_nonneg (by omega)
                by_cases c6 : Q % 10007 = 0
                · have HRR := Lib.hid (show PR = (0, 5) by rw [HPN.out, if_pos c6])
                  have hqb : (Q % 10007 == 0) = true := by simpa using c6
                  clear c6
                  go_wp2_with fail
                  go_ret2
                  exact ⟨by rw [HRR.out]; rfl, HB5.out⟩
                · have HRR := Lib.hid (show PR = (nofR (sg * P) Q, 0) by rw [HPN.out, if_neg c6])
                  have hqb : (Q % 10007 == 0) = false := by simpa using c6
                  clear c6
                  go_wp2_with (go_at_call 39; refine (HFR.out _).mono ?_; rintro e w6 ⟨rfl, rfl⟩)
                  go_ret2
                  exact ⟨by rw [HRR.out]; rfl, HB5.out⟩
  · have HSG := Lib.hid (show sg = 1 by rw [HPS.out, if_neg hneg])
    have hHe : H2 = H := by rw [HH2.out, if_neg hneg]
    subst hHe
    by_cases hl0 : H2.length = 0
    · have hl1 : ¬ (0 : Int) < (H2.length : Int) := by omega
      clear hneg hl0
      go_upto_if 21 with fail
      go_cut [5] from 8 to 65 (fun s wx => s = .int .i64 sg ∧ Own wx w.heap.size tStr (.slice (some ⟨g, 0, none⟩) m c1) (strs (H2 :: R)) ∧ Below w.heap.size w wx)
      case first =>
        go_wp2_with fail
        go_meet
        exact ⟨by rw [HSG.out], HO1.out, HB1.out⟩
      case rest =>
        clear g0 hs2 hl1 HST HGW HSG HO1 HB1
        obtain ⟨rfl, ho2, hb2⟩ := hcut
        rename World => w2
        have HO2 := Lib.hid ho2
        have HB2 := Lib.hid hb2
        clear ho2 hb2
        have g0 : w2.cell? ⟨g, 0, none⟩ = some (strB H2) := strs_cell HO2.out (j := 0) rfl
        have HV := Lib.hid (fun W => show Calls Tryz.prog 38 #[strB H2] W fun e w' => e = .returned (.int .i64 P) ∧ ∃ n, w' = W.drewN n from by rw [HPP.out]; exact s_l01Value W H2 (by omega))
        go_upto_if 34 with (go_at_call 38; refine (HV.out _).mono ?_; rintro e w3 ⟨rfl, n3, rfl⟩)
        clear g0
        go_cut [7] from 8 to 65 (fun x wx => x = .int .i64 Q ∧ Below w.heap.size w wx)
        case first =>
          by_cases h2 : R.length = 1
          · have hmb : ((m : Int) == 2) = true := by rw [beq_iff_eq]; have := HMR.out; omega
            obtain ⟨R0, rfl⟩ : ∃ R0, R = [R0] := by
              cases R with
              | nil => simp at h2
              | cons a b => cases b with
                | nil => exact ⟨a, rfl⟩
                | cons x y => simp at h2
            have hm2 : (1 : Int) < (m : Int) := by have := HMR.out; simp at this; omega
            have g1 : w2.cell? ⟨g, 1, none⟩ = some (strB R0) := strs_cell HO2.out (j := 1) rfl
            have hr0 := HRL.out R0 (by simp)
            have HV2 := Lib.hid (fun W => show Calls Tryz.prog 38 #[strB R0] W fun e w' => e = .returned (.int .i64 Q) ∧ ∃ n, w' = W.drewN n from by rw [HPQ.out, if_pos h2]; exact s_l01Value W R0 (by omega))
            clear h2
            go_wp2_with (go_at_call 38; refine (HV2.out _).mono ?_; rintro e w4 ⟨rfl, n4, rfl⟩)
            go_meet
            exact ⟨rfl, below_drewN HB2.out _⟩
          · have hmb : ((m : Int) == 2) = false := by rw [beq_eq_false_iff_ne]; have := HMR.out; omega
            have HQ1 := Lib.hid (show Q = 1 by rw [HPQ.out, if_neg h2])
            clear h2
            go_wp2_with fail
            go_meet
            exact ⟨by rw [HQ1.out], below_drewN HB2.out _⟩
        case rest =>
          obtain ⟨rfl, hb5⟩ := hcut
          rename World => w5
          have HB5 := Lib.hid hb5
          clear hb5 HV HB2 HO2
          by_cases c1 : 1 < R.length
          · have hc1 : (2 : Int) < (m : Int) := by have := HMR.out; omega
            have HRR := Lib.hid (show PR = (0, 6) by rw [HPR.out, if_pos (.inl c1)])
            clear c1
            go_wp2_with fail
            go_ret2
            exact ⟨by rw [HRR.out]; rfl, HB5.out⟩
          · have hc1 : ¬ (2 : Int) < (m : Int) := by have := HMR.out; omega
            by_cases c2 : P < 0
            · have HRR := Lib.hid (show PR = (0, 6) by rw [HPR.out, if_pos (.inr (.inl c2))])
              clear c1
              go_wp2_with fail
              go_ret2
              exact ⟨by rw [HRR.out]; rfl, HB5.out⟩
            · by_cases c3 : Q < 1
              · have HRR := Lib.hid (show PR = (0, 6) by rw [HPR.out, if_pos (.inr (.inr (.inl c3)))])
                clear c1
                go_wp2_with fail
                go_ret2
                exact ⟨by rw [HRR.out]; rfl, HB5.out⟩
              · by_cases c4 : P = 0
                · by_cases c5 : sg < 0
                  · have HRR := Lib.hid (show PR = (0, 6) by rw [HPR.out, if_pos (.inr (.inr (.inr ⟨c4, c5⟩)))])
                    have hpb : (P == 0) = true := by simpa using c4
                    clear c1 c4
                    go_wp2_with fail
                    go_ret2
                    exact ⟨by rw [HRR.out]; rfl, HB5.out⟩
                  · have hpb : (P == 0) = true := by simpa using c4
                    have HPN := Lib.hid (show PR = if Q % 10007 = 0 then (0, 5) else (nofR (sg * P) Q, 0) by rw [HPR.out, if_neg (fun h => h.elim c1 fun h => h.elim c2 fun h => h.elim c3 fun h => c5 h.2)])
                    clear c1 c4
                    have hsP : sg * P ≤ 2000000000 ∧ -2000000000 ≤ sg * P := by
                      rcases hbd.2.2.2.2 with h | h <;> rw [h] <;> omega
                    have HFR := Lib.hid (fun W => s_l01FracN (sg * P) Q W (by omega) (by omega) (by omega) (by omega))
                    have htm : Q.tmod 10007 = Q % 10007 := Int.tmod_eq_emod_of_nonneg (by omega)
                    by_cases c6 : Q % 10007 = 0
                    · have HRR := Lib.hid (show PR = (0, 5) by rw [HPN.out, if_pos c6])
                      have hqb : (Q % 10007 == 0) = true := by simpa using c6
                      clear c6
                      go_wp2_with fail
                      go_ret2
                      exact ⟨by rw [HRR.out]; rfl, HB5.out⟩
                    · have HRR := Lib.hid (show PR = (nofR (sg * P) Q, 0) by rw [HPN.out, if_neg c6])
                      have hqb : (Q % 10007 == 0) = false := by simpa using c6
                      clear c6
                      go_wp2_with (go_at_call 39; refine (HFR.out _).mono ?_; rintro e w6 ⟨rfl, rfl⟩)
                      go_ret2
                      exact ⟨by rw [HRR.out]; rfl, HB5.out⟩
                · have hpb : (P == 0) = false := by simpa using c4
                  have HPN := Lib.hid (show PR = if Q % 10007 = 0 then (0, 5) else (nofR (sg * P) Q, 0) by rw [HPR.out, if_neg (fun h => h.elim c1 fun h => h.elim c2 fun h => h.elim c3 fun h => c4 h.1)])
                  clear c1 c4
                  have hsP : sg * P ≤ 2000000000 ∧ -2000000000 ≤ sg * P := by
                    rcases hbd.2.2.2.2 with h | h <;> rw [h] <;> omega
                  have HFR := Lib.hid (fun W => s_l01FracN (sg * P) Q W (by omega) (by omega) (by omega) (by omega))
                  have htm : Q.tmod 10007 = Q % 10007 := Int.tmod_eq_emod_of_nonneg (by omega)
                  by_cases c6 : Q % 10007 = 0
                  · have HRR := Lib.hid (show PR = (0, 5) by rw [HPN.out, if_pos c6])
                    have hqb : (Q % 10007 == 0) = true := by simpa using c6
                    clear c6
                    go_wp2_with fail
                    go_ret2
                    exact ⟨by rw [HRR.out]; rfl, HB5.out⟩
                  · have HRR := Lib.hid (show PR = (nofR (sg * P) Q, 0) by rw [HPN.out, if_neg c6])
                    have hqb : (Q % 10007 == 0) = false := by simpa using c6
                    clear c6
                    go_wp2_with (go_at_call 39; refine (HFR.out _).mono ?_; rintro e w6 ⟨rfl, rfl⟩)
                    go_ret2
                    exact ⟨by rw [HRR.out]; rfl, HB5.out⟩
    · obtain ⟨c0, hc0⟩ : ∃ c, H2[0]? = some c := ⟨_, List.getElem?_eq_getElem (by omega)⟩
      have hix := str_ix hc0
      have hcb : ((c0.toNat : Int) == 45) = false := by
        rw [beq_eq_false_iff_ne]
        intro e
        refine hneg ?_
        rw [List.head?_eq_getElem?, hc0]
        congr 1
        exact UInt8.toNat_inj.1 (by have h45 : (45 : UInt8).toNat = 45 := rfl; omega)
      have hl1 : (0 : Int) < (H2.length : Int) := by omega
      have hl2 : 0 < H2.length := by omega
      clear hneg hl0 hc0
      go_upto_if 21 with fail
      go_cut [5] from 8 to 65 (fun s wx => s = .int .i64 sg ∧ Own wx w.heap.size tStr (.slice (some ⟨g, 0, none⟩) m c1) (strs (H2 :: R)) ∧ Below w.heap.size w wx)
      case first =>
        go_wp2_with fail
        go_meet
        exact ⟨by rw [HSG.out], HO1.out, HB1.out⟩
      case rest =>
        clear g0 hs2 hl1 hl2 hix hcb HST HGW HSG HO1 HB1
        obtain ⟨rfl, ho2, hb2⟩ := hcut
        rename World => w2
        have HO2 := Lib.hid ho2
        have HB2 := Lib.hid hb2
        clear ho2 hb2
        have g0 : w2.cell? ⟨g, 0, none⟩ = some (strB H2) := strs_cell HO2.out (j := 0) rfl
        have HV := Lib.hid (fun W => show Calls Tryz.prog 38 #[strB H2] W fun e w' => e = .returned (.int .i64 P) ∧ ∃ n, w' = W.drewN n from by rw [HPP.out]; exact s_l01Value W H2 (by omega))
        go_upto_if 34 with (go_at_call 38; refine (HV.out _).mono ?_; rintro e w3 ⟨rfl, n3, rfl⟩)
        clear g0
        go_cut [7] from 8 to 65 (fun x wx => x = .int .i64 Q ∧ Below w.heap.size w wx)
        case first =>
          by_cases h2 : R.length = 1
          · have hmb : ((m : Int) == 2) = true := by rw [beq_iff_eq]; have := HMR.out; omega
            obtain ⟨R0, rfl⟩ : ∃ R0, R = [R0] := by
              cases R with
              | nil => simp at h2
              | cons a b => cases b with
                | nil => exact ⟨a, rfl⟩
                | cons x y => simp at h2
            have hm2 : (1 : Int) < (m : Int) := by have := HMR.out; simp at this; omega
            have g1 : w2.cell? ⟨g, 1, none⟩ = some (strB R0) := strs_cell HO2.out (j := 1) rfl
            have hr0 := HRL.out R0 (by simp)
            have HV2 := Lib.hid (fun W => show Calls Tryz.prog 38 #[strB R0] W fun e w' => e = .returned (.int .i64 Q) ∧ ∃ n, w' = W.drewN n from by rw [HPQ.out, if_pos h2]; exact s_l01Value W R0 (by omega))
            clear h2
            go_wp2_with (go_at_call 38; refine (HV2.out _).mono ?_; rintro e w4 ⟨rfl, n4, rfl⟩)
            go_meet
            exact ⟨rfl, below_drewN HB2.out _⟩
          · have hmb : ((m : Int) == 2) = false := by rw [beq_eq_false_iff_ne]; have := HMR.out; omega
            have HQ1 := Lib.hid (show Q = 1 by rw [HPQ.out, if_neg h2])
            clear h2
            go_wp2_with fail
            go_meet
            exact ⟨by rw [HQ1.out], below_drewN HB2.out _⟩
        case rest =>
          obtain ⟨rfl, hb5⟩ := hcut
          rename World => w5
          have HB5 := Lib.hid hb5
          clear hb5 HV HB2 HO2
          by_cases c1 : 1 < R.length
          · have hc1 : (2 : Int) < (m : Int) := by have := HMR.out; omega
            have HRR := Lib.hid (show PR = (0, 6) by rw [HPR.out, if_pos (.inl c1)])
            clear c1
            go_wp2_with fail
            go_ret2
            exact ⟨by rw [HRR.out]; rfl, HB5.out⟩
          · have hc1 : ¬ (2 : Int) < (m : Int) := by have := HMR.out; omega
            by_cases c2 : P < 0
            · have HRR := Lib.hid (show PR = (0, 6) by rw [HPR.out, if_pos (.inr (.inl c2))])
              clear c1
              go_wp2_with fail
              go_ret2
              exact ⟨by rw [HRR.out]; rfl, HB5.out⟩
            · by_cases c3 : Q < 1
              · have HRR := Lib.hid (show PR = (0, 6) by rw [HPR.out, if_pos (.inr (.inr (.inl c3)))])
                clear c1
                go_wp2_with fail
                go_ret2
                exact ⟨by rw [HRR.out]; rfl, HB5.out⟩
              · by_cases c4 : P = 0
                · by_cases c5 : sg < 0
                  · have HRR := Lib.hid (show PR = (0, 6) by rw [HPR.out, if_pos (.inr (.inr (.inr ⟨c4, c5⟩)))])
                    have hpb : (P == 0) = true := by simpa using c4
                    clear c1 c4
                    go_wp2_with fail
                    go_ret2
                    exact ⟨by rw [HRR.out]; rfl, HB5.out⟩
                  · have hpb : (P == 0) = true := by simpa using c4
                    have HPN := Lib.hid (show PR = if Q % 10007 = 0 then (0, 5) else (nofR (sg * P) Q, 0) by rw [HPR.out, if_neg (fun h => h.elim c1 fun h => h.elim c2 fun h => h.elim c3 fun h => c5 h.2)])
                    clear c1 c4
                    have hsP : sg * P ≤ 2000000000 ∧ -2000000000 ≤ sg * P := by
                      rcases hbd.2.2.2.2 with h | h <;> rw [h] <;> omega
                    have HFR := Lib.hid (fun W => s_l01FracN (sg * P) Q W (by omega) (by omega) (by omega) (by omega))
                    have htm : Q.tmod 10007 = Q % 10007 := Int.tmod_eq_emod_of_nonneg (by omega)
                    by_cases c6 : Q % 10007 = 0
                    · have HRR := Lib.hid (show PR = (0, 5) by rw [HPN.out, if_pos c6])
                      have hqb : (Q % 10007 == 0) = true := by simpa using c6
                      clear c6
                      go_wp2_with fail
                      go_ret2
                      exact ⟨by rw [HRR.out]; rfl, HB5.out⟩
                    · have HRR := Lib.hid (show PR = (nofR (sg * P) Q, 0) by rw [HPN.out, if_neg c6])
                      have hqb : (Q % 10007 == 0) = false := by simpa using c6
                      clear c6
                      go_wp2_with (go_at_call 39; refine (HFR.out _).mono ?_; rintro e w6 ⟨rfl, rfl⟩)
                      go_ret2
                      exact ⟨by rw [HRR.out]; rfl, HB5.out⟩
                · have hpb : (P == 0) = false := by simpa using c4
                  have HPN := Lib.hid (show PR = if Q % 10007 = 0 then (0, 5) else (nofR (sg * P) Q, 0) by rw [HPR.out, if_neg (fun h => h.elim c1 fun h => h.elim c2 fun h => h.elim c3 fun h => c4 h.1)])
                  clear c1 c4
                  have hsP : sg * P ≤ 2000000000 ∧ -2000000000 ≤ sg * P := by
                    rcases hbd.2.2.2.2 with h | h <;> rw [h] <;> omega
                  have HFR := Lib.hid (fun W => s_l01FracN (sg * P) Q W (by omega) (by omega) (by omega) (by omega))
                  have htm : Q.tmod 10007 = Q % 10007 := Int.tmod_eq_emod_of_nonneg (by omega)
                  by_cases c6 : Q % 10007 = 0
                  · have HRR := Lib.hid (show PR = (0, 5) by rw [HPN.out, if_pos c6])
                    have hqb : (Q % 10007 == 0) = true := by simpa using c6
                    clear c6
                    go_wp2_with fail
                    go_ret2
                    exact ⟨by rw [HRR.out]; rfl, HB5.out⟩
                  · have HRR := Lib.hid (show PR = (nofR (sg * P) Q, 0) by rw [HPN.out, if_neg c6])
                    have hqb : (Q % 10007 == 0) = false := by simpa using c6
                    clear c6
                    go_wp2_with (go_at_call 39; refine (HFR.out _).mono ?_; rintro e w6 ⟨rfl, rfl⟩)
                    go_ret2
                    exact ⟨by rw [HRR.out]; rfl, HB5.out⟩
end Go.Proofs.YtnnfjjadehgmeaaGreatDoor

set_option maxRecDepth 100000
set_option linter.unusedVariables false
set_option linter.unusedSimpArgs false
namespace Go.Proofs.YtnnfjjadehgmeaaGreatDoor
open Go.RowKit

/-- what the library's functions read -/
structure LibOK (w : World) : Prop where
  pow : PowTab w
  syn : ∃ tp p, w.var? Tryz.prog "strconv.ErrSyntax" = some #[.iface tp p]
  rng : ∃ tp p, w.var? Tryz.prog "strconv.ErrRange" = some #[.iface tp p]
  mx : ∃ m, w.cell? ⟨0, 0, none⟩ = some (.int .i64 m)
theorem var_below {w w' : World} {n : String} {x : Array Value} (h : w.var? Tryz.prog n = some x) (hb : Below w.heap.size w w') : w'.var? Tryz.prog n = some x := by
  unfold World.var? at h ⊢
  cases hg : Tryz.prog.globalNamed n with
  | none => rw [hg] at h; cases h
  | some g =>
    rw [hg] at h
    simp only [Option.bind_some] at h ⊢
    have hlt : g < w.heap.size := by
      rcases Nat.lt_or_ge g w.heap.size with h' | h'
      · exact h'
      · rw [Array.getElem?_eq_none h'] at h; cases h
    rw [hb.block g hlt]
    exact h
theorem LibOK.below {w w' : World} (h : LibOK w) (hb : Below w.heap.size w w') : LibOK w' := by
  obtain ⟨h1, ⟨t, p, h2⟩, ⟨t', p', h3⟩, ⟨m, h4⟩⟩ := h
  exact ⟨powTab_below h1 hb, ⟨t, p, var_below h2 hb⟩, ⟨t', p', var_below h3 hb⟩, ⟨m, (hb.cell (World.block_lt_of_cell? w _ h4)).trans h4⟩⟩
theorem lib_ParseInt (l : List UInt8) (w : World) (hl : l.length ≤ 4294967000) (h : LibOK w) :
    Calls Tryz.prog 90 #[strB l, .int .i64 10, .int .i64 64] w fun e w' => ∃ v er, e = .returned (.tuple #[.int .i64 v, er]) ∧ Below w.heap.size w w' ∧ ((er = .nilIface ∧ Lib.parseIntB 64 l = .ok v) ∨ ((∃ t x, er = .iface t x) ∧ ∀ v', Lib.parseIntB 64 l ≠ .ok v')) := by
  obtain ⟨t1, p1, h1⟩ := h.syn
  obtain ⟨t2, p2, h2⟩ := h.rng
  have hs : (⟨l.toArray⟩ : ByteArray).size = l.length := by simp [ByteArray.size]
  cases hp : Lib.parseIntB 64 l with
  | ok v =>
    refine (Any.strconv_ParseInt_10_at64_ok Tryz.laysC174 ⟨l.toArray⟩ (by omega) v hp w).mono fun e w' ⟨he, hw⟩ => ⟨v, .nilIface, he, ?_, .inl ⟨rfl, rfl⟩⟩
    rcases hw with rfl | ⟨t, rfl⟩
    · exact Below.refl _ _
    · exact Lib.bytesWorld_below _ _ _
  | range =>
    refine (Any.strconv_ParseInt_10_at64_range_var Tryz.laysC174 ⟨l.toArray⟩ (by omega) hp t2 p2 w h2).mono fun e w' ⟨N, he, _, _, hb⟩ => ⟨_, _, he, hb, .inr ⟨⟨_, _, rfl⟩, fun v' e => by cases e⟩⟩
  | _ =>
    refine (Any.strconv_ParseInt_10_at64_syntax_var Tryz.laysC174 ⟨l.toArray⟩ (by omega) hp t1 p1 w h1).mono fun e w' ⟨N, he, _, _, hb⟩ => ⟨_, _, he, hb, .inr ⟨⟨_, _, rfl⟩, fun v' e => by cases e⟩⟩
theorem lib_FormatInt64 (x : Int) (w : World) (h0 : -9223372036854775808 ≤ x) (h1 : x ≤ 9223372036854775807) (ht : PowTab w) :
    Calls Tryz.prog 73 #[.int .i64 x, .int .i64 10] w fun e w' => e = .returned (strB (Lib.itoa x)) ∧ Below w.heap.size w w' :=
  (Any.strconv_FormatInt_10 Tryz.laysM173 x h0 h1 w ht).mono fun e w' ⟨he, k, os, hw⟩ => ⟨he, hw ▸ below_grow w k os⟩
set_option maxHeartbeats 1000000 in
theorem i_NumberOf (p q : Int) (w : World) (h0 : -1000000000 ≤ p) (h1 : p ≤ 1000000000) (g0 : -1000000000 ≤ q) (g1 : q ≤ 1000000000) :
    Calls Tryz.prog 70 #[.int .i64 p, .int .i64 q] w fun e w' => e = .returned (.tuple #[.int .i64 (if q % 10007 = 0 then 0 else nofR p q), .int .i64 (if q % 10007 = 0 then 5 else 0)]) ∧ w = w' := by
  have hin1 : inR p (-1000000000) 1000000000 = true := inR_iff.2 ⟨h0, h1⟩
  have hin2 : inR q (-1000000000) 1000000000 = true := inR_iff.2 ⟨g0, g1⟩
  have HIP := Lib.hid (fun W => show Calls Tryz.prog 30 #[.int .i64 p, .int .i64 (-1000000000), .int .i64 1000000000] W fun e w' => e = .returned (.bool true) ∧ W = w' from by have h := i_inRange p (-1000000000) 1000000000 W; rwa [hin1] at h)
  have HIQ := Lib.hid (fun W => show Calls Tryz.prog 30 #[.int .i64 q, .int .i64 (-1000000000), .int .i64 1000000000] W fun e w' => e = .returned (.bool true) ∧ W = w' from by have h := i_inRange q (-1000000000) 1000000000 W; rwa [hin2] at h)
  have htm : (q.tmod 10007 = 0) ↔ (q % 10007 = 0) := by
    constructor
    · intro h; exact Int.emod_eq_zero_of_dvd (Int.dvd_of_tmod_eq_zero h)
    · intro h; exact Int.tmod_eq_zero_of_dvd (Int.dvd_of_emod_eq_zero h)
  by_cases hq : q % 10007 = 0
  · have hqb : (q.tmod 10007 == 0) = true := by simpa using htm.2 hq
    rw [if_pos hq, if_pos hq]
    clear hin1 hin2 htm hq
    go_enter Tryz.func70, Tryz.ntmps70
    go_wp2_with (first
      | (go_at_call 30; with_reducible (refine (HIP.out _).mono ?_); rintro e w2 ⟨rfl, rfl⟩)
      | (go_at_call 30; with_reducible (refine (HIQ.out _).mono ?_); rintro e w2 ⟨rfl, rfl⟩))
    go_ret2
    exact ⟨rfl, rfl⟩
  · have hqb : (q.tmod 10007 == 0) = false := by simpa using fun h => hq (htm.1 h)
    rw [if_neg hq, if_neg hq]
    obtain ⟨x, hx⟩ : ∃ x, x = p % 10007 := ⟨_, rfl⟩
    obtain ⟨y, hy⟩ : ∃ y, y = q % 10007 := ⟨_, rfl⟩
    have hpb : 0 ≤ pw y 10005 ∧ pw y 10005 ≤ 10006 := by unfold pw; omega
    obtain ⟨z, hz⟩ : ∃ z, z = pw y 10005 := ⟨_, rfl⟩
    rw [← hz] at hpb
    have hx0 : 0 ≤ x ∧ x ≤ 10006 := by omega
    have hmb := mul_bd 10006 10006 hx0.1 hx0.2 hpb.1 hpb.2
    have HM1 := Lib.hid (fun W => show Calls Tryz.prog 71 #[.int .i64 p] W fun e w' => e = .returned (.int .i64 x) ∧ W = w' from by rw [hx]; exact i_num p W (by omega) (by omega))
    have HM2 := Lib.hid (fun W => show Calls Tryz.prog 71 #[.int .i64 q] W fun e w' => e = .returned (.int .i64 y) ∧ W = w' from by rw [hy]; exact i_num q W (by omega) (by omega))
    have HIV := Lib.hid (fun W => show Calls Tryz.prog 91 #[.int .i64 y] W fun e w' => e = .returned (.int .i64 z) ∧ W = w' from by rw [hz]; exact i_inv y W (by omega) (by omega))
    have HMU := Lib.hid (fun W => show Calls Tryz.prog 71 #[.int .i64 (x * z)] W fun e w' => e = .returned (.int .i64 (nofR p q)) ∧ W = w' from by
      have h := i_num (x * z) W (by omega) (by omega)
      rwa [show x * z % 10007 = nofR p q by unfold nofR; rw [hx, hz, hy]] at h)
    clear hin1 hin2 htm hq hx hy hz
    go_enter Tryz.func70, Tryz.ntmps70
    go_wp2_with (first
      | (go_at_call 30; with_reducible (refine (HIP.out _).mono ?_); rintro e w2 ⟨rfl, rfl⟩)
      | (go_at_call 30; with_reducible (refine (HIQ.out _).mono ?_); rintro e w2 ⟨rfl, rfl⟩)
      | (go_at_call 71; with_reducible (refine (HM1.out _).mono ?_); rintro e w2 ⟨rfl, rfl⟩)
      | (go_at_call 71; with_reducible (refine (HM2.out _).mono ?_); rintro e w2 ⟨rfl, rfl⟩)
      | (go_at_call 91; refine (HIV.out _).mono ?_; rintro e w2 ⟨rfl, rfl⟩)
      | (go_at_call 71; refine (HMU.out _).mono ?_; rintro e w2 ⟨rfl, rfl⟩))
    go_ret2
    exact ⟨rfl, rfl⟩
theorem str_ne {a b : List UInt8} (h : a ≠ b) : (⟨a.toArray⟩ : ByteArray) ≠ ⟨b.toArray⟩ := fun e => h (by
  have := congrArg (fun x : ByteArray => x.data.toList) e
  simpa using this)
set_option maxHeartbeats 2000000 in
theorem i_readDecimal (w : World) (l : List UInt8) (hl : l.length ≤ 4294967000) (h : LibOK w) :
    Calls Tryz.prog 69 #[strB l] w fun e w' => e = .returned (.tuple #[.int .i64 (rdB l).1, .bool (rdB l).2]) ∧ Below w.heap.size w w' := by
  have HL := Lib.hid h
  have HPI := Lib.hid (lib_ParseInt l w hl h)
  obtain ⟨RB, hRB⟩ : ∃ RB, RB = rdB l := ⟨_, rfl⟩
  rw [← hRB]
  have HRB := Lib.hid hRB
  clear h hRB
  go_enter Tryz.func69, Tryz.ntmps69
  go_upto_region 2 with (go_at_call 90; refine HPI.out.mono ?_; rintro e w1 ⟨v, er, rfl, hb1, hcase⟩; have HB1 := Lib.hid hb1; have HC := Lib.hid hcase; clear hb1 hcase)
  rcases HC.out with ⟨rfl, hok⟩ | ⟨⟨t, x, rfl⟩, hno⟩
  · have hbd := Lib.parseIntB_bounds (B := 64) hok
    have hro := rd_ok hok
    have hv0 : -9223372036854775808 ≤ v ∧ v ≤ 9223372036854775807 := by
      have e : ((2 ^ (64 - 1) : Nat) : Int) = 9223372036854775808 := by decide
      rw [e] at hbd; omega
    clear hok hbd
    by_cases c1 : v < 0
    · have HE := Lib.hid (show RB = (0, false) by rw [HRB.out, hro, if_pos (.inl c1)])
      clear hro
      go_wp2_with fail
      go_ret2
      exact ⟨by rw [HE.out]; rfl, HB1.out⟩
    · by_cases c2 : 9 < l.length
      · have HE := Lib.hid (show RB = (0, false) by rw [HRB.out, hro, if_pos (.inr (.inl c2))])
        have c2i : (9 : Int) < (l.length : Int) := by omega
        clear hro c2
        go_wp2_with fail
        go_ret2
        exact ⟨by rw [HE.out]; rfl, HB1.out⟩
      · have c2i : ¬ (9 : Int) < (l.length : Int) := by omega
        have HFI := Lib.hid (lib_FormatInt64 v w1 hv0.1 hv0.2 (HL.out.below HB1.out).pow)
        by_cases c3 : Lib.itoa v = l
        · have HE := Lib.hid (show RB = (v, true) by rw [HRB.out, hro, if_neg (fun h => h.elim c1 fun h => h.elim c2 fun h => h c3)])
          rw [c3] at HFI
          clear hro c2 c3
          go_wp2_with (go_at_call 73; refine HFI.out.mono ?_; rintro e w2 ⟨rfl, hb2⟩)
          go_ret2
          exact ⟨by rw [HE.out]; rfl, HB1.out.trans (hb2.mono HB1.out.size)⟩
        · have HE := Lib.hid (show RB = (0, false) by rw [HRB.out, hro, if_pos (.inr (.inr c3))])
          have hne := str_ne c3
          obtain ⟨F, hF⟩ : ∃ F, F = Lib.itoa v := ⟨_, rfl⟩
          rw [← hF] at HFI hne
          have hneb : (F == l) = false := beq_eq_false_iff_ne.2 (by rw [hF]; exact c3)
          clear hro c2 c3 hF
          go_wp2_with (go_at_call 73; refine HFI.out.mono ?_; rintro e w2 ⟨rfl, hb2⟩)
          go_ret2
          exact ⟨by rw [HE.out]; rfl, HB1.out.trans (hb2.mono HB1.out.size)⟩
  · have HE := Lib.hid (show RB = (0, false) by rw [HRB.out]; exact rd_bad hno)
    clear hno
    go_wp2_with fail
    go_ret2
    exact ⟨by rw [HE.out]; rfl, HB1.out⟩
end Go.Proofs.YtnnfjjadehgmeaaGreatDoor

