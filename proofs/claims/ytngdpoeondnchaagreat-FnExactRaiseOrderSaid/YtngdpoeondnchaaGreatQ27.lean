/- Walk: l07Conv of the reference. | Walks: l03Nodes, l05Compare, l05Order, l03Root, l03Branches, a copy of a list of lists, l03Times of the reference. -/
import Derived.Test.YtngdpoeondnchaaGreatQ24
import Derived.Test.YtngdpoeondnchaaGreatQ26
import Derived.Test.YtngdpoeondnchaaGreatQ14
import Derived.Test.YtngdpoeondnchaaGreatQ25
import Derived.Test.YtngdpoeondnchaaGreatQ22
import Derived.Test.YtngdpoeondnchaaGreatQ15
import Derived.Test.YtngdpoeondnchaaGreatQ8
set_option maxRecDepth 100000
set_option linter.unusedVariables false
set_option linter.unusedSimpArgs false
namespace Go.Proofs.YtngdpoeondnchaaGreat
open Go.RowKit

/-- the lists of cuts at the places below m, read only -/
def R7 (w : World) (B : Nat) (A : Option Addr) (m : Nat) : Prop := ∀ i, i + 1 < m → ∃ ad css A2 c2, A = some ad ∧ OwnK w B t7 3 (.slice A2 css.length c2) css ∧ M7s w B css (CTab.getD i []) ∧ w.cell? (ad.add (i + 1)) = some (.slice A2 css.length c2)
theorem R7.below {w w' : World} {B m : Nat} {A : Option Addr} (h : R7 w B A m) (hb : Below w.heap.size w w') : R7 w' B A m := fun i hi => by
  obtain ⟨ad, css, A2, c2, h1, h2, h3, h4⟩ := h i hi
  exact ⟨ad, css, A2, c2, h1, h2.below hb, h3.below hb, keepCell hb h4⟩
theorem tcI_prod (a b : List Int) (cr : List Nat) (tr n : Nat) : (n : Int) * b.getD tr 0 % 10007 * prodZ (gat a cr) % 10007 = tcI a b ((cr, tr), n) := by
  rw [tcI_is, mul_modL]
  unfold cvT
  show (n : Int) * b.getD tr 0 * prodZ (gat a cr) % 10007 = (n : Int) * (prodZ (gat a cr) * b.getD tr 0) % 10007
  rw [Int.mul_assoc, Int.mul_comm (b.getD tr 0)]
set_option maxHeartbeats 32000000 in
theorem s_l07Conv (w : World) (A : Option Addr) (va vb : Value) (c m Bp : Nat) (a b : List Int) (hC : R7 w Bp A m) (hm1 : 1 ≤ m) (hm : m ≤ 38) (h1 : Ints w va a) (l1 : a.length = 38) (hN1 : Nums a) (ha0 : a.getD 0 0 = 1) (h2 : Ints w vb b) (l2 : b.length = 38) (hN2 : Nums b) :
    Calls Tryz.prog 61 #[.slice A m c, va, vb] w fun e w' => ∃ x, e = .returned x ∧ OwnInts w' w.heap.size tI x ((cvZ a b).take m) ∧ Below w.heap.size w w' := by
  obtain ⟨Aa, ca, rfl, -, -, -⟩ := h1.open_
  obtain ⟨Ab, cb, rfl, -, -, -⟩ := h2.open_
  rw [l1] at h1 ⊢
  rw [l2] at h2 ⊢
  obtain ⟨ada, rfl, hc0, -, -⟩ := map_cell h1 hN1 (k := 0) (by omega)
  obtain ⟨adb, rfl, hd0, hb0, hb1⟩ := map_cell h2 hN2 (k := 0) (by omega)
  have HC := Lib.hid hC
  have HA1 := Lib.hid h1
  have HB1 := Lib.hid h2
  have HNA := Lib.hid hN1
  have HNB := Lib.hid hN2
  have HSZ := Lib.hid (cvZ_len a b)
  have hc0' : w.cell? ada = some (.int .i64 1) := by rw [← ha0]; simpa [Addr.add] using hc0
  obtain ⟨y0, hy0⟩ : ∃ y0, y0 = b.getD 0 0 := ⟨_, rfl⟩
  rw [← hy0] at hd0 hb0 hb1
  have hd0' : w.cell? adb = some (.int .i64 y0) := by simpa [Addr.add] using hd0
  have HS0 := Lib.hid (show ints ((cvZ a b).take 1) = [.int .i64 y0] from by rw [hy0]; rfl)
  have HM1 := Lib.hid (show (1 : Int) * y0 % 10007 = y0 from by omega)
  clear hC h1 h2 l1 l2 hN1 hN2 hc0 hd0 ha0 hy0
  go_enter Tryz.func61, Tryz.ntmps61
  go_upto_region 1 with fail
  go_cut [7] (fun o wx => Own wx w.heap.size tI o (ints ((cvZ a b).take 1)) ∧ Below w.heap.size w wx)
  case first =>
    have HMU := Lib.hid (fun W => show Calls Tryz.prog 96 #[.int .i64 1, .int .i64 y0] W fun e w' => e = .returned (.int .i64 y0) ∧ W = w' from by
      have h := s_l01Mul 1 y0 W (by omega) (by omega) (by omega) (by omega)
      rwa [HM1.out] at h)
    go_region_law ((go_simp; go_at_call 96; refine (HMU.out _).mono ?_; rintro e w3 ⟨rfl, rfl⟩))
    all_goals
      go_wp2_with fail
      go_meet
      exact ⟨by rw [HS0.out]; exact own_lit w.drew tI [.int .i64 y0] (by simp [maxLen]), ((Below.refl w.heap.size w).drew).alloc (Nat.le_refl _) _⟩
  case rest =>
    obtain ⟨ho, hb⟩ := hcut
    have OL := Lib.hid ho
    have OB := Lib.hid hb
    clear ho hb hc0' hd0'
    go_wp2_with fail
    go_loopw [7, 8] (fun o x wr => ∃ i n : Nat, n ≤ m ∧ x = .int .i64 n ∧ Hid (n = i + 1) ∧ Own wr w.heap.size tI o (ints ((cvZ a b).take n)) ∧ Below w.heap.size w wr) (fun _ x _ => m - (intOf x).toNat)
    case atStart => exact ⟨0, 1, hm1, rfl, rfl, OL.out, OB.out⟩
    case round =>
      obtain ⟨i, n, hn, rfl, HNI, ho, hb⟩ := hrel
      rename World => wq
      clear OL OB
      have hni := HNI.out
      have hel : ((cvZ a b).take n).length = n := by rw [List.length_take, HSZ.out]; omega
      have hol := ho.cells.open_
      rw [ints_len, hel] at hol
      obtain ⟨Ao, co, rfl, -, -⟩ := hol
      have HEL := Lib.hid hel
      have HO := Lib.hid ho
      have HBQ := Lib.hid hb
      have hat := HC.out.below hb
      clear ho hel hb
      by_cases hlt : n < m
      · obtain ⟨adp, css, A2, c2, rfl, ho2, hm2, hcp⟩ := hat i (by omega)
        have hi37 : i < 37 := by omega
        have hpl := CTab_ln hi37
        obtain ⟨L, hL⟩ : ∃ L, L = CTab.getD i [] := ⟨_, rfl⟩
        rw [← hL] at hm2 hpl
        have HLE := Lib.hid hL
        have hcl := hm2.1
        have HCL := Lib.hid hcl
        have hc5 : css.length ≤ 100 := by rw [hcl]; exact hpl
        have HO2 := Lib.hid ho2
        have HM2 := Lib.hid hm2
        rw [← hni] at hcp
        have HCP := Lib.hid hcp
        have HTS := Lib.hid (show ints ((cvZ a b).take (n + 1)) = ints ((cvZ a b).take n) ++ [.int .i64 (sumF (tcI a b) L % 10007)] from by
          have h1 : (cvZ a b)[n]? = some (sumF (tcI a b) L % 10007) := by rw [hni, hL]; exact cvZ_get a b hi37
          rw [List.take_add_one, h1, ints, ints, List.map_append]; rfl)
        have hii : (n : Int) < (m : Int) := by omega
        clear hat hpl hL hcl ho2 hm2 hni
        go_wp2_with fail
        go_loopw [9, 10] (fun s x wr => ∃ j : Nat, j ≤ css.length ∧ x = .int .i64 j ∧ s = .int .i64 (sumF (tcI a b) (L.take j) % 10007) ∧ Below wq.heap.size wq wr) (fun _ x _ => css.length - (intOf x).toNat)
        case atStart => exact ⟨0, Nat.zero_le _, rfl, rfl, Below.refl _ _⟩
        case round =>
          obtain ⟨j, hj, rfl, rfl, hb⟩ := hrel
          rename World => wc
          have HBC := Lib.hid hb
          have hcp := keepCell hb HCP.out
          by_cases hlj : j < css.length
          · obtain ⟨⟨⟨cr, sk⟩, q⟩, hx⟩ : ∃ x, L[j]? = some x := ⟨_, List.getElem?_eq_getElem (by rw [← HCL.out]; exact hlj)⟩
            have hxm := List.mem_of_getElem? hx
            obtain ⟨hcr, hsk, hq⟩ := CTab_at hi37 (x := ((cr, sk), q)) (by rw [← HLE.out]; exact hxm)
            have hcr : ∀ p ∈ cr, p < 38 := hcr
            have hsk : sk < 38 := hsk
            have hq : q ≤ 100 := hq
            have hcrl : cr.length ≤ 100 := by
              obtain ⟨l0, -, -, -, hc0⟩ := cut_at hi37
              exact (hc0 ((cr, sk), q) (by rw [← HLE.out]; exact hxm)).2.2.1
            obtain ⟨go, As, cs, rfl, hs1, hq0, hq1, hq2⟩ := part7_at (HO2.out.below hb) (HM2.out.below hb) hx
            have hs1 : OwnInts wc Bp tI (.slice As cr.length cs) (up cr) := hs1
            have hq0 : wc.cell? ⟨go, j * 3, none⟩ = some (.int .i64 q) := hq0
            have hq1 : wc.cell? ⟨go, j * 3 + 1, none⟩ = some (.slice As cr.length cs) := hq1
            have hq2 : wc.cell? ⟨go, j * 3 + 2, none⟩ = some (.int .i64 sk) := hq2
            have HTJ := Lib.hid (show (sumF (tcI a b) (L.take j) % 10007 + (q : Int) * b.getD sk 0 % 10007 * prodZ (gat a cr) % 10007) % 10007 = sumF (tcI a b) (L.take (j + 1)) % 10007 from by
              rw [sumF_take _ hx, tcI_prod]; omega)
            have HCR := Lib.hid hcr
            have hsb : 0 ≤ sumF (tcI a b) (L.take j) % 10007 ∧ sumF (tcI a b) (L.take j) % 10007 ≤ 10006 := by omega
            generalize sumF (tcI a b) (L.take j) % 10007 = sm at *
            obtain ⟨_, he, hcx, hx0, hx1⟩ := map_cell ((HB1.out.below HBQ.out).below hb) HNB.out (k := sk) hsk
            simp only [Option.some.injEq] at he
            subst he
            generalize b.getD sk 0 = y at *
            obtain ⟨r1, r2⟩ := mul_bd 100 10006 (show (0 : Int) ≤ (q : Int) by omega) (show (q : Int) ≤ 100 by omega) hx0 hx1
            have hprb : 0 ≤ (q : Int) * y % 10007 ∧ (q : Int) * y % 10007 ≤ 10006 := by omega
            have hjj : (j : Int) < (css.length : Int) := by omega
            have hskk : (sk : Int) < 38 := by omega
            have HSI := Lib.hid hs1.ints
            have HQ1 := Lib.hid hq1
            obtain ⟨S, hS1, hS2⟩ : ∃ S : World → Prop, (∀ Wx, S Wx → Below wc.heap.size wc Wx) ∧ (∀ Wx, Below wc.heap.size wc Wx → S Wx) := ⟨fun Wx => Below wc.heap.size wc Wx, fun _ h => h, fun _ h => h⟩
            have HSE := Lib.hid (show ∀ x : GW S, Below wc.heap.size wc x.w from fun x => hS1 _ x.h)
            have HSI0 := Lib.hid (show S wc.drew from hS2 _ (Below.refl wc.heap.size wc).drew)
            have hy0 : ∀ x : GW S, x.w.cell? ⟨go, j * 3, none⟩ = some (.int .i64 q) := fun x => keepCell (HSE.out x) hq0
            have hy1 : ∀ x : GW S, x.w.cell? ⟨go, j * 3 + 2, none⟩ = some (.int .i64 sk) := fun x => keepCell (HSE.out x) hq2
            have hy2 : ∀ x : GW S, x.w.cell? (adp.add n) = some (.slice (some ⟨go, 0, none⟩) css.length c2) := fun x => keepCell (HSE.out x) hcp
            have hy3 : ∀ x : GW S, x.w.cell? (adb.add sk) = some (.int .i64 y) := fun x => keepCell (HSE.out x) hcx
            have HN1 := Lib.hid (show ∀ x : GW S, Calls Tryz.prog 96 #[.int .i64 q, .int .i64 y] x.w (fun e w' => e = .returned (.int .i64 ((q : Int) * y % 10007)) ∧ S w') from fun x => (s_l01Mul (q : Int) y x.w (by omega) (by omega) (by omega) (by omega)).mono (by rintro e w7 ⟨rfl, rfl⟩; exact ⟨rfl, hS2 _ (HSE.out x)⟩))
            clear hS1 hS2 hxm hcr hx hb hs1
            go_upto_region 9 with fail
            clear hq0 hq1 hq2 hcx hcp
            refine wp_region_grow S (by kernel_rfl) (by kernel_rfl) HSI0.out (fun hne => ?_)
            repeat (go_big_quiet_step ((go_at_call 96; exact grow_call (HN1.out _))))
            refine wpQuiet_nil ?_
            rintro _ ⟨xq, rfl⟩
            obtain ⟨wz, hwz⟩ : ∃ wz, wz = xq.w := ⟨_, rfl⟩
            have hbz : Below wc.heap.size wc wz := by rw [hwz]; exact HSE.out xq
            rw [← hwz]
            clear hwz hy0 hy1 hy2 hy3 HN1 HSE HSI0 xq hne
            have HBZ := Lib.hid hbz
            have HBQZ := Lib.hid (HBQ.out.trans ((HBC.out.trans (hbz.mono HBC.out.size)).mono HBQ.out.size))
            obtain ⟨pr, hpr⟩ : ∃ pr, pr = (q : Int) * y % 10007 := ⟨_, rfl⟩
            rw [← hpr] at hprb HTJ ⊢
            clear hpr hbz
            go_wp2_with fail
            go_loopw [11, 12] (fun s x wr => ∃ k : Nat, k ≤ cr.length ∧ x = .int .i64 k ∧ s = .int .i64 (pr * prodZ (gat a (cr.take k)) % 10007) ∧ wr = wz) (fun _ x _ => cr.length - (intOf x).toNat)
            case atStart => exact ⟨0, Nat.zero_le _, rfl, by simp [gat, prodZ]; omega, rfl⟩
            case round =>
              obtain ⟨k, hk, rfl, rfl, rfl⟩ := hrel
              have hcp := keepCell (HBC.out.trans (HBZ.out.mono HBC.out.size)) HCP.out
              have hq1 := keepCell HBZ.out HQ1.out
              obtain ⟨pt, hpt⟩ : ∃ pt, pt = pr * prodZ (gat a (cr.take k)) % 10007 := ⟨_, rfl⟩
              rw [← hpt]
              have hpb : 0 ≤ pt ∧ pt ≤ 10006 := by omega
              by_cases hlk : k < cr.length
              · obtain ⟨p, hpk⟩ : ∃ p, cr[k]? = some p := ⟨_, List.getElem?_eq_getElem hlk⟩
                have hp38 := HCR.out p (List.mem_of_getElem? hpk)
                obtain ⟨As', c', he, -, -, g2⟩ := (HSI.out.below HBZ.out).open_
                rw [up_len] at he g2
                simp only [Value.slice.injEq, true_and] at he
                obtain ⟨rfl, rfl⟩ := he
                obtain ⟨a2, z, rfl, hz, -, hcz⟩ := g2 k hlk
                have hze : z = (p : Int) := by
                  unfold up at hz
                  rw [List.getElem?_map, hpk] at hz
                  injection hz with hz
                  exact hz.symm
                subst hze
                obtain ⟨_, he, hcx, hx0, hx1⟩ := map_cell (HA1.out.below HBQZ.out) HNA.out hp38
                simp only [Option.some.injEq] at he
                subst he
                have HPN := Lib.hid (show pr * prodZ (gat a (cr.take (k + 1))) % 10007 = pt * a.getD p 0 % 10007 from by
                  rw [List.take_add_one, hpk, hpt]
                  show pr * prodZ (gat a (cr.take k ++ [p])) % 10007 = _
                  unfold gat
                  rw [List.map_append, List.map_singleton, prodZ_snoc, ← Int.mul_assoc, mul_modL])
                generalize a.getD p 0 = ya at *
                have hkk : (k : Int) < (cr.length : Int) := by omega
                have hpp : (p : Int) < 38 := by omega
                clear hz hpk hpt g2
                go_wp2_with (go_at_call 96; refine (s_l01Mul pt ya _ (by omega) (by omega) (by omega) (by omega)).mono ?_; rintro e w9 ⟨rfl, rfl⟩)
                go_roundw
                case rel => exact ⟨k + 1, by omega, by go_num, by rw [HPN.out], by first | rfl | trivial⟩
                case measure => simp [intOf]; omega
              · have hkl : cr.take k = cr := List.take_of_length_le (by omega)
                have HAD := Lib.hid (show (sm + pt) % 10007 = sumF (tcI a b) (L.take (j + 1)) % 10007 from by rw [← HTJ.out, hpt, hkl])
                have hkk : ¬ (k : Int) < (cr.length : Int) := by omega
                clear hkl hpt
                go_wp2_with (go_at_call 119; refine (s_l01Add sm pt _ (by omega) (by omega) (by omega) (by omega)).mono ?_; rintro e w9 ⟨rfl, rfl⟩)
                go_roundw
                case rel => exact ⟨j + 1, by omega, by go_num, by rw [HAD.out], HBC.out.trans (HBZ.out.mono HBC.out.size)⟩
                case measure => simp [intOf]; omega
          · have hjl : L.take j = L := List.take_of_length_le (by rw [← HCL.out]; omega)
            rw [hjl]
            have HOX := Lib.hid (HO.out.below HBC.out)
            have hjj : ¬ (j : Int) < (css.length : Int) := by omega
            clear hjl hb
            generalize sumF (tcI a b) L % 10007 = sm at *
            go_wp2_with (at_builtin; go_loud (refine wpList_app1 T_int HOX.out (by rw [ints_len, HEL.out]; omega) (Nat.le_trans HBQ.out.size HBC.out.size) (by rfl) rfl (by rfl) (by rfl) (by rfl) ?_; intro v1 w6 hown1 hgr1; have HN := Lib.hid hown1; have HGR := Lib.hid hgr1; clear hown1 hgr1))
            go_roundw
            case rel =>
              refine ⟨i + 1, n + 1, by omega, by go_num, by have := HNI.out; show n + 1 = i + 1 + 1; omega, ?_, HGR.out.below (HBQ.out.trans (HBC.out.mono HBQ.out.size)) (Nat.le_trans HBQ.out.size HBC.out.size) HO.out.ge⟩
              rw [HTS.out]; exact HN.out
            case measure => simp [intOf]; omega
      · have hnm : n = m := by omega
        subst hnm
        clear hni
        have hii : ¬ (n : Int) < (n : Int) := by omega
        go_wp2_with fail
        go_ret
        exact ⟨_, rfl, ⟨HO.out, fun z hz => in64_num (cvZ_nums HNB.out z (List.mem_of_mem_take hz))⟩, HBQ.out⟩
end Go.Proofs.YtngdpoeondnchaaGreat

set_option maxRecDepth 100000
set_option linter.unusedVariables false
set_option linter.unusedSimpArgs false
namespace Go.Proofs.YtngdpoeondnchaaGreat
open Go.RowKit

set_option maxHeartbeats 4000000 in
theorem s_l03Nodes (w : World) (v : Value) (f : List (List Nat)) (ha : Rows w v (f.map up)) (hn : ndN f ≤ 1000000) :
    Calls Tryz.prog 227 #[v] w fun e w' => e = .returned (.int .i64 (ndN f : Nat)) ∧ w = w' := by
  obtain ⟨A, c, rfl, l1, l2, h3⟩ := rowsAt ha
  have H3 := Lib.hid h3
  have HNT := Lib.hid (ndN_take f)
  clear ha h3
  go_enter Tryz.func227, Tryz.ntmps227
  go_wp2_with fail
  go_loopw [3, 4] (fun s i wr => ∃ k : Nat, k ≤ f.length ∧ i = .int .i64 k ∧ s = .int .i64 (ndN (f.take k) : Nat) ∧ w = wr) (fun _ i _ => f.length - (intOf i).toNat)
  case atStart => exact ⟨0, Nat.zero_le _, rfl, by simp [ndN], rfl⟩
  case round =>
    obtain ⟨k, hk, rfl, rfl, rfl⟩ := hrel
    have hnt := HNT.out k
    by_cases hlt : k < f.length
    · obtain ⟨ad, q, A5, c5, rfl, hq, hiq, hcq⟩ := H3.out k hlt
      have HS := Lib.hid (show ndN (f.take (k + 1)) = ndN (f.take k) + q.length from by rw [List.take_add_one, hq]; exact ndN_snoc _ _)
      have hnt1 := HNT.out (k + 1)
      have hnt2 : ndN (f.take k) + q.length ≤ 1000000 := by rw [← HS.out]; omega
      have hki : (k : Int) < (f.length : Int) := by omega
      clear hq hiq hnt1
      generalize ndN (f.take k) = s at *
      have hw1 : IntKind.i64.wrap ((s : Int) + (q.length : Int)) = (s : Int) + (q.length : Int) := IntWalk.i64_in _ (by omega)
      go_wp2_with fail
      go_roundw
      case rel => clear hw1; exact ⟨k + 1, by omega, by go_num, by rw [HS.out]; congr 1, by first | rfl | trivial⟩
      case measure => clear hw1; simp [intOf]; omega
    · have hkl : k = f.length := by omega
      have HS := Lib.hid (show ndN (f.take k) = ndN f from by rw [hkl, List.take_length])
      rw [HS.out]
      go_wp2_with fail
      go_ret
      exact ⟨rfl, rfl⟩

theorem scan5_step {f g : List (List Nat)} {k : Nat} {x y : List Nat} (hx : f[k]? = some x) (hy : g[k]? = some y) : scan5 (f.drop k) (g.drop k) = bif befN x y then 1 else bif befN y x then 2 else scan5 (f.drop (k + 1)) (g.drop (k + 1)) := by
  obtain ⟨h1, h2⟩ := List.getElem?_eq_some_iff.1 hx
  obtain ⟨g1, g2⟩ := List.getElem?_eq_some_iff.1 hy
  rw [List.drop_eq_getElem_cons h1, List.drop_eq_getElem_cons g1, h2, g2, scan5]
set_option maxHeartbeats 4000000 in
theorem s_l05Compare (w : World) (v v' : Value) (f g : List (List Nat)) (ha : Rows w v (f.map up)) (hb : Rows w v' (g.map up)) :
    Calls Tryz.prog 228 #[v, v'] w fun e w' => e = .returned (.int .i64 (cod5 (cmp5 f g))) ∧ ∃ n, w' = w.drewN n := by
  obtain ⟨A, c, rfl, l1, l2, h3⟩ := rowsAt ha
  obtain ⟨B, d, rfl, m1, m2, g3⟩ := rowsAt hb
  have H3 := Lib.hid h3
  have G3 := Lib.hid g3
  clear ha hb h3 g3
  by_cases h : f.length = g.length
  · have HE := Lib.hid (show cmp5 f g = scan5 f g from by unfold cmp5; rw [h, Nat.beq_refl, cond_true])
    rw [HE.out]
    have hd : ((f.length : Int) != (g.length : Int)) = false := by simp [h]
    obtain ⟨m, hm⟩ : ∃ m, m = f.length := ⟨_, rfl⟩
    rw [← h]
    rw [← h] at G3 hd m1
    rw [← hm] at H3 G3 hd l1 m1 ⊢
    have HM := Lib.hid hm
    have HMG := Lib.hid (hm.trans h)
    clear h hm hd
    go_enter Tryz.func228, Tryz.ntmps228
    have hd : ((m : Int) != (m : Int)) = false := by simp
    go_wp2_with fail
    go_loopw [5] (fun i wr => ∃ k n : Nat, k ≤ m ∧ i = .int .i64 k ∧ Hid (scan5 f g = scan5 (f.drop k) (g.drop k)) ∧ wr = w.drewN n) (fun i _ => m - (intOf i).toNat)
    case atStart => exact ⟨0, 0, Nat.zero_le _, rfl, rfl, rfl⟩
    case round =>
      obtain ⟨k, n, hk, rfl, hI, rfl⟩ := hrel
      by_cases hlt : k < m
      · obtain ⟨ad, q, A5, c5, rfl, hq, hiq, hcq⟩ := H3.out k hlt
        obtain ⟨ad', q', A6, c6, rfl, hq', hiq', hcq'⟩ := G3.out k hlt
        have hst := scan5_step hq hq'
        have HI2 := Lib.hid (hI.out.trans hst)
        have hki : (k : Int) < (m : Int) := by omega
        have hb1 := fun n => s_l03Before (w.drewN n) _ _ q q' (hiq.drewN n) (hiq'.drewN n)
        have hb2 := fun n => s_l03Before (w.drewN n) _ _ q' q (hiq'.drewN n) (hiq.drewN n)
        cases e1 : befN q q' with
        | true =>
          rw [e1] at hb1
          have HBF := Lib.hid hb1
          have HV := Lib.hid (show cod5 (scan5 f g) = -1 from by rw [HI2.out, e1]; rfl)
          clear hb1 hb2 hq hq' hiq hiq' hst hI HI2 e1
          go_upto_region 8 with fail
          go_quiet ((go_at_call 187; first | exact quiet_more (HBF.out _) | exact quiet_more0 (HBF.out _)))
          go_wp2_with fail
          go_ret
          exact ⟨ret_i64 HV.out.symm, _, by first | rfl | exact World.drewN_drewN .. | (rw [World.drewN_drewN]; exact World.drewN_drewN ..)⟩
        | false =>
          rw [e1] at hb1
          have HBF := Lib.hid hb1
          cases e2 : befN q' q with
          | true =>
            rw [e2] at hb2
            have HBG := Lib.hid hb2
            have HV := Lib.hid (show cod5 (scan5 f g) = 1 from by rw [HI2.out, e1, e2]; rfl)
            clear hb1 hb2 hq hq' hiq hiq' hst hI HI2 e1 e2
            go_upto_region 8 with fail
            go_quiet ((go_at_call 187; first | exact quiet_more (HBF.out _) | exact quiet_more0 (HBF.out _)))
            go_upto_region 10 with fail
            go_quiet ((go_at_call 187; first | exact quiet_more (HBG.out _) | exact quiet_more0 (HBG.out _)))
            go_wp2_with fail
            go_ret
            exact ⟨ret_i64 HV.out.symm, _, by first | rfl | exact World.drewN_drewN .. | (rw [World.drewN_drewN]; exact World.drewN_drewN ..)⟩
          | false =>
            rw [e2] at hb2
            have HBG := Lib.hid hb2
            have HV := Lib.hid (show scan5 f g = scan5 (f.drop (k + 1)) (g.drop (k + 1)) from by rw [HI2.out, e1, e2]; rfl)
            clear hb1 hb2 hq hq' hiq hiq' hst hI HI2 e1 e2
            go_upto_region 8 with fail
            go_quiet ((go_at_call 187; first | exact quiet_more (HBF.out _) | exact quiet_more0 (HBF.out _)))
            go_upto_region 10 with fail
            go_quiet ((go_at_call 187; first | exact quiet_more (HBG.out _) | exact quiet_more0 (HBG.out _)))
            go_wp2_with fail
            go_roundw
            case rel => exact ⟨k + 1, _, by omega, by go_num, HV.out, by first | rfl | exact World.drewN_drewN .. | (rw [World.drewN_drewN]; exact World.drewN_drewN ..)⟩
            case measure => simp [intOf]; omega
      · have hkl : k = m := by omega
        have HV := Lib.hid (show cod5 (scan5 f g) = 0 from by
          rw [hI.out, List.drop_eq_nil_of_le (by have := HM.out; omega), List.drop_eq_nil_of_le (by have := HMG.out; omega)]; rfl)
        clear hI
        go_wp2_with fail
        go_ret
        exact ⟨ret_i64 HV.out.symm, _, by first | rfl | exact World.drewN_drewN .. | (rw [World.drewN_drewN]; exact World.drewN_drewN ..)⟩
  · have hd : ((f.length : Int) != (g.length : Int)) = true := by simp; omega
    by_cases h2 : f.length < g.length
    · have HE := Lib.hid (show cod5 (cmp5 f g) = -1 from by
        unfold cmp5
        have e1 : Nat.beq f.length g.length = false := by cases e : Nat.beq f.length g.length with | false => rfl | true => exact absurd (Nat.eq_of_beq_eq_true e) h
        have e2 : Nat.blt f.length g.length = true := Nat.ble_eq_true_of_le h2
        rw [e1, e2]; rfl)
      rw [HE.out]
      have h3 : (f.length : Int) < (g.length : Int) := by omega
      have h4 : decide ((f.length : Int) < (g.length : Int)) = true := decide_eq_true h3
      clear h HE
      go_enter Tryz.func228, Tryz.ntmps228
      go_wp2_with fail
      go_ret
      exact ⟨rfl, 0, rfl⟩
    · have HE := Lib.hid (show cod5 (cmp5 f g) = 1 from by
        unfold cmp5
        have e1 : Nat.beq f.length g.length = false := by cases e : Nat.beq f.length g.length with | false => rfl | true => exact absurd (Nat.eq_of_beq_eq_true e) h
        have e2 : Nat.blt f.length g.length = false := by cases e : Nat.blt f.length g.length with | false => rfl | true => exact absurd (Nat.le_of_ble_eq_true e) h2
        rw [e1, e2]; rfl)
      rw [HE.out]
      have h3 : ¬ (f.length : Int) < (g.length : Int) := by omega
      have h4 : decide ((f.length : Int) < (g.length : Int)) = false := decide_eq_false h3
      clear h HE
      go_enter Tryz.func228, Tryz.ntmps228
      go_wp2_with fail
      go_ret
      exact ⟨rfl, 0, rfl⟩

def sel5 (z1 z2 : Nat) : Nat := match z1 with
  | 0 => z2
  | k + 1 => k + 1
theorem ord5_eq (a b : SP) : ord5 a b = bif Nat.beq (ndN a.1) (ndN b.1) then sel5 (cmp5 a.1 b.1) (cmp5 a.2 b.2) else bif Nat.blt (ndN a.1) (ndN b.1) then 1 else 2 := by
  unfold ord5
  cases Nat.beq (ndN a.1) (ndN b.1) with
  | false => rfl
  | true =>
    simp only [cond_true]
    cases cmp5 a.1 b.1 <;> rfl
set_option maxHeartbeats 4000000 in
theorem s_l05Order (W : World) (B B' : Nat) (c c' : List Value) (x y : SC) (hx : eSc.D W B c x) (hy : eSc.D W B' c' y) :
    Calls Tryz.prog 209 #[.agg c.toArray, .agg c'.toArray] W fun e w' => e = .returned (.int .i64 (cod5 (ord5 x.1 y.1))) ∧ Below W.heap.size W w' := by
  obtain ⟨⟨xa, xb⟩, xn⟩ := x
  obtain ⟨⟨ya, yb⟩, yn⟩ := y
  obtain ⟨u, s, rfl, hu0, hs0⟩ := hx
  obtain ⟨u', s', rfl, hu0', hs0'⟩ := hy
  have hu1 : LL W B u (xa.map up) ∧ xa.length ≤ 1000000 ∧ ndN xa ≤ 1000000 := hu0
  have hu1' : LL W B' u' (ya.map up) ∧ ya.length ≤ 1000000 ∧ ndN ya ≤ 1000000 := hu0'
  have hs1 : LL W B s (xb.map up) ∧ xb.length ≤ 1000000 ∧ ndN xb ≤ 1000000 := hs0
  have hs1' : LL W B' s' (yb.map up) ∧ yb.length ≤ 1000000 ∧ ndN yb ≤ 1000000 := hs0'
  clear hu0 hu0' hs0 hs0'
  obtain ⟨A1, c1, he1, -, -, -⟩ := hu1.1.rows.open_
  obtain ⟨A2, c2, he2, -, -, -⟩ := hu1'.1.rows.open_
  obtain ⟨A3, c3, he3, -, -, -⟩ := hs1.1.rows.open_
  obtain ⟨A4, c4, he4, -, -, -⟩ := hs1'.1.rows.open_
  rw [List.length_map] at he1 he2 he3 he4
  subst he1 he2 he3 he4
  have hbb : ∀ o o', Below W.heap.size W ((W.alloc o).alloc o') := fun o o' => ((Below.refl W.heap.size W).alloc (Nat.le_refl _) _).alloc (by simp) _
  have HBB := Lib.hid hbb
  have HN1 := Lib.hid (fun V (hb : Below W.heap.size W V) => s_l03Nodes V _ xa (hu1.1.rows.below hb) hu1.2.2)
  have HN2 := Lib.hid (fun V (hb : Below W.heap.size W V) => s_l03Nodes V _ ya (hu1'.1.rows.below hb) hu1'.2.2)
  have HC1 := Lib.hid (fun V (hb : Below W.heap.size W V) => s_l05Compare V _ _ xa ya (hu1.1.rows.below hb) (hu1'.1.rows.below hb))
  have HC2 := Lib.hid (fun V (hb : Below W.heap.size W V) => s_l05Compare V _ _ xb yb (hs1.1.rows.below hb) (hs1'.1.rows.below hb))
  obtain ⟨R, hR⟩ : ∃ R, R = cod5 (ord5 (xa, xb) (ya, yb)) := ⟨_, rfl⟩
  rw [← hR]
  rw [ord5_eq] at hR
  obtain ⟨m, hm⟩ : ∃ m, m = ndN xa := ⟨_, rfl⟩
  obtain ⟨n, hn⟩ : ∃ n, n = ndN ya := ⟨_, rfl⟩
  obtain ⟨z1, hz1⟩ : ∃ z, z = cmp5 xa ya := ⟨_, rfl⟩
  obtain ⟨z2, hz2⟩ : ∃ z, z = cmp5 xb yb := ⟨_, rfl⟩
  have hm6 : m ≤ 1000000 := by rw [hm]; exact hu1.2.2
  have hn6 : n ≤ 1000000 := by rw [hn]; exact hu1'.2.2
  rw [← hm] at HN1 hR
  rw [← hn] at HN2 hR
  rw [← hz1] at HC1 hR
  rw [← hz2] at HC2 hR
  have HK := Lib.hid (Blk.new W #[.slice A1 xa.length c1, .slice A3 xb.length c3, .int .i64 (xn : Nat)] tSp)
  clear hu1 hu1' hs1 hs1' hbb hm hn hz1 hz2
  obtain ⟨V, hV⟩ : ∃ V, V = (W.alloc (.cells #[.slice A1 xa.length c1, .slice A3 xb.length c3, .int .i64 (xn : Nat)] tSp)).alloc (.cells #[.slice A2 ya.length c2, .slice A4 yb.length c4, .int .i64 (yn : Nat)] tSp) := ⟨_, rfl⟩
  have hbv : Below W.heap.size W V := by rw [hV]; exact HBB.out _ _
  have HBV := Lib.hid hbv
  have HX := Lib.hid (show Blk V W.heap.size tSp #[.slice A1 xa.length c1, .slice A3 xb.length c3, .int .i64 (xn : Nat)] from by rw [hV]; exact (Blk.new _ _ _).alloc _)
  have HY := Lib.hid (show Blk V (W.heap.size + 1) tSp #[.slice A2 ya.length c2, .slice A4 yb.length c4, .int .i64 (yn : Nat)] from by rw [hV]; exact Blk.new1 _ _ _ _)
  have x0 : V.cell? ⟨W.heap.size, 0, none⟩ = some (.slice A1 xa.length c1) := HX.out.cell 0
  have x1 : V.cell? ⟨W.heap.size, 1, none⟩ = some (.slice A3 xb.length c3) := HX.out.cell 1
  have y0 : V.cell? ⟨W.heap.size + 1, 0, none⟩ = some (.slice A2 ya.length c2) := HY.out.cell 0
  have y1 : V.cell? ⟨W.heap.size + 1, 1, none⟩ = some (.slice A4 yb.length c4) := HY.out.cell 1
  have HN1' := Lib.hid (fun n => HN1.out (V.drewN n) (below_drewN HBV.out n))
  have HN2' := Lib.hid (fun n => HN2.out (V.drewN n) (below_drewN HBV.out n))
  clear hbv HN1 HN2
  go_enter Tryz.func209, Tryz.ntmps209
  go_upto_region 1 with fail
  rw [← hV]
  clear hV
  go_quiet ((first | (go_at_call_of 227 A1; first | exact quiet_same0 (HN1'.out _) | exact quiet_same (HN1'.out _)) | (go_at_call_of 227 A2; first | exact quiet_same0 (HN2'.out _) | exact quiet_same (HN2'.out _))))
  rename Nat => q
  have x0 : (V.drewN q).cell? ⟨W.heap.size, 0, none⟩ = some (.slice A1 xa.length c1) := x0
  have x1 : (V.drewN q).cell? ⟨W.heap.size, 1, none⟩ = some (.slice A3 xb.length c3) := x1
  have y0 : (V.drewN q).cell? ⟨W.heap.size + 1, 0, none⟩ = some (.slice A2 ya.length c2) := y0
  have y1 : (V.drewN q).cell? ⟨W.heap.size + 1, 1, none⟩ = some (.slice A4 yb.length c4) := y1
  obtain ⟨U, hU⟩ : ∃ U, U = V.drewN q := ⟨_, rfl⟩
  have HBU := Lib.hid (show Below W.heap.size W U from by rw [hU]; exact below_drewN HBV.out q)
  rw [← hU] at x0 x1 y0 y1 ⊢
  clear hU
  by_cases h : m = n
  · have hd : ((m : Int) != (n : Int)) = false := by simp [h]
    have hR2 : R = cod5 (sel5 z1 z2) := by rw [hR, h, Nat.beq_refl, cond_true]
    clear hR h
    match z1, HC1, hR2 with
    | 0, HC1, hR2 =>
      have HC1' := Lib.hid (show Calls Tryz.prog 228 #[.slice A1 xa.length c1, .slice A2 ya.length c2] U fun e w' => e = .returned (.int .i64 0) ∧ ∃ n, w' = U.drewN n from HC1.out U HBU.out)
      have HR := Lib.hid (show cod5 z2 = R from by rw [hR2]; rfl)
      have HU0 := Lib.hid (fun n => (show (U.drewN n).cell? ⟨W.heap.size, 1, none⟩ = some (.slice A3 xb.length c3) from x1))
      have HU1 := Lib.hid (fun n => (show (U.drewN n).cell? ⟨W.heap.size + 1, 1, none⟩ = some (.slice A4 yb.length c4) from y1))
      clear HC1 hR2
      go_wp2_with (first
        | (go_at_call 228; (with_reducible refine HC1'.out.mono ?_); rintro e w1 ⟨rfl, n1, rfl⟩; have z3 := HU0.out n1; have z4 := HU1.out n1)
        | (go_at_call 228; refine (HC2.out _ (below_drewN HBU.out n1)).mono ?_; rintro e w2 ⟨rfl, n2, rfl⟩))
      go_ret
      exact ⟨ret_i64 HR.out, by first | exact below_drewN HBU.out _ | exact below_drewN (below_drewN HBU.out _) _⟩
    | j + 1, HC1, hR2 =>
      have hnz : ¬ cod5 (j + 1) = 0 := by cases j <;> simp [cod5]
      have hR3 : R = cod5 (j + 1) := hR2
      obtain ⟨t, ht⟩ : ∃ t, t = cod5 (j + 1) := ⟨_, rfl⟩
      rw [← ht] at hnz hR3
      have HC1' := Lib.hid (show Calls Tryz.prog 228 #[.slice A1 xa.length c1, .slice A2 ya.length c2] U fun e w' => e = .returned (.int .i64 t) ∧ ∃ n, w' = U.drewN n from by rw [ht]; exact HC1.out U HBU.out)
      have hd3 : (t != 0) = true := by simp [hnz]
      have HR := Lib.hid (show t = R from hR3.symm)
      clear HC1 hR2 hR3 ht hnz
      go_wp2_with (go_at_call 228; refine HC1'.out.mono ?_; rintro e w1 ⟨rfl, n1, rfl⟩)
      go_ret
      exact ⟨ret_i64 HR.out, below_drewN HBU.out _⟩
  · have hd : ((m : Int) != (n : Int)) = true := by simp; omega
    have e1 : Nat.beq m n = false := by cases e : Nat.beq m n with | false => rfl | true => exact absurd (Nat.eq_of_beq_eq_true e) h
    rw [e1, cond_false] at hR
    by_cases h2 : m < n
    · have h3 : (m : Int) < (n : Int) := by omega
      have h4 : decide ((m : Int) < (n : Int)) = true := decide_eq_true h3
      have HR := Lib.hid (show -1 = R from by rw [hR, show Nat.blt m n = true from Nat.ble_eq_true_of_le h2]; rfl)
      clear h hR e1
      go_wp2_with fail
      go_ret
      exact ⟨ret_i64 HR.out, HBU.out⟩
    · have h3 : ¬ (m : Int) < (n : Int) := by omega
      have h4 : decide ((m : Int) < (n : Int)) = false := decide_eq_false h3
      have HR := Lib.hid (show 1 = R from by rw [hR, show Nat.blt m n = false from (by cases e : Nat.blt m n with | false => rfl | true => exact absurd (Nat.le_of_ble_eq_true e) h2)]; rfl)
      clear h hR e1
      go_wp2_with fail
      go_ret
      exact ⟨ret_i64 HR.out, HBU.out⟩
end Go.Proofs.YtngdpoeondnchaaGreat

