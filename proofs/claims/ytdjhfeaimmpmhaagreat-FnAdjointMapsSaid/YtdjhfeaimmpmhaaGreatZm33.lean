/- Walk: l07Conv of the reference. | Walk: l07Unit and l07Inverse of the reference. -/
import Derived.Test.YtdjhfeaimmpmhaaGreatZm19
import Derived.Test.YtdjhfeaimmpmhaaGreatZm31
import Derived.Test.YtdjhfeaimmpmhaaGreatZm11
import Derived.Test.YtdjhfeaimmpmhaaGreatZm21
import Derived.Test.YtdjhfeaimmpmhaaGreatZm3
set_option maxRecDepth 100000
set_option linter.unusedVariables false
set_option linter.unusedSimpArgs false
namespace Go.Proofs.YtdjhfeaimmpmhaaGreat
open Go.RowKit

/-- the lists of cuts at the places below m, read only -/
def R7 (w : World) (B : Nat) (A : Option Addr) (m : Nat) : Prop := ∀ i, i + 1 < m → ∃ ad css A2 c2, A = some ad ∧ OwnK w B t7 3 (.slice A2 css.length c2) css ∧ M7s w B css (CTab.getD i []) ∧ w.cell? (ad.add (i + 1)) = some (.slice A2 css.length c2)
theorem R7.below {w w' : World} {B m : Nat} {A : Option Addr} (h : R7 w B A m) (hb : Below w.heap.size w w') : R7 w' B A m := fun i hi => by
  obtain ⟨ad, css, A2, c2, h1, h2, h3, h4⟩ := h i hi
  exact ⟨ad, css, A2, c2, h1, h2.below hb, h3.below hb, keepCell hb h4⟩
theorem tcI_prod (a b : List Int) (cr : List Nat) (tr n : Nat) : (n : Int) * b.getD tr 0 % 10007 * prodZ (gat a cr) % 10007 = tcI a b ((cr, tr), n) := by
  rw [tcI_is, mul_modL]
  unfold cvT
  show (n : Int) * b.getD tr 0 * prodZ (gat a cr) % 10007 = (n : Int) * (prodZ (gat a cr) * b.getD tr 0) % 10007
  rw [Int.mul_assoc, Int.mul_comm (b.getD tr 0)]
set_option maxHeartbeats 32000000 in
theorem s_l07Conv (w : World) (A : Option Addr) (va vb : Value) (c m Bp : Nat) (a b : List Int) (hC : R7 w Bp A m) (hm1 : 1 ≤ m) (hm : m ≤ 38) (h1 : Ints w va a) (l1 : a.length = 38) (hN1 : Nums a) (ha0 : a.getD 0 0 = 1) (h2 : Ints w vb b) (l2 : b.length = 38) (hN2 : Nums b) :
    Calls Tryz.prog 185 #[.slice A m c, va, vb] w fun e w' => ∃ x, e = .returned x ∧ OwnInts w' w.heap.size tI x ((cvZ a b).take m) ∧ Below w.heap.size w w' := by
  obtain ⟨Aa, ca, rfl, -, -, -⟩ := h1.open_
  obtain ⟨Ab, cb, rfl, -, -, -⟩ := h2.open_
  rw [l1] at h1 ⊢
  rw [l2] at h2 ⊢
  obtain ⟨ada, rfl, hc0, -, -⟩ := map_cell h1 hN1 (k := 0) (by omega)
  obtain ⟨adb, rfl, hd0, hb0, hb1⟩ := map_cell h2 hN2 (k := 0) (by omega)
  have HC := Lib.hid hC
  have HA1 := Lib.hid h1
  have HB1 := Lib.hid h2
  have HNA := Lib.hid hN1
  have HNB := Lib.hid hN2
  have HSZ := Lib.hid (cvZ_len a b)
  have hc0' : w.cell? ada = some (.int .i64 1) := by rw [← ha0]; simpa [Addr.add] using hc0
  obtain ⟨y0, hy0⟩ : ∃ y0, y0 = b.getD 0 0 := ⟨_, rfl⟩
  rw [← hy0] at hd0 hb0 hb1
  have hd0' : w.cell? adb = some (.int .i64 y0) := by simpa [Addr.add] using hd0
  have HS0 := Lib.hid (show ints ((cvZ a b).take 1) = [.int .i64 y0] from by rw [hy0]; rfl)
  have HM1 := Lib.hid (show (1 : Int) * y0 % 10007 = y0 from by omega)
  clear hC h1 h2 l1 l2 hN1 hN2 hc0 hd0 ha0 hy0
  go_enter Tryz.func185, Tryz.ntmps185
  go_upto_region 1 with fail
  go_cut [7] (fun o wx => Own wx w.heap.size tI o (ints ((cvZ a b).take 1)) ∧ Below w.heap.size w wx)
  case first =>
    have HMU := Lib.hid (fun W => show Calls Tryz.prog 131 #[.int .i64 1, .int .i64 y0] W fun e w' => e = .returned (.int .i64 y0) ∧ W = w' from by
      have h := s_l01Mul 1 y0 W (by omega) (by omega) (by omega) (by omega)
      rwa [HM1.out] at h)
    go_region_law ((go_simp; go_at_call 131; refine (HMU.out _).mono ?_; rintro e w3 ⟨rfl, rfl⟩))
    all_goals
      go_wp2_with fail
      go_meet
      exact ⟨by rw [HS0.out]; exact own_lit w.drew tI [.int .i64 y0] (by simp [maxLen]), ((Below.refl w.heap.size w).drew).alloc (Nat.le_refl _) _⟩
  case rest =>
    obtain ⟨ho, hb⟩ := hcut
    have OL := Lib.hid ho
    have OB := Lib.hid hb
    clear ho hb hc0' hd0'
    go_wp2_with fail
    go_loopw [7, 8] (fun o x wr => ∃ i n : Nat, n ≤ m ∧ x = .int .i64 n ∧ Hid (n = i + 1) ∧ Own wr w.heap.size tI o (ints ((cvZ a b).take n)) ∧ Below w.heap.size w wr) (fun _ x _ => m - (intOf x).toNat)
    case atStart => exact ⟨0, 1, hm1, rfl, rfl, OL.out, OB.out⟩
    case round =>
      obtain ⟨i, n, hn, rfl, HNI, ho, hb⟩ := hrel
      rename World => wq
      clear OL OB
      have hni := HNI.out
      have hel : ((cvZ a b).take n).length = n := by rw [List.length_take, HSZ.out]; omega
      have hol := ho.cells.open_
      rw [ints_len, hel] at hol
      obtain ⟨Ao, co, rfl, -, -⟩ := hol
      have HEL := Lib.hid hel
      have HO := Lib.hid ho
      have HBQ := Lib.hid hb
      have hat := HC.out.below hb
      clear ho hel hb
      by_cases hlt : n < m
      · obtain ⟨adp, css, A2, c2, rfl, ho2, hm2, hcp⟩ := hat i (by omega)
        have hi37 : i < 37 := by omega
        have hpl := CTab_ln hi37
        obtain ⟨L, hL⟩ : ∃ L, L = CTab.getD i [] := ⟨_, rfl⟩
        rw [← hL] at hm2 hpl
        have HLE := Lib.hid hL
        have hcl := hm2.1
        have HCL := Lib.hid hcl
        have hc5 : css.length ≤ 100 := by rw [hcl]; exact hpl
        have HO2 := Lib.hid ho2
        have HM2 := Lib.hid hm2
        rw [← hni] at hcp
        have HCP := Lib.hid hcp
        have HTS := Lib.hid (show ints ((cvZ a b).take (n + 1)) = ints ((cvZ a b).take n) ++ [.int .i64 (sumF (tcI a b) L % 10007)] from by
          have h1 : (cvZ a b)[n]? = some (sumF (tcI a b) L % 10007) := by rw [hni, hL]; exact cvZ_get a b hi37
          rw [List.take_add_one, h1, ints, ints, List.map_append]; rfl)
        have hii : (n : Int) < (m : Int) := by omega
        clear hat hpl hL hcl ho2 hm2 hni
        go_wp2_with fail
        go_loopw [9, 10] (fun s x wr => ∃ j : Nat, j ≤ css.length ∧ x = .int .i64 j ∧ s = .int .i64 (sumF (tcI a b) (L.take j) % 10007) ∧ Below wq.heap.size wq wr) (fun _ x _ => css.length - (intOf x).toNat)
        case atStart => exact ⟨0, Nat.zero_le _, rfl, rfl, Below.refl _ _⟩
        case round =>
          obtain ⟨j, hj, rfl, rfl, hb⟩ := hrel
          rename World => wc
          have HBC := Lib.hid hb
          have hcp := keepCell hb HCP.out
          by_cases hlj : j < css.length
          · obtain ⟨⟨⟨cr, sk⟩, q⟩, hx⟩ : ∃ x, L[j]? = some x := ⟨_, List.getElem?_eq_getElem (by rw [← HCL.out]; exact hlj)⟩
            have hxm := List.mem_of_getElem? hx
            obtain ⟨hcr, hsk, hq⟩ := CTab_at hi37 (x := ((cr, sk), q)) (by rw [← HLE.out]; exact hxm)
            have hcr : ∀ p ∈ cr, p < 38 := hcr
            have hsk : sk < 38 := hsk
            have hq : q ≤ 100 := hq
            have hcrl : cr.length ≤ 100 := by
              obtain ⟨l0, -, -, -, hc0⟩ := cut_at hi37
              exact (hc0 ((cr, sk), q) (by rw [← HLE.out]; exact hxm)).2.2.1
            obtain ⟨go, As, cs, rfl, hs1, hq0, hq1, hq2⟩ := part7_at (HO2.out.below hb) (HM2.out.below hb) hx
            have hs1 : OwnInts wc Bp tI (.slice As cr.length cs) (up cr) := hs1
            have hq0 : wc.cell? ⟨go, j * 3, none⟩ = some (.int .i64 q) := hq0
            have hq1 : wc.cell? ⟨go, j * 3 + 1, none⟩ = some (.slice As cr.length cs) := hq1
            have hq2 : wc.cell? ⟨go, j * 3 + 2, none⟩ = some (.int .i64 sk) := hq2
            have HTJ := Lib.hid (show (sumF (tcI a b) (L.take j) % 10007 + (q : Int) * b.getD sk 0 % 10007 * prodZ (gat a cr) % 10007) % 10007 = sumF (tcI a b) (L.take (j + 1)) % 10007 from by
              rw [sumF_take _ hx, tcI_prod]; omega)
            have HCR := Lib.hid hcr
            have hsb : 0 ≤ sumF (tcI a b) (L.take j) % 10007 ∧ sumF (tcI a b) (L.take j) % 10007 ≤ 10006 := by omega
            generalize sumF (tcI a b) (L.take j) % 10007 = sm at *
            obtain ⟨_, he, hcx, hx0, hx1⟩ := map_cell ((HB1.out.below HBQ.out).below hb) HNB.out (k := sk) hsk
            simp only [Option.some.injEq] at he
            subst he
            generalize b.getD sk 0 = y at *
            obtain ⟨r1, r2⟩ := mul_bd 100 10006 (show (0 : Int) ≤ (q : Int) by omega) (show (q : Int) ≤ 100 by omega) hx0 hx1
            have hprb : 0 ≤ (q : Int) * y % 10007 ∧ (q : Int) * y % 10007 ≤ 10006 := by omega
            have hjj : (j : Int) < (css.length : Int) := by omega
            have hskk : (sk : Int) < 38 := by omega
            have HSI := Lib.hid hs1.ints
            have HQ1 := Lib.hid hq1
            obtain ⟨S, hS1, hS2⟩ : ∃ S : World → Prop, (∀ Wx, S Wx → Below wc.heap.size wc Wx) ∧ (∀ Wx, Below wc.heap.size wc Wx → S Wx) := ⟨fun Wx => Below wc.heap.size wc Wx, fun _ h => h, fun _ h => h⟩
            have HSE := Lib.hid (show ∀ x : GW S, Below wc.heap.size wc x.w from fun x => hS1 _ x.h)
            have HSI0 := Lib.hid (show S wc.drew from hS2 _ (Below.refl wc.heap.size wc).drew)
            have hy0 : ∀ x : GW S, x.w.cell? ⟨go, j * 3, none⟩ = some (.int .i64 q) := fun x => keepCell (HSE.out x) hq0
            have hy1 : ∀ x : GW S, x.w.cell? ⟨go, j * 3 + 2, none⟩ = some (.int .i64 sk) := fun x => keepCell (HSE.out x) hq2
            have hy2 : ∀ x : GW S, x.w.cell? (adp.add n) = some (.slice (some ⟨go, 0, none⟩) css.length c2) := fun x => keepCell (HSE.out x) hcp
            have hy3 : ∀ x : GW S, x.w.cell? (adb.add sk) = some (.int .i64 y) := fun x => keepCell (HSE.out x) hcx
            have HN1 := Lib.hid (show ∀ x : GW S, Calls Tryz.prog 131 #[.int .i64 q, .int .i64 y] x.w (fun e w' => e = .returned (.int .i64 ((q : Int) * y % 10007)) ∧ S w') from fun x => (s_l01Mul (q : Int) y x.w (by omega) (by omega) (by omega) (by omega)).mono (by rintro e w7 ⟨rfl, rfl⟩; exact ⟨rfl, hS2 _ (HSE.out x)⟩))
            clear hS1 hS2 hxm hcr hx hb hs1
            go_upto_region 9 with fail
            clear hq0 hq1 hq2 hcx hcp
            refine wp_region_grow S (by kernel_rfl) (by kernel_rfl) HSI0.out (fun hne => ?_)
            repeat (go_big_quiet_step ((go_at_call 131; exact grow_call (HN1.out _))))
            refine wpQuiet_nil ?_
            rintro _ ⟨xq, rfl⟩
            obtain ⟨wz, hwz⟩ : ∃ wz, wz = xq.w := ⟨_, rfl⟩
            have hbz : Below wc.heap.size wc wz := by rw [hwz]; exact HSE.out xq
            rw [← hwz]
            clear hwz hy0 hy1 hy2 hy3 HN1 HSE HSI0 xq hne
            have HBZ := Lib.hid hbz
            have HBQZ := Lib.hid (HBQ.out.trans ((HBC.out.trans (hbz.mono HBC.out.size)).mono HBQ.out.size))
            obtain ⟨pr, hpr⟩ : ∃ pr, pr = (q : Int) * y % 10007 := ⟨_, rfl⟩
            rw [← hpr] at hprb HTJ ⊢
            clear hpr hbz
            go_wp2_with fail
            go_loopw [11, 12] (fun s x wr => ∃ k : Nat, k ≤ cr.length ∧ x = .int .i64 k ∧ s = .int .i64 (pr * prodZ (gat a (cr.take k)) % 10007) ∧ wr = wz) (fun _ x _ => cr.length - (intOf x).toNat)
            case atStart => exact ⟨0, Nat.zero_le _, rfl, by simp [gat, prodZ]; omega, rfl⟩
            case round =>
              obtain ⟨k, hk, rfl, rfl, rfl⟩ := hrel
              have hcp := keepCell (HBC.out.trans (HBZ.out.mono HBC.out.size)) HCP.out
              have hq1 := keepCell HBZ.out HQ1.out
              obtain ⟨pt, hpt⟩ : ∃ pt, pt = pr * prodZ (gat a (cr.take k)) % 10007 := ⟨_, rfl⟩
              rw [← hpt]
              have hpb : 0 ≤ pt ∧ pt ≤ 10006 := by omega
              by_cases hlk : k < cr.length
              · obtain ⟨p, hpk⟩ : ∃ p, cr[k]? = some p := ⟨_, List.getElem?_eq_getElem hlk⟩
                have hp38 := HCR.out p (List.mem_of_getElem? hpk)
                obtain ⟨As', c', he, -, -, g2⟩ := (HSI.out.below HBZ.out).open_
                rw [up_len] at he g2
                simp only [Value.slice.injEq, true_and] at he
                obtain ⟨rfl, rfl⟩ := he
                obtain ⟨a2, z, rfl, hz, -, hcz⟩ := g2 k hlk
                have hze : z = (p : Int) := by
                  unfold up at hz
                  rw [List.getElem?_map, hpk] at hz
                  injection hz with hz
                  exact hz.symm
                subst hze
                obtain ⟨_, he, hcx, hx0, hx1⟩ := map_cell (HA1.out.below HBQZ.out) HNA.out hp38
                simp only [Option.some.injEq] at he
                subst he
                have HPN := Lib.hid (show pr * prodZ (gat a (cr.take (k + 1))) % 10007 = pt * a.getD p 0 % 10007 from by
                  rw [List.take_add_one, hpk, hpt]
                  show pr * prodZ (gat a (cr.take k ++ [p])) % 10007 = _
                  unfold gat
                  rw [List.map_append, List.map_singleton, prodZ_snoc, ← Int.mul_assoc, mul_modL])
                generalize a.getD p 0 = ya at *
                have hkk : (k : Int) < (cr.length : Int) := by omega
                have hpp : (p : Int) < 38 := by omega
                clear hz hpk hpt g2
                go_wp2_with (go_at_call 131; refine (s_l01Mul pt ya _ (by omega) (by omega) (by omega) (by omega)).mono ?_; rintro e w9 ⟨rfl, rfl⟩)
                go_roundw
                case rel => exact ⟨k + 1, by omega, by go_num, by rw [HPN.out], by first | rfl | trivial⟩
                case measure => simp [intOf]; omega
              · have hkl : cr.take k = cr := List.take_of_length_le (by omega)
                have HAD := Lib.hid (show (sm + pt) % 10007 = sumF (tcI a b) (L.take (j + 1)) % 10007 from by rw [← HTJ.out, hpt, hkl])
                have hkk : ¬ (k : Int) < (cr.length : Int) := by omega
                clear hkl hpt
                go_wp2_with (go_at_call 132; refine (s_l01Add sm pt _ (by omega) (by omega) (by omega) (by omega)).mono ?_; rintro e w9 ⟨rfl, rfl⟩)
                go_roundw
                case rel => exact ⟨j + 1, by omega, by go_num, by rw [HAD.out], HBC.out.trans (HBZ.out.mono HBC.out.size)⟩
                case measure => simp [intOf]; omega
          · have hjl : L.take j = L := List.take_of_length_le (by rw [← HCL.out]; omega)
            rw [hjl]
            have HOX := Lib.hid (HO.out.below HBC.out)
            have hjj : ¬ (j : Int) < (css.length : Int) := by omega
            clear hjl hb
            generalize sumF (tcI a b) L % 10007 = sm at *
            go_wp2_with (at_builtin; go_loud (refine wpList_app1 T_int HOX.out (by rw [ints_len, HEL.out]; omega) (Nat.le_trans HBQ.out.size HBC.out.size) (by rfl) rfl (by rfl) (by rfl) (by rfl) ?_; intro v1 w6 hown1 hgr1; have HN := Lib.hid hown1; have HGR := Lib.hid hgr1; clear hown1 hgr1))
            go_roundw
            case rel =>
              refine ⟨i + 1, n + 1, by omega, by go_num, by have := HNI.out; show n + 1 = i + 1 + 1; omega, ?_, HGR.out.below (HBQ.out.trans (HBC.out.mono HBQ.out.size)) (Nat.le_trans HBQ.out.size HBC.out.size) HO.out.ge⟩
              rw [HTS.out]; exact HN.out
            case measure => simp [intOf]; omega
      · have hnm : n = m := by omega
        subst hnm
        clear hni
        have hii : ¬ (n : Int) < (n : Int) := by omega
        go_wp2_with fail
        go_ret
        exact ⟨_, rfl, ⟨HO.out, fun z hz => in64_num (cvZ_nums HNB.out z (List.mem_of_mem_take hz))⟩, HBQ.out⟩
end Go.Proofs.YtdjhfeaimmpmhaaGreat

set_option maxRecDepth 100000
set_option linter.unusedVariables false
set_option linter.unusedSimpArgs false
namespace Go.Proofs.YtdjhfeaimmpmhaaGreat
open Go.RowKit

set_option maxHeartbeats 400000 in
theorem s_l07Unit (w : World) : Calls Tryz.prog 184 #[] w fun e w' => ∃ x, e = .returned x ∧ OwnInts w' w.heap.size tI x unM ∧ Below w.heap.size w w' := by
  have hset : (List.replicate 38 (Value.int .i64 0)).set 0 (.int .i64 1) = ints (filT EX 1) := rfl
  go_enter Tryz.func184, Tryz.ntmps184
  go_wp2_with (at_make; refine wpList_mk rfl _ _ _ rfl _ _ _ T_int 38 _ rfl rfl rfl (by omega) _ ?_; intro w1 hown hb hs; obtain ⟨u0, hu0, hcg, hfg, hg2, hg1, hown', hgr⟩ := hown.storeAt (k := 0) (by simp) (.int .i64 1); rw [hset] at hown'; have HO := Lib.hid hown'; have HB := Lib.hid hb; clear hown hown' hgr hu0 hg1 hb)
  go_ret
  exact ⟨_, rfl, ⟨HO.out, filT_in (fun z hz => in64_num (EX_nums z hz)) 1⟩, HB.out.setCell (Nat.le_refl _) _⟩
theorem size7 (W : World) : (sizeOf (Tryz.prog.elem 81)).run Tryz.prog W = .ok 1 W := by kernel_rfl
theorem sl7 (W : World) (ad : Addr) (n c k : Nat) (K : Int) (hK : K = k) (h : k ≤ c) :
    (Instr.slice 81 (.slice (some ad) n c) none (some (.int .i64 K)) none).run Tryz.prog W = .ok (.slice (some ad) k c) W := by
  rw [sl_to Tryz.underlying81 size7 W (some ad) n c k K hK h]
  have : sliced (some ad) 0 k c 1 = .slice (some ad) k c := by
    unfold sliced
    have e : ad.add (0 * 1) = ad := by cases ad; simp [Addr.add]
    rw [Option.map_some, e]
    split <;> simp
  rw [this]
set_option maxHeartbeats 16000000 in
theorem s_l07Inverse (w : World) (v va : Value) (Bp : Nat) (a : List Int) (hC : C7 w Bp v) (h1 : Ints w va a) (l1 : a.length = 38) (hN1 : Nums a) (ha0 : a.getD 0 0 = 1) :
    Calls Tryz.prog 138 #[v, va] w fun e w' => ∃ x, e = .returned x ∧ OwnInts w' w.heap.size tI x (refL a 37) ∧ Below w.heap.size w w' := by
  obtain ⟨A, c, rfl, hat⟩ := hC.at_
  obtain ⟨adp, -, -, -, rfl, -⟩ := hat 0 (by omega)
  have HR := Lib.hid (show R7 w Bp (some adp) 38 from fun i hi => hat i (by omega))
  have hc38 : 38 ≤ c := by
    obtain ⟨us, h2, h3⟩ := hC
    have h4 := h3.1
    obtain ⟨A', c', e, h5, -⟩ := h2.cells.open_
    simp only [Value.slice.injEq] at e
    have h6 : us.length = 38 := by rw [h4]; rfl
    omega
  obtain ⟨Aa, ca, rfl, -, -, -⟩ := h1.open_
  rw [l1] at h1 ⊢
  have HA := Lib.hid h1
  have HLA := Lib.hid l1
  have HNA := Lib.hid hN1
  have HA0 := Lib.hid ha0
  have HC38 := Lib.hid hc38
  clear hC h1 l1 hN1 ha0 hat hc38
  go_enter Tryz.func138, Tryz.ntmps138
  go_wp2_with (go_at_call 184; go_loud (refine (s_l07Unit _).mono ?_; rintro e w1 ⟨x1, rfl, ho1, hb1⟩; rcases ho1.1.cases with ⟨-, he⟩ | ⟨g, cap, cur, he, hg1, hg2, -⟩; (· exact absurd (congrArg List.length he) (by decide)); have he : x1 = .slice (some ⟨g, 0, none⟩) 38 cap := he; subst he; have HO1 := Lib.hid ho1; have HB1 := Lib.hid hb1; clear ho1 hb1 hg1 hg2))
  go_loopw [6] (fun x wr => ∃ i n : Nat, n ≤ 38 ∧ x = .int .i64 n ∧ Hid (n = i + 1) ∧ OwnInts wr w.heap.size tI (.slice (some ⟨g, 0, none⟩) 38 cap) (refL a i) ∧ Below w.heap.size w wr) (fun x _ => 38 - (intOf x).toNat)
  case atStart => exact ⟨0, 1, by omega, rfl, rfl, HO1.out, HB1.out⟩
  case round =>
    obtain ⟨i, n, hn, rfl, HNI, ho, hb⟩ := hrel
    rename World => wq
    have HO := Lib.hid ho
    have HB := Lib.hid hb
    clear ho hb
    by_cases hlt : n < 38
    · have hsl := fun (W : World) => sl7 W adp 38 c (n + 1) ((n : Int) + 1) (by omega) (by have := HC38.out; omega)
      have hni := HNI.out
      have HCV := Lib.hid (s_l07Conv wq (some adp) _ _ c (n + 1) Bp a (refL a i) (fun k hk => (HR.out.below HB.out) k (by omega)) (by omega) (by omega) (HA.out.below HB.out) HLA.out HNA.out HA0.out HO.out.ints (refL_len a i) (refL_nums a i))
      have hzn : (cvZ a (refL a i))[n]? = some ((cvZ a (refL a i)).getD n 0) := by
        rw [List.getD_eq_getElem?_getD]
        rw [List.getElem?_eq_getElem (by rw [cvZ_len]; exact hlt)]
        rfl
      obtain ⟨z, hz⟩ : ∃ z, z = (cvZ a (refL a i)).getD n 0 := ⟨_, rfl⟩
      rw [← hz] at hzn
      have hzb : 0 ≤ z ∧ z ≤ 10006 := cvZ_nums (refL_nums a i) z (List.mem_of_getElem? hzn)
      have HLT := Lib.hid (show ((cvZ a (refL a i)).take (n + 1)).length = n + 1 from by rw [List.length_take, cvZ_len]; omega)
      have HZN := Lib.hid (show ((cvZ a (refL a i)).take (n + 1))[n]? = some z from by rw [List.getElem?_take_of_lt (by omega)]; exact hzn)
      have HSE := Lib.hid (show refL a (i + 1) = (refL a i).set n ((0 - z) % 10007) from by rw [refL, hz, hni])
      have hii : (n : Int) < 38 := by omega
      have hni1 : (n : Int) < (n : Int) + 1 := by omega
      clear hz hzn hni
      generalize (cvZ a (refL a i)).take (n + 1) = cz at *
      go_wp2_with (first
        | (go_at_call 185; go_loud (refine HCV.out.mono ?_; rintro e w5 ⟨r5, rfl, ho5, hb5⟩; obtain ⟨A5, c5, he5, -, -, g5⟩ := ho5.ints.open_; rw [HLT.out] at he5; subst he5; obtain ⟨ad5, z5, rfl, hz5, -, hc5⟩ := g5 n (by rw [HLT.out]; omega); rw [HZN.out] at hz5; injection hz5 with hz5; subst hz5; have HB5 := Lib.hid hb5; have HOX := Lib.hid (HO.out.below hb5); obtain ⟨u0, -, hcg, hfg, -, -, -, -⟩ := HOX.out.1.storeAt (k := n) (by rw [ints_len, refL_len]; exact hlt) (.int .i64 ((0 - z) % 10007)); clear ho5 hb5 g5))
        | (go_at_call 93; go_loud (refine (s_l01Sub 0 z _ (by omega) (by omega) (by omega) (by omega)).mono ?_; rintro e w6 ⟨rfl, rfl⟩)))
      go_roundw
      case rel =>
        have hst := HOX.out.1.storeAt (k := n) (by rw [ints_len, refL_len]; exact hlt) (.int .i64 ((-z) % 10007))
        obtain ⟨u0, -, -, -, hg5, hg6, hown', hgr⟩ := hst
        refine ⟨i + 1, n + 1, by omega, by go_num, by have := HNI.out; show n + 1 = i + 1 + 1; omega, ⟨?_, fun z hz => in64_num (refL_nums a (i + 1) z hz)⟩, ?_⟩
        · rw [HSE.out, ← ints_set, show (0 - z : Int) = -z from by omega]; exact hown'
        · exact (HB.out.trans (HB5.out.mono HB.out.size)).setCell hg6 _
      case measure => simp [intOf]; omega
    · have hnm : n = 38 := by omega
      subst hnm
      have hi37 : i = 37 := by have := HNI.out; omega
      subst hi37
      go_wp2_with fail
      go_ret
      exact ⟨_, rfl, HO.out, HB.out⟩
end Go.Proofs.YtdjhfeaimmpmhaaGreat

