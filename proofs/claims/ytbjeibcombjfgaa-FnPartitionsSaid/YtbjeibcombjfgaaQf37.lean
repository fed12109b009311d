/- Walk: l16Partitions of the reference. -/
import Derived.Test.YtbjeibcombjfgaaQf35
import Derived.Test.YtbjeibcombjfgaaQf36
import Derived.Test.YtbjeibcombjfgaaQf3
import Derived.Test.YtbjeibcombjfgaaQf21
import Derived.Test.YtbjeibcombjfgaaQf27
set_option maxRecDepth 100000
set_option linter.unusedVariables false
set_option linter.unusedSimpArgs false
namespace Go.Proofs.Ytbjeibcombjfgaa
open Go.RowKit Go.Sort Go.Shelf

theorem sizeP (W : World) : (sizeOf (Try.prog.elem 59)).run Try.prog W = .ok 3 W := by kernel_rfl
theorem slP_from (W : World) (A : Option Addr) (n c k : Nat) (h : k ≤ n) :
    (Instr.slice 59 (.slice A n c) (some (.int .i64 (k : Int))) none none).run Try.prog W = .ok (sliced A k n c 3) W := by
  rw [run_slice_l W _ A n c Try.underlying59 .i64 k (by omega) (by omega), sizeP]
  simp [Result.andThen]
theorem slP_to (W : World) (A : Option Addr) (n c k : Nat) (h : k ≤ c) :
    (Instr.slice 59 (.slice A n c) none (some (.int .i64 (k : Int))) none).run Try.prog W = .ok (sliced A 0 k c 3) W := by
  rw [run_slice_h W _ A n c Try.underlying59 .i64 k (by omega) (by omega), sizeP]
  simp [Result.andThen]
/-- the state of the list that is filled -/
structure PrS (w wr : World) (o : Value) (G : List (PK × Nat)) : Prop where
  ex : ∃ g cap css, o = .slice (some ⟨g, 0, none⟩) G.length cap ∧ OwnK wr w.heap.size tPt 3 o css ∧ Elts ePc wr w.heap.size css G
  bel : Below w.heap.size w wr
theorem PrS.mk' {w wr : World} {o : Value} {G : List (PK × Nat)} {css : List (List Value)} (ho : OwnK wr w.heap.size tPt 3 o css) (he : Elts ePc wr w.heap.size css G) (hne : G ≠ []) (hb : Below w.heap.size w wr) : PrS w wr o G := by
  rcases ho.cases with ⟨-, h⟩ | ⟨g, cap, cur, h, -⟩
  · have := he.1
    rw [h] at this
    exact absurd (List.eq_nil_of_length_eq_zero this.symm) hne
  · exact ⟨⟨g, cap, css, by rw [h, he.1], ho, he⟩, hb⟩
theorem wrap_to {x y : Int} (h : -9000000000000000000 ≤ x ∧ x ≤ 9000000000000000000) (e : x = y) : wrap64 x = y ∧ IntKind.i64.wrap x = y := ⟨(w64_in' _ (by omega)).trans e, (IntWalk.i64_in _ (by omega)).trans e⟩
theorem prt_parts {t : List Nat} (hlv : lvl t = true) (h8 : t.length ≤ 8) (hcan : canO 9 t = some t) {m : Nat} (hm : m < 2 ^ t.length) (h2 : m % 2 = 0) :
    ∃ pcs r, mapO (fun i => canO 9 (pieN t m i)) (0 :: cutsN m (t.length - 1) 1) = some pcs ∧ canO 9 (sklN t m) = some r ∧ prtN t m = (srtB pcs, r) := by
  obtain ⟨h1, h3, h4, h5, -⟩ := cut_parts (cut_ok hlv h8 hcan hm h2)
  rw [h1] at h3
  obtain ⟨ys, hy⟩ : ∃ ys, mapO (fun i => canO 9 (pieN t m i)) (0 :: cutsN m (t.length - 1) 1) = some ys := mapO_ex fun i hi => by
    obtain ⟨a1, a2, -⟩ := h3 i hi
    obtain ⟨r, hr, -⟩ := canO_8 a1 a2
    exact ⟨r, hr⟩
  obtain ⟨r, hr, -⟩ := canO_8 h4 h5
  exact ⟨ys, r, hy, hr, by unfold prtN; rw [hy, hr]; rfl⟩
set_option maxHeartbeats 32000000 in
theorem s_l16Partitions (w : World) (v : Value) (t : List Nat) (ha : Ints w v (up t)) (hlv : lvl t = true) (h8 : t.length ≤ 8) (hcan : canO 9 t = some t) (hl : ∀ l ∈ t, l ≤ 1000000) :
    Calls Try.prog 112 #[v] w fun e w' => ∃ x, e = .returned x ∧ SLs ePc tPt w' w.heap.size x (grpL cmpP (srtS ltP (prtL t (2 ^ (t.length - 1))))) ∧ Below w.heap.size w w' := by
  have HA := Lib.hid ha
  have hpos : 0 < t.length := by obtain ⟨c, rfl, -⟩ := lvl_cons hlv; simp
  obtain ⟨A, c, rfl, l1, l2, -⟩ := ha.open_
  rw [up_len] at l1 HA ⊢
  have HPR := Lib.hid (fun m hm h2 => prt_parts hlv h8 hcan (m := m) hm h2)
  have HPC := Lib.hid (fun W m pcs (hm : m < 256) (h : Ints W (.slice A t.length c) (up t)) (hp : mapO (fun i => canO 9 (pieN t m i)) (0 :: cutsN m (t.length - 1) 1) = some pcs) => s_l16Pieces W _ t m pcs h h8 hpos hm hl hp (fun i hi => by have h1 := pieN_le t m i hi; omega))
  have HSK := Lib.hid (fun W m r (hm : m < 256) (h : Ints W (.slice A t.length c) (up t)) (hr : canO 9 (sklN t m) = some r) => s_l16Skeleton W _ t m r h h8 hpos hm hl hr)
  have hpw : ∃ N : Nat, N = 2 ^ (t.length - 1) ∧ 2 * N = 2 ^ t.length ∧ N ≤ 128 := by
    refine ⟨_, rfl, ?_, ?_⟩
    · obtain ⟨k, hk⟩ : ∃ k, t.length = k + 1 := ⟨t.length - 1, by omega⟩
      rw [hk, Nat.pow_succ]; simp; omega
    · exact Nat.le_trans (Nat.pow_le_pow_right (by omega) (show t.length - 1 ≤ 7 by omega)) (by decide)
  obtain ⟨N, hN, hN2, hN8⟩ := hpw
  rw [← hN, ← insF_grp STO.ltP cmpP_zero]
  have HN2 := Lib.hid hN2
  obtain ⟨M, hM⟩ : ∃ M, M = 2 * N := ⟨_, rfl⟩
  have HM := Lib.hid hM
  have hM8 : M ≤ 256 := by omega
  have HSH := Lib.hid (show wrap64 ((2 : Int) ^ t.length) = (M : Int) ∧ IntKind.i64.wrap ((2 : Int) ^ t.length) = (M : Int) from by
    have e : ((2 : Int) ^ t.length) = ((2 ^ t.length : Nat) : Int) := by simp
    rw [e, ← hN2, ← hM]
    exact ⟨w64_in' _ (by omega), IntWalk.i64_in _ (by omega)⟩)
  have ht63 : (t.length : Int) < 64 := by omega
  have ht0 : (0 : Int) ≤ (t.length : Int) := by omega
  have HP0 := Lib.hid (show PrS w (w.alloc (.cells #[] tPt)) (.slice (some ⟨w.heap.size, 0, none⟩) 0 0) (insF ltP [] (prtL t 0)) from
    ⟨⟨_, 0, [], rfl, OwnK.lit w tPt 3 [] (fun c hc => by simp at hc) (by simp [maxLen]) #[] rfl, Elts.nil _ _ _⟩, below1 _ _⟩)
  have HLN := Lib.hid (fun i => show (insF ltP [] (prtL t i)).length ≤ i ∧ ∀ x ∈ insF ltP [] (prtL t i), x.2 ≤ i from ⟨by have h := insF_len (lt := ltP) (prtL t i) []; simp [prtL] at h; simpa [prtL] using h, fun x hx => by have h := insF_cnt (lt := ltP) (prtL t i) [] 0 (fun y hy => by cases hy) x hx; simp [prtL] at h; simpa [prtL] using h⟩)
  clear ha hlv hcan hl hN hN2 hM
  go_enter Try.func112, Try.ntmps112
  go_wp2_with fail
  go_loopw [3, 4] (fun o x wr => ∃ (i m : Nat), i ≤ N ∧ x = .int .i64 (m : Nat) ∧ Hid (m = 2 * i) ∧ Hid (PrS w wr o (insF ltP [] (prtL t i)))) (fun _ x _ => M - (intOf x).toNat)
  case atStart => exact ⟨0, 0, Nat.zero_le _, rfl, rfl, HP0⟩
  case round =>
    obtain ⟨i, m, hi, rfl, HMI, HPS⟩ := hrel
    rename World => wr
    clear HP0
    have hm0 := HMI.out
    have hM0 := HM.out
    obtain ⟨hsh, hsh2⟩ := HSH.out
    have hln := (HLN.out i).1
    have HCN := Lib.hid (HLN.out i).2
    have HGS := Lib.hid (show ∀ p, prtN t m = p → insF ltP [] (prtL t (i + 1)) = ins1 ltP p (insF ltP [] (prtL t i)) from fun p hp => by rw [prtL_succ, ← hm0, hp]; exact insF_snoc _ _)
    obtain ⟨G, hG⟩ : ∃ G, G = insF ltP [] (prtL t i) := ⟨_, rfl⟩
    rw [← hG] at HPS HGS HCN hln
    have HGE := Lib.hid hG
    clear hG
    obtain ⟨g, cap, css, rfl, ho, he⟩ := HPS.out.ex
    have HO := Lib.hid ho
    have HE := Lib.hid he
    have HB := Lib.hid HPS.out.bel
    clear ho he HPS
    by_cases hlt : i < N
    · have hml : m < M := by omega
      have hmi : (m : Int) < (M : Int) := by omega
      obtain ⟨pcs, r, hpc, hsk, hpn⟩ := HPR.out m (by rw [← HN2.out]; omega) (by omega)
      have HGP := Lib.hid (HGS.out _ hpn)
      have HC1 := Lib.hid (HPC.out wr m pcs (by omega) (HA.out.below HB.out) hpc)
      have HC2 := Lib.hid (fun X (hX : Below wr.heap.size wr X) => HSK.out X m r (by omega) ((HA.out.below HB.out).below hX) hsk)
      clear hm0 hM0 hpc hsk hpn
      go_upto_region 6 with (first
        | (go_at_call 100; go_loud (refine HC1.out.mono ?_; rintro e w3 ⟨x3, rfl, hx3, hb3⟩; obtain ⟨A5, c5, he5, -, -, -⟩ := hx3.rows.open_; rw [List.length_map] at he5; subst he5; have HX3 := Lib.hid hx3; have HB3 := Lib.hid hb3; clear hx3 hb3))
        | (go_at_call 94; go_loud (refine (HC2.out _ HB3.out).mono ?_; rintro e w4 ⟨x4, rfl, hx4, hb4⟩; obtain ⟨A6, c6, he6, -, -, -⟩ := hx4.ints.open_; rw [up_len] at he6; subst he6; have HX4 := Lib.hid hx4; have HX3 := Lib.hid (HX3.out.below hb4); have HB4 := Lib.hid (HB3.out.trans (hb4.mono HB3.out.size)); have HB34 := Lib.hid (Nat.le_trans HB.out.size HB3.out.size); clear hx4 hb4)))
      clear HC1 HC2
      obtain ⟨q5, hq5⟩ : ∃ q, q = w4.heap.size := ⟨_, rfl⟩
      obtain ⟨W5, hW5⟩ : ∃ W5, W5 = w4.alloc (.cells #[.slice A5 (srtB pcs).length c5, .slice A6 r.length c6, .int .i64 1] tPt) := ⟨_, rfl⟩
      have hb5 : Below w4.heap.size w4 W5 := by rw [hW5]; exact below1 _ _
      have HB5 := Lib.hid (show Below wr.heap.size wr W5 from HB4.out.trans (hb5.mono HB4.out.size))
      have HK5 := Lib.hid (show Blk W5 q5 tPt #[.slice A5 (srtB pcs).length c5, .slice A6 r.length c6, .int .i64 1] from by rw [hW5, hq5]; exact Blk.new _ _ _)
      have HD5 := Lib.hid (show ePc.D W5 w.heap.size [.slice A5 (srtB pcs).length c5, .slice A6 r.length c6, .int .i64 ((1 : Nat) : Int)] ((srtB pcs, r), 1) from ⟨_, _, rfl, (show LA W5 w.heap.size (.slice A5 (srtB pcs).length c5) ((srtB pcs).map up) from (HX3.out.below hb5).mono HB.out.size), (show OwnInts W5 w.heap.size tI (.slice A6 r.length c6) (up r) from (HX4.out.below hb5).mono HB34.out)⟩)
      have HBW5 := Lib.hid (HB.out.trans (HB5.out.mono HB.out.size))
      have HO5 := Lib.hid (HO.out.below HB5.out)
      have HE5 := Lib.hid (HE.out.below HB5.out)
      rw [← hW5, ← hq5]
      clear hW5 hq5 hb5 HX3 HX4 HB3 HB4 HB34 HO HE
      generalize srtB pcs = P1 at *
      have hPl := posG_le (lt := ltP) (p := ((P1, r) : PK)) G
      have HPB := Lib.hid (fun k x => @posG_lt PK ltP (P1, r) G k x)
      have HPA := Lib.hid (fun x => @posG_at PK ltP (P1, r) G x)
      have HNW := Lib.hid (@ins1_new PK ltP (P1, r) G)
      have HOL := Lib.hid (fun x n h h0 => @ins1_old PK ltP (P1, r) G x n h h0)
      generalize posG ltP (P1, r) G = P at *
      obtain ⟨S, hS1, hS2⟩ : ∃ S : World → Prop, (∀ Wx, S Wx → Below W5.heap.size W5 Wx) ∧ (∀ Wx, Below W5.heap.size W5 Wx → S Wx) := ⟨fun Wx => Below W5.heap.size W5 Wx, fun _ h => h, fun _ h => h⟩
      have HSE := Lib.hid (show ∀ x : GW S, Below W5.heap.size W5 x.w from fun x => hS1 _ x.h)
      have HSI := Lib.hid (show ∀ X, Below W5.heap.size W5 X → S X.drew from fun X hX => hS2 _ hX.drew)
      have HSM := Lib.hid hS2
      clear hS1 hS2
      go_upto_block 2 with fail
      go_cut [6] from 9 to 71 (fun x wx => x = .int .i64 (P : Nat) ∧ Below W5.heap.size W5 wx)
      case first =>
        go_wp2_with fail
        go_loopw [6] (fun x wx => ∃ k : Nat, k ≤ P ∧ x = .int .i64 (k : Nat) ∧ Below W5.heap.size W5 wx) (fun x _ => G.length - (intOf x).toNat)
        case atStart => exact ⟨0, Nat.zero_le _, rfl, Below.refl _ _⟩
        case round =>
          obtain ⟨k, hk, rfl, hb⟩ := hrel
          rename World => wk
          have HBK := Lib.hid hb
          clear hb
          by_cases hkl : k < G.length
          · obtain ⟨⟨y, ny⟩, hy⟩ : ∃ x, G[k]? = some x := ⟨_, List.getElem?_eq_getElem hkl⟩
            obtain ⟨cc, hcc, hdc⟩ := HE5.out.at_ hy
            obtain ⟨u, s, rfl, hu, hs⟩ := hdc
            have k0 := HO5.out.cellAt hcc (j := 0) rfl
            have k1 := HO5.out.cellAt hcc (j := 1) rfl
            have k2 := HO5.out.cellAt hcc (j := 2) rfl
            rw [Nat.add_zero] at k0
            have e0 : ∀ x : GW S, x.w.cell? ⟨g, k * 3, none⟩ = some u := fun x => keepCell (HSE.out x) k0
            have e1 : ∀ x : GW S, x.w.cell? ⟨g, k * 3 + 1, none⟩ = some s := fun x => keepCell (HSE.out x) k1
            have e2 : ∀ x : GW S, x.w.cell? ⟨g, k * 3 + 2, none⟩ = some (.int .i64 (ny : Nat)) := fun x => keepCell (HSE.out x) k2
            have f0 : ∀ x : GW S, x.w.cell? ⟨q5, 0, none⟩ = some (.slice A5 P1.length c5) := fun x => (HK5.out.below (HSE.out x) HK5.out.lt).cell 0
            have f1 : ∀ x : GW S, x.w.cell? ⟨q5, 1, none⟩ = some (.slice A6 r.length c6) := fun x => (HK5.out.below (HSE.out x) HK5.out.lt).cell 1
            have f2 : ∀ x : GW S, x.w.cell? ⟨q5, 2, none⟩ = some (.int .i64 1) := fun x => (HK5.out.below (HSE.out x) HK5.out.lt).cell 2
            have hki : (k : Int) < (G.length : Int) := by omega
            have HDY := Lib.hid (show ePc.D W5 w.heap.size [u, s, .int .i64 (ny : Nat)] (y, ny) from ⟨u, s, rfl, hu, hs⟩)
            have HLE := Lib.hid (fun x : GW S => show Calls Try.prog 178 #[.agg #[u, s, .int .i64 (ny : Nat)], .agg #[.slice A5 P1.length c5, .slice A6 r.length c6, .int .i64 1]] x.w (fun e w' => e = .returned (.bool (ltP y (P1, r))) ∧ S w') from (s_l16Less x.w _ _ _ _ y (P1, r) ny 1 (ePc.below HDY.out (HSE.out x)) (ePc.below HD5.out (HSE.out x))).mono (by rintro e w7 ⟨rfl, hb7⟩; exact ⟨rfl, HSM.out _ ((HSE.out x).trans (hb7.mono (HSE.out x).size))⟩))
            have hb1 : k < P → ltP y (P1, r) = true := fun h => HPB.out k (y, ny) h hy
            have hb2 : k = P → ltP y (P1, r) = false := fun h => HPA.out (y, ny) (by rw [← h]; exact hy)
            generalize ltP y (P1, r) = bb at *
            clear hcc hu hs hy k0 k1 k2
            by_cases hkP : k < P
            · have hbb := hb1 hkP
              subst hbb
              clear hb1 hb2
              go_wp2_with fail
              refine wp_region_grow S (by kernel_rfl) (by kernel_rfl) (HSI.out _ HBK.out) (fun hne => ?_)
              repeat (go_big_quiet_step ((go_at_call 178; exact grow_call (HLE.out _))))
              refine wpQuiet_nil ?_
              rintro _ ⟨xq, rfl⟩
              clear e0 e1 e2 f0 f1 f2
              go_wp2_with fail
              go_roundw
              case rel => exact ⟨k + 1, by omega, by go_num, HSE.out xq⟩
              case measure => simp [intOf]; omega
            · have hkP' : k = P := by omega
              have hbb := hb2 hkP'
              subst hbb
              clear hb1 hb2 hkP
              subst hkP'
              go_wp2_with fail
              refine wp_region_grow S (by kernel_rfl) (by kernel_rfl) (HSI.out _ HBK.out) (fun hne => ?_)
              repeat (go_big_quiet_step ((go_at_call 178; exact grow_call (HLE.out _))))
              refine wpQuiet_nil ?_
              rintro _ ⟨xq, rfl⟩
              clear e0 e1 e2 f0 f1 f2
              go_wp2_with fail
              go_meet
              exact ⟨rfl, HSE.out xq⟩
          · have hkg : k = G.length := by omega
            have hkP' : k = P := by omega
            have hki : ¬ (k : Int) < (G.length : Int) := by omega
            have HKP := Lib.hid hkP'
            clear hkg hkP'
            go_wp2_with fail
            refine wp_region_grow S (by kernel_rfl) (by kernel_rfl) (HSI.out _ HBK.out) (fun hne => ?_)
            repeat (go_big_quiet_step (fail))
            refine wpQuiet_nil ?_
            rintro _ ⟨xq, rfl⟩
            go_wp2_with fail
            go_meet
            exact ⟨by rw [HKP.out], HSE.out xq⟩
      case rest =>
        obtain ⟨rfl, hb⟩ := hcut
        rename World => wa
        have HBA := Lib.hid hb
        clear hb HPB
        have HOB := Lib.hid (show ∃ ob : Bool, (ob = true → ∃ y ny, G[P]? = some (y, ny) ∧ ltP (P1, r) y = false) ∧ (ob = false → ∀ x, G[P]? = some x → ltP (P1, r) x.1 = true) ∧ ((P < G.length ∧ ∃ y ny, G[P]? = some (y, ny) ∧ ob = !ltP (P1, r) y) ∨ (P = G.length ∧ ob = false)) from by
          by_cases hPG : P < G.length
          · obtain ⟨⟨y, ny⟩, hy⟩ : ∃ x, G[P]? = some x := ⟨_, List.getElem?_eq_getElem hPG⟩
            refine ⟨!ltP (P1, r) y, (fun h => ⟨y, ny, hy, by simpa using h⟩), (fun h x hx => ?_), .inl ⟨hPG, y, ny, hy, rfl⟩⟩
            rw [hy] at hx
            injection hx with hx
            rw [← hx]
            simpa using h
          · exact ⟨false, (fun h => by cases h), (fun _ x hx => by have := (List.getElem?_eq_some_iff.1 hx).1; omega), .inr ⟨by omega, rfl⟩⟩)
        obtain ⟨ob, hob1, hob2, hob3⟩ := HOB.out
        have HO1 := Lib.hid hob1
        have HO2 := Lib.hid hob2
        clear hob1 hob2 HOB
        go_upto_region 9 with fail
        go_cut [50] from 9 to 71 (fun x wx => x = .bool ob ∧ Below W5.heap.size W5 wx)
        case first =>
          rcases hob3 with ⟨hPG, y, ny, hy, hov⟩ | ⟨hPG, hov⟩
          · obtain ⟨cc, hcc, hdc⟩ := HE5.out.at_ hy
            obtain ⟨u, s, rfl, hu, hs⟩ := hdc
            have k0 := HO5.out.cellAt hcc (j := 0) rfl
            have k1 := HO5.out.cellAt hcc (j := 1) rfl
            have k2 := HO5.out.cellAt hcc (j := 2) rfl
            rw [Nat.add_zero] at k0
            have e0 : ∀ x : GW S, x.w.cell? ⟨g, P * 3, none⟩ = some u := fun x => keepCell (HSE.out x) k0
            have e1 : ∀ x : GW S, x.w.cell? ⟨g, P * 3 + 1, none⟩ = some s := fun x => keepCell (HSE.out x) k1
            have e2 : ∀ x : GW S, x.w.cell? ⟨g, P * 3 + 2, none⟩ = some (.int .i64 (ny : Nat)) := fun x => keepCell (HSE.out x) k2
            have f0 : ∀ x : GW S, x.w.cell? ⟨q5, 0, none⟩ = some (.slice A5 P1.length c5) := fun x => (HK5.out.below (HSE.out x) HK5.out.lt).cell 0
            have f1 : ∀ x : GW S, x.w.cell? ⟨q5, 1, none⟩ = some (.slice A6 r.length c6) := fun x => (HK5.out.below (HSE.out x) HK5.out.lt).cell 1
            have f2 : ∀ x : GW S, x.w.cell? ⟨q5, 2, none⟩ = some (.int .i64 1) := fun x => (HK5.out.below (HSE.out x) HK5.out.lt).cell 2
            have hki : (P : Int) < (G.length : Int) := by omega
            have HDY := Lib.hid (show ePc.D W5 w.heap.size [u, s, .int .i64 (ny : Nat)] (y, ny) from ⟨u, s, rfl, hu, hs⟩)
            have HLE := Lib.hid (fun x : GW S => show Calls Try.prog 178 #[.agg #[.slice A5 P1.length c5, .slice A6 r.length c6, .int .i64 1], .agg #[u, s, .int .i64 (ny : Nat)]] x.w (fun e w' => e = .returned (.bool (ltP (P1, r) y)) ∧ S w') from (s_l16Less x.w _ _ _ _ (P1, r) y 1 ny (ePc.below HD5.out (HSE.out x)) (ePc.below HDY.out (HSE.out x))).mono (by rintro e w7 ⟨rfl, hb7⟩; exact ⟨rfl, HSM.out _ ((HSE.out x).trans (hb7.mono (HSE.out x).size))⟩))
            generalize ltP (P1, r) y = bb at *
            clear hcc hu hs hy k0 k1 k2
            have HOV := Lib.hid hov
            clear hov
            go_wp2_with fail
            refine wp_region_grow S (by kernel_rfl) (by kernel_rfl) (HSI.out _ HBA.out) (fun hne => ?_)
            repeat (go_big_quiet_step ((go_at_call 178; exact grow_call (HLE.out _))))
            refine wpQuiet_nil ?_
            rintro _ ⟨xq, rfl⟩
            clear e0 e1 e2 f0 f1 f2
            go_wp2_with fail
            go_meet
            exact ⟨by rw [HOV.out], HSE.out xq⟩
          · have hki : ¬ (P : Int) < (G.length : Int) := by omega
            have hkn : ¬ P < G.length := by omega
            have hkd : decide (P < G.length) = false := decide_eq_false hkn
            have HOV := Lib.hid hov
            clear hov hPG
            go_wp2_with fail
            go_quiet (fail)
            go_wp2_with fail
            go_meet
            exact ⟨by rw [HOV.out], below_drewN HBA.out _⟩
        case rest =>
          obtain ⟨rfl, hb⟩ := hcut
          rename World => wb
          have HBB := Lib.hid hb
          have HBWB := Lib.hid (HBW5.out.trans (hb.mono HBW5.out.size))
          have HOb := Lib.hid (HO5.out.below hb)
          have HEb := Lib.hid (HE5.out.below hb)
          have HDb := Lib.hid (ePc.below HD5.out hb)
          have HKb := Lib.hid (HK5.out.below hb HK5.out.lt)
          clear hb hob3 HSE HSI HSM HPA HBA
          cases ob with
          | true =>
            obtain ⟨y, ny, hy, hl⟩ := HO1.out rfl
            have HG' := Lib.hid (HGP.out.trans (HOL.out y ny hy hl))
            obtain ⟨cc, hcc, hdc⟩ := HEb.out.at_ hy
            obtain ⟨u, s, rfl, hu, hs⟩ := hdc
            have hny : ny ≤ i := HCN.out (y, ny) (List.mem_of_getElem? hy)
            have hPG : P < G.length := (List.getElem?_eq_some_iff.1 hy).1
            have hki : (P : Int) < (G.length : Int) := by omega
            have k2 := HOb.out.cellAt hcc (j := 2) rfl
            obtain ⟨-, hfz, -, hst, hgt⟩ := HOb.out.storeAt (j := 2) hcc (by omega) (.int .i64 ((ny + 1 : Nat) : Int))
            have hbt := HOb.out.bt
            have hnb : -9000000000000000000 ≤ (ny : Int) + 1 ∧ (ny : Int) + 1 ≤ 9000000000000000000 := by omega
            have hnc : (ny : Int) + 1 = ((ny + 1 : Nat) : Int) := by omega
            obtain ⟨hwn, hwn2⟩ := wrap_to hnb hnc
            clear hnb hnc
            have hE2 := (HEb.out.set_ (i := P) (c := [u, s, .int .i64 ((ny + 1 : Nat) : Int)]) (x := (y, ny + 1)) ⟨u, s, rfl, hu, hs⟩).kept (v := .slice (some ⟨g, 0, none⟩) G.length cap) hgt hbt (by decide) (by decide)
            have HST := Lib.hid (show PrS w (wb.setCell ⟨g, P * 3 + 2, none⟩ (.int .i64 ((ny + 1 : Nat) : Int))) (.slice (some ⟨g, 0, none⟩) (G.set P (y, ny + 1)).length cap) (G.set P (y, ny + 1)) from
              ⟨⟨g, cap, css.set P ([u, s, .int .i64 (ny : Nat)].set 2 (.int .i64 ((ny + 1 : Nat) : Int))), rfl, by rw [List.length_set]; exact hst, hE2⟩, HBWB.out.setCell (p := ⟨g, P * 3 + 2, none⟩) (HOb.out.ge g rfl) _⟩)
            rw [List.length_set] at HST
            clear hst hgt hbt hE2 hcc hu hs hy hl
            go_wp2_with fail
            go_roundw
            case rel => exact ⟨i + 1, m + 2, by omega, by go_num, by have := HMI.out; show m + 2 = 2 * (i + 1); omega, by rw [HG'.out]; exact HST.out⟩
            case measure => simp [intOf]; omega
          | false =>
            have HG' := Lib.hid (HGP.out.trans (HNW.out (HO2.out rfl)))
            have hcl := HEb.out.1
            have hPc : P ≤ css.length := by omega
            obtain ⟨o, hso, hrd⟩ := HOb.out.from_ hPc
            obtain ⟨hst, hrt⟩ := HOb.out.to_ hPc
            have hsl : ∀ W, (Instr.slice 59 (.slice (some ⟨g, 0, none⟩) G.length cap) (some (.int .i64 (P : Int))) none none).run Try.prog W = .ok (.slice (some ⟨g, o, none⟩) (css.drop P).length (cap - P)) W := fun W => by rw [slP_from W _ _ _ _ hPl, hso]
            have hsl2 : ∀ W, (Instr.slice 59 (.slice (some ⟨g, 0, none⟩) G.length cap) none (some (.int .i64 (P : Int))) none).run Try.prog W = .ok (.slice (some ⟨g, 0, none⟩) (css.take P).length cap) W := fun W => by
              rw [slP_to W _ _ _ _ (by have := HOb.out.read.2.1; omega), hst]
            have HRD := Lib.hid hrd
            have HRT := Lib.hid hrt
            have HDL := Lib.hid (HEb.out.drop_ P)
            have HTL := Lib.hid (HEb.out.take_ P)
            have hdl : (css.drop P).length ≤ 200 := by rw [List.length_drop]; omega
            have htl : (css.take P).length ≤ 200 := by rw [List.length_take]; omega
            have HBD := Lib.hid (show Below wb.heap.size wb wb.drew from (Below.refl _ _).drew)
            have f0 : wb.cell? ⟨q5, 0, none⟩ = some (.slice A5 P1.length c5) := HKb.out.cell 0
            have f1 : wb.cell? ⟨q5, 1, none⟩ = some (.slice A6 r.length c6) := HKb.out.cell 1
            have f2 : wb.cell? ⟨q5, 2, none⟩ = some (.int .i64 1) := HKb.out.cell 2
            have HCP := Lib.hid hcl
            clear hso hst hrd hrt hcl hPc
            generalize css.drop P = dr at *
            generalize css.take P = tk at *
            go_wp2_with fail
            go_region_law (go_loud (refine step_appNK T_part (B := wb.heap.size) (c := cap - P) (css := ([[.slice A5 P1.length c5, .slice A6 r.length c6, .int .i64 ((1 : Nat) : Int)]] : List (List Value))) (ds := dr) (A := some ⟨g, o, none⟩) (W := wb.drew.alloc (.cells #[.slice A5 P1.length c5, .slice A6 r.length c6, .int .i64 1] tPt)) (by exact OwnK.lit wb.drew tPt 3 ([[.slice A5 P1.length c5, .slice A6 r.length c6, .int .i64 ((1 : Nat) : Int)]] : List (List Value)) (by intro c hc; simp at hc; rw [hc]; rfl) (by simp [maxLen]) _ rfl) ((HRD.out.below HBD.out).below (below1 _ _)) (by simp; omega) (by simp) HDL.out.ones (by rfl) rfl (by rfl) (by rfl) ?_; intro v7 w7 hk7 hgr7; have HK7 := Lib.hid hk7; have HG7 := Lib.hid hgr7; clear hk7 hgr7))
            all_goals
              have HB7 := Lib.hid (show Below wb.heap.size wb w7 from HG7.out.below (HBD.out.trans ((below1 wb.drew _).mono (Nat.le_refl _))) (by simp) (by intro b hb; injection hb with hb; rw [← hb]; exact Nat.le_refl _))
              obtain ⟨g7, cap7, he7⟩ : ∃ g7 cap7, v7 = .slice (some ⟨g7, 0, none⟩) (([[.slice A5 P1.length c5, .slice A6 r.length c6, .int .i64 ((1 : Nat) : Int)]] : List (List Value)) ++ dr).length cap7 := by
                rcases HK7.out.cases with ⟨-, h⟩ | ⟨g7, cap7, cur, h, -⟩
                · cases h
                · exact ⟨g7, cap7, h⟩
              have HR7 := Lib.hid (show RdK w7 3 (some ⟨g7, 0, none⟩) (([[.slice A5 P1.length c5, .slice A6 r.length c6, .int .i64 ((1 : Nat) : Int)]] : List (List Value)) ++ dr) from by
                have h := HK7.out
                rw [he7] at h
                exact h.read.2.2)
              have HE7 := Lib.hid he7
              have HL8 := Lib.hid (show OwnK (w7.alloc (.cells #[] tPt)) w7.heap.size tPt 3 (.slice (some ⟨w7.heap.size, 0, none⟩) 0 0) [] from OwnK.lit w7 tPt 3 [] (fun c hc => by simp at hc) (by simp [maxLen]) #[] rfl)
              have HON := Lib.hid (show ∀ d ∈ ([[.slice A5 P1.length c5, .slice A6 r.length c6, .int .i64 ((1 : Nat) : Int)]] : List (List Value)) ++ dr, ∀ u ∈ d, u.oneCell' = true from fun d hd u hu => by
                rcases List.mem_append.1 hd with hd | hd
                · simp at hd
                  rw [hd] at hu
                  exact ePc.one HDb.out u hu
                · exact HDL.out.ones d hd u hu)
              clear he7
              go_wp2_with (first
                | (at_builtin; (refine wpList_appNK T_part (B := w7.heap.size) (c := cap) (ds := tk) (A := some ⟨g, 0, none⟩) HL8.out ((HRT.out.below HB7.out).below (below1 w7 _)) (by simp; omega) (by simp) HTL.out.ones (by rfl) rfl (by rfl) (by rfl) ?_; intro v9 w9 hk9 hgr9; have HK9 := Lib.hid hk9; have HG9 := Lib.hid hgr9; have HB9 := Lib.hid (show Below w7.heap.size w7 w9 from hgr9.below (below1 w7 _) (by simp) (by intro b hb; injection hb with hb; rw [← hb]; exact Nat.le_refl _)); clear hk9 hgr9))
                | (at_builtin; go_loud (refine wpList_appNK T_part (B := w7.heap.size) (c := cap7) (ds := ([[.slice A5 P1.length c5, .slice A6 r.length c6, .int .i64 ((1 : Nat) : Int)]] : List (List Value)) ++ dr) (A := some ⟨g7, 0, none⟩) HK9.out (HR7.out.below HB9.out) (by simp; omega) HB9.out.size HON.out (by rfl) rfl (by rfl) (by exact HE7.out) ?_; intro v10 w10 hk10 hgr10; have HK10 := Lib.hid hk10; have HG10 := Lib.hid hgr10; clear hk10 hgr10)))
              have HB79 := Lib.hid (HB7.out.trans (HB9.out.mono HB7.out.size))
              have HB10 := Lib.hid (show Below wb.heap.size wb w10 from HG10.out.below HB79.out HB79.out.size (fun b hb => Nat.le_trans HB7.out.size (HK9.out.ge b hb)))
              have HBW10 := Lib.hid (HBWB.out.trans (HB10.out.mono HBWB.out.size))
              have HST := Lib.hid (show PrS w w10 v10 (insF ltP [] (prtL t (i + 1))) from by
                rw [HG'.out]
                refine PrS.mk' (css := [] ++ tk ++ (([[.slice A5 P1.length c5, .slice A6 r.length c6, .int .i64 ((1 : Nat) : Int)]] : List (List Value)) ++ dr)) (HK10.out.mono (Nat.le_trans HBWB.out.size HB7.out.size)) ?_ (by simp) HBW10.out
                exact (HTL.out.below HB10.out).append_ ((HDL.out.below HB10.out).cons_ (ePc.below HDb.out HB10.out)))
              go_roundw
              case rel => exact ⟨i + 1, m + 2, by omega, by go_num, by have := HMI.out; show m + 2 = 2 * (i + 1); omega, HST⟩
              case measure => simp [intOf]; omega
    · have hiN : i = N := by omega
      subst hiN
      have hml : ¬ (m < M) := by omega
      have hmi : ¬ ((m : Int) < (M : Int)) := by omega
      clear hm0 hM0
      go_wp2_with fail
      go_ret
      exact ⟨_, rfl, ⟨css, HO.out, by rw [← HGE.out]; exact HE.out⟩, HB.out⟩
end Go.Proofs.Ytbjeibcombjfgaa

