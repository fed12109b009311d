/- Walk: l16Partitions of the reference. | Plain: the pieces of a tree have together as many nodes as the tree. No walk. -/
import Derived.Test.YtnlaoainhlfemaaPt13
import Derived.Test.YtnlaoainhlfemaaPt14
import Derived.Test.YtnlaoainhlfemaaPt3
import Derived.Test.YtnlaoainhlfemaaPt9
import Derived.Test.YtnlaoainhlfemaaPt7
set_option maxRecDepth 100000
set_option linter.unusedVariables false
set_option linter.unusedSimpArgs false
namespace Go.Proofs.Ytnlaoainhlfemaa
open Go.RowKit Go.Sort Go.Shelf

theorem sizeP (W : World) : (sizeOf (Try.prog.elem 51)).run Try.prog W = .ok 3 W := by kernel_rfl
theorem slP_from (W : World) (A : Option Addr) (n c k : Nat) (h : k ≤ n) :
    (Instr.slice 51 (.slice A n c) (some (.int .i64 (k : Int))) none none).run Try.prog W = .ok (sliced A k n c 3) W := by
  rw [run_slice_l W _ A n c Try.underlying51 .i64 k (by omega) (by omega), sizeP]
  simp [Result.andThen]
theorem slP_to (W : World) (A : Option Addr) (n c k : Nat) (h : k ≤ c) :
    (Instr.slice 51 (.slice A n c) none (some (.int .i64 (k : Int))) none).run Try.prog W = .ok (sliced A 0 k c 3) W := by
  rw [run_slice_h W _ A n c Try.underlying51 .i64 k (by omega) (by omega), sizeP]
  simp [Result.andThen]
/-- the state of the list that is filled -/
structure PrS (w wr : World) (o : Value) (G : List (PK × Nat)) : Prop where
  ex : ∃ g cap css, o = .slice (some ⟨g, 0, none⟩) G.length cap ∧ OwnK wr w.heap.size tPt 3 o css ∧ Elts ePc wr w.heap.size css G
  bel : Below w.heap.size w wr
theorem PrS.mk' {w wr : World} {o : Value} {G : List (PK × Nat)} {css : List (List Value)} (ho : OwnK wr w.heap.size tPt 3 o css) (he : Elts ePc wr w.heap.size css G) (hne : G ≠ []) (hb : Below w.heap.size w wr) : PrS w wr o G := by
  rcases ho.cases with ⟨-, h⟩ | ⟨g, cap, cur, h, -⟩
  · have := he.1
    rw [h] at this
    exact absurd (List.eq_nil_of_length_eq_zero this.symm) hne
  · exact ⟨⟨g, cap, css, by rw [h, he.1], ho, he⟩, hb⟩
theorem wrap_to {x y : Int} (h : -9000000000000000000 ≤ x ∧ x ≤ 9000000000000000000) (e : x = y) : wrap64 x = y ∧ IntKind.i64.wrap x = y := ⟨(w64_in' _ (by omega)).trans e, (IntWalk.i64_in _ (by omega)).trans e⟩
theorem prt_parts {t : List Nat} (hlv : lvl t = true) (h8 : t.length ≤ 8) (hcan : canO 9 t = some t) {m : Nat} (hm : m < 2 ^ t.length) (h2 : m % 2 = 0) :
    ∃ pcs r, mapO (fun i => canO 9 (pieN t m i)) (0 :: cutsN m (t.length - 1) 1) = some pcs ∧ canO 9 (sklN t m) = some r ∧ prtN t m = (srtB pcs, r) := by
  obtain ⟨h1, h3, h4, h5, -⟩ := cut_parts (cut_ok hlv h8 hcan hm h2)
  rw [h1] at h3
  obtain ⟨ys, hy⟩ : ∃ ys, mapO (fun i => canO 9 (pieN t m i)) (0 :: cutsN m (t.length - 1) 1) = some ys := mapO_ex fun i hi => by
    obtain ⟨a1, a2, -⟩ := h3 i hi
    obtain ⟨r, hr, -⟩ := canO_8 a1 a2
    exact ⟨r, hr⟩
  obtain ⟨r, hr, -⟩ := canO_8 h4 h5
  exact ⟨ys, r, hy, hr, by unfold prtN; rw [hy, hr]; rfl⟩
set_option maxHeartbeats 32000000 in
theorem s_l16Partitions (w : World) (v : Value) (t : List Nat) (ha : Ints w v (up t)) (hlv : lvl t = true) (h8 : t.length ≤ 8) (hcan : canO 9 t = some t) (hl : ∀ l ∈ t, l ≤ 1000000) :
    Calls Try.prog 80 #[v] w fun e w' => ∃ x, e = .returned x ∧ SLs ePc tPt w' w.heap.size x (grpL cmpP (srtS ltP (prtL t (2 ^ (t.length - 1))))) ∧ Below w.heap.size w w' := by
  have HA := Lib.hid ha
  have hpos : 0 < t.length := by obtain ⟨c, rfl, -⟩ := lvl_cons hlv; simp
  obtain ⟨A, c, rfl, l1, l2, -⟩ := ha.open_
  rw [up_len] at l1 HA ⊢
  have HPR := Lib.hid (fun m hm h2 => prt_parts hlv h8 hcan (m := m) hm h2)
  have HPC := Lib.hid (fun W m pcs (hm : m < 256) (h : Ints W (.slice A t.length c) (up t)) (hp : mapO (fun i => canO 9 (pieN t m i)) (0 :: cutsN m (t.length - 1) 1) = some pcs) => s_l16Pieces W _ t m pcs h h8 hpos hm hl hp (fun i hi => by have h1 := pieN_le t m i hi; omega))
  have HSK := Lib.hid (fun W m r (hm : m < 256) (h : Ints W (.slice A t.length c) (up t)) (hr : canO 9 (sklN t m) = some r) => s_l16Skeleton W _ t m r h h8 hpos hm hl hr)
  have hpw : ∃ N : Nat, N = 2 ^ (t.length - 1) ∧ 2 * N = 2 ^ t.length ∧ N ≤ 128 := by
    refine ⟨_, rfl, ?_, ?_⟩
    · obtain ⟨k, hk⟩ : ∃ k, t.length = k + 1 := ⟨t.length - 1, by omega⟩
      rw [hk, Nat.pow_succ]; simp; omega
    · exact Nat.le_trans (Nat.pow_le_pow_right (by omega) (show t.length - 1 ≤ 7 by omega)) (by decide)
  obtain ⟨N, hN, hN2, hN8⟩ := hpw
  rw [← hN, ← insF_grp STO.ltP cmpP_zero]
  have HN2 := Lib.hid hN2
  obtain ⟨M, hM⟩ : ∃ M, M = 2 * N := ⟨_, rfl⟩
  have HM := Lib.hid hM
  have hM8 : M ≤ 256 := by omega
  have HSH := Lib.hid (show wrap64 ((2 : Int) ^ t.length) = (M : Int) ∧ IntKind.i64.wrap ((2 : Int) ^ t.length) = (M : Int) from by
    have e : ((2 : Int) ^ t.length) = ((2 ^ t.length : Nat) : Int) := by simp
    rw [e, ← hN2, ← hM]
    exact ⟨w64_in' _ (by omega), IntWalk.i64_in _ (by omega)⟩)
  have ht63 : (t.length : Int) < 64 := by omega
  have ht0 : (0 : Int) ≤ (t.length : Int) := by omega
  have HP0 := Lib.hid (show PrS w (w.alloc (.cells #[] tPt)) (.slice (some ⟨w.heap.size, 0, none⟩) 0 0) (insF ltP [] (prtL t 0)) from
    ⟨⟨_, 0, [], rfl, OwnK.lit w tPt 3 [] (fun c hc => by simp at hc) (by simp [maxLen]) #[] rfl, Elts.nil _ _ _⟩, below1 _ _⟩)
  have HLN := Lib.hid (fun i => show (insF ltP [] (prtL t i)).length ≤ i ∧ ∀ x ∈ insF ltP [] (prtL t i), x.2 ≤ i from ⟨by have h := insF_len (lt := ltP) (prtL t i) []; simp [prtL] at h; simpa [prtL] using h, fun x hx => by have h := insF_cnt (lt := ltP) (prtL t i) [] 0 (fun y hy => by cases hy) x hx; simp [prtL] at h; simpa [prtL] using h⟩)
  clear ha hlv hcan hl hN hN2 hM
  go_enter Try.func80, Try.ntmps80
  go_wp2_with fail
  go_loopw [3, 4] (fun o x wr => ∃ (i m : Nat), i ≤ N ∧ x = .int .i64 (m : Nat) ∧ Hid (m = 2 * i) ∧ Hid (PrS w wr o (insF ltP [] (prtL t i)))) (fun _ x _ => M - (intOf x).toNat)
  case atStart => exact ⟨0, 0, Nat.zero_le _, rfl, rfl, HP0⟩
  case round =>
    obtain ⟨i, m, hi, rfl, HMI, HPS⟩ := hrel
    rename World => wr
    clear HP0
    have hm0 := HMI.out
    have hM0 := HM.out
    obtain ⟨hsh, hsh2⟩ := HSH.out
    have hln := (HLN.out i).1
    have HCN := Lib.hid (HLN.out i).2
    have HGS := Lib.hid (show ∀ p, prtN t m = p → insF ltP [] (prtL t (i + 1)) = ins1 ltP p (insF ltP [] (prtL t i)) from fun p hp => by rw [prtL_succ, ← hm0, hp]; exact insF_snoc _ _)
    obtain ⟨G, hG⟩ : ∃ G, G = insF ltP [] (prtL t i) := ⟨_, rfl⟩
    rw [← hG] at HPS HGS HCN hln
    have HGE := Lib.hid hG
    clear hG
    obtain ⟨g, cap, css, rfl, ho, he⟩ := HPS.out.ex
    have HO := Lib.hid ho
    have HE := Lib.hid he
    have HB := Lib.hid HPS.out.bel
    clear ho he HPS
    by_cases hlt : i < N
    · have hml : m < M := by omega
      have hmi : (m : Int) < (M : Int) := by omega
      obtain ⟨pcs, r, hpc, hsk, hpn⟩ := HPR.out m (by rw [← HN2.out]; omega) (by omega)
      have HGP := Lib.hid (HGS.out _ hpn)
      have HC1 := Lib.hid (HPC.out wr m pcs (by omega) (HA.out.below HB.out) hpc)
      have HC2 := Lib.hid (fun X (hX : Below wr.heap.size wr X) => HSK.out X m r (by omega) ((HA.out.below HB.out).below hX) hsk)
      clear hm0 hM0 hpc hsk hpn
      go_upto_region 6 with (first
        | (go_at_call 128; go_loud (refine HC1.out.mono ?_; rintro e w3 ⟨x3, rfl, hx3, hb3⟩; obtain ⟨A5, c5, he5, -, -, -⟩ := hx3.rows.open_; rw [List.length_map] at he5; subst he5; have HX3 := Lib.hid hx3; have HB3 := Lib.hid hb3; clear hx3 hb3))
        | (go_at_call 129; go_loud (refine (HC2.out _ HB3.out).mono ?_; rintro e w4 ⟨x4, rfl, hx4, hb4⟩; obtain ⟨A6, c6, he6, -, -, -⟩ := hx4.ints.open_; rw [up_len] at he6; subst he6; have HX4 := Lib.hid hx4; have HX3 := Lib.hid (HX3.out.below hb4); have HB4 := Lib.hid (HB3.out.trans (hb4.mono HB3.out.size)); have HB34 := Lib.hid (Nat.le_trans HB.out.size HB3.out.size); clear hx4 hb4)))
      clear HC1 HC2
      obtain ⟨q5, hq5⟩ : ∃ q, q = w4.heap.size := ⟨_, rfl⟩
      obtain ⟨W5, hW5⟩ : ∃ W5, W5 = w4.alloc (.cells #[.slice A5 (srtB pcs).length c5, .slice A6 r.length c6, .int .i64 1] tPt) := ⟨_, rfl⟩
      have hb5 : Below w4.heap.size w4 W5 := by rw [hW5]; exact below1 _ _
      have HB5 := Lib.hid (show Below wr.heap.size wr W5 from HB4.out.trans (hb5.mono HB4.out.size))
      have HK5 := Lib.hid (show Blk W5 q5 tPt #[.slice A5 (srtB pcs).length c5, .slice A6 r.length c6, .int .i64 1] from by rw [hW5, hq5]; exact Blk.new _ _ _)
      have HD5 := Lib.hid (show ePc.D W5 w.heap.size [.slice A5 (srtB pcs).length c5, .slice A6 r.length c6, .int .i64 ((1 : Nat) : Int)] ((srtB pcs, r), 1) from ⟨_, _, rfl, (show LA W5 w.heap.size (.slice A5 (srtB pcs).length c5) ((srtB pcs).map up) from (HX3.out.below hb5).mono HB.out.size), (show OwnInts W5 w.heap.size tI (.slice A6 r.length c6) (up r) from (HX4.out.below hb5).mono HB34.out)⟩)
      have HBW5 := Lib.hid (HB.out.trans (HB5.out.mono HB.out.size))
      have HO5 := Lib.hid (HO.out.below HB5.out)
      have HE5 := Lib.hid (HE.out.below HB5.out)
      rw [← hW5, ← hq5]
      clear hW5 hq5 hb5 HX3 HX4 HB3 HB4 HB34 HO HE
      generalize srtB pcs = P1 at *
      have hPl := posG_le (lt := ltP) (p := ((P1, r) : PK)) G
      have HPB := Lib.hid (fun k x => @posG_lt PK ltP (P1, r) G k x)
      have HPA := Lib.hid (fun x => @posG_at PK ltP (P1, r) G x)
      have HNW := Lib.hid (@ins1_new PK ltP (P1, r) G)
      have HOL := Lib.hid (fun x n h h0 => @ins1_old PK ltP (P1, r) G x n h h0)
      generalize posG ltP (P1, r) G = P at *
      obtain ⟨S, hS1, hS2⟩ : ∃ S : World → Prop, (∀ Wx, S Wx → Below W5.heap.size W5 Wx) ∧ (∀ Wx, Below W5.heap.size W5 Wx → S Wx) := ⟨fun Wx => Below W5.heap.size W5 Wx, fun _ h => h, fun _ h => h⟩
      have HSE := Lib.hid (show ∀ x : GW S, Below W5.heap.size W5 x.w from fun x => hS1 _ x.h)
      have HSI := Lib.hid (show ∀ X, Below W5.heap.size W5 X → S X.drew from fun X hX => hS2 _ hX.drew)
      have HSM := Lib.hid hS2
      clear hS1 hS2
      go_upto_block 2 with fail
      go_cut [6] from 9 to 71 (fun x wx => x = .int .i64 (P : Nat) ∧ Below W5.heap.size W5 wx)
      case first =>
        go_wp2_with fail
        go_loopw [6] (fun x wx => ∃ k : Nat, k ≤ P ∧ x = .int .i64 (k : Nat) ∧ Below W5.heap.size W5 wx) (fun x _ => G.length - (intOf x).toNat)
        case atStart => exact ⟨0, Nat.zero_le _, rfl, Below.refl _ _⟩
        case round =>
          obtain ⟨k, hk, rfl, hb⟩ := hrel
          rename World => wk
          have HBK := Lib.hid hb
          clear hb
          by_cases hkl : k < G.length
          · obtain ⟨⟨y, ny⟩, hy⟩ : ∃ x, G[k]? = some x := ⟨_, List.getElem?_eq_getElem hkl⟩
            obtain ⟨cc, hcc, hdc⟩ := HE5.out.at_ hy
            obtain ⟨u, s, rfl, hu, hs⟩ := hdc
            have k0 := HO5.out.cellAt hcc (j := 0) rfl
            have k1 := HO5.out.cellAt hcc (j := 1) rfl
            have k2 := HO5.out.cellAt hcc (j := 2) rfl
            rw [Nat.add_zero] at k0
            have e0 : ∀ x : GW S, x.w.cell? ⟨g, k * 3, none⟩ = some u := fun x => keepCell (HSE.out x) k0
            have e1 : ∀ x : GW S, x.w.cell? ⟨g, k * 3 + 1, none⟩ = some s := fun x => keepCell (HSE.out x) k1
            have e2 : ∀ x : GW S, x.w.cell? ⟨g, k * 3 + 2, none⟩ = some (.int .i64 (ny : Nat)) := fun x => keepCell (HSE.out x) k2
            have f0 : ∀ x : GW S, x.w.cell? ⟨q5, 0, none⟩ = some (.slice A5 P1.length c5) := fun x => (HK5.out.below (HSE.out x) HK5.out.lt).cell 0
            have f1 : ∀ x : GW S, x.w.cell? ⟨q5, 1, none⟩ = some (.slice A6 r.length c6) := fun x => (HK5.out.below (HSE.out x) HK5.out.lt).cell 1
            have f2 : ∀ x : GW S, x.w.cell? ⟨q5, 2, none⟩ = some (.int .i64 1) := fun x => (HK5.out.below (HSE.out x) HK5.out.lt).cell 2
            have hki : (k : Int) < (G.length : Int) := by omega
            have HDY := Lib.hid (show ePc.D W5 w.heap.size [u, s, .int .i64 (ny : Nat)] (y, ny) from ⟨u, s, rfl, hu, hs⟩)
            have HLE := Lib.hid (fun x : GW S => show Calls Try.prog 130 #[.agg #[u, s, .int .i64 (ny : Nat)], .agg #[.slice A5 P1.length c5, .slice A6 r.length c6, .int .i64 1]] x.w (fun e w' => e = .returned (.bool (ltP y (P1, r))) ∧ S w') from (s_l16Less x.w _ _ _ _ y (P1, r) ny 1 (ePc.below HDY.out (HSE.out x)) (ePc.below HD5.out (HSE.out x))).mono (by rintro e w7 ⟨rfl, hb7⟩; exact ⟨rfl, HSM.out _ ((HSE.out x).trans (hb7.mono (HSE.out x).size))⟩))
            have hb1 : k < P → ltP y (P1, r) = true := fun h => HPB.out k (y, ny) h hy
            have hb2 : k = P → ltP y (P1, r) = false := fun h => HPA.out (y, ny) (by rw [← h]; exact hy)
            generalize ltP y (P1, r) = bb at *
            clear hcc hu hs hy k0 k1 k2
            by_cases hkP : k < P
            · have hbb := hb1 hkP
              subst hbb
              clear hb1 hb2
              go_wp2_with fail
              refine wp_region_grow S (by kernel_rfl) (by kernel_rfl) (HSI.out _ HBK.out) (fun hne => ?_)
              repeat (go_big_quiet_step ((go_at_call 130; exact grow_call (HLE.out _))))
              refine wpQuiet_nil ?_
              rintro _ ⟨xq, rfl⟩
              clear e0 e1 e2 f0 f1 f2
              go_wp2_with fail
              go_roundw
              case rel => exact ⟨k + 1, by omega, by go_num, HSE.out xq⟩
              case measure => simp [intOf]; omega
            · have hkP' : k = P := by omega
              have hbb := hb2 hkP'
              subst hbb
              clear hb1 hb2 hkP
              subst hkP'
              go_wp2_with fail
              refine wp_region_grow S (by kernel_rfl) (by kernel_rfl) (HSI.out _ HBK.out) (fun hne => ?_)
              repeat (go_big_quiet_step ((go_at_call 130; exact grow_call (HLE.out _))))
              refine wpQuiet_nil ?_
              rintro _ ⟨xq, rfl⟩
              clear e0 e1 e2 f0 f1 f2
              go_wp2_with fail
              go_meet
              exact ⟨rfl, HSE.out xq⟩
          · have hkg : k = G.length := by omega
            have hkP' : k = P := by omega
            have hki : ¬ (k : Int) < (G.length : Int) := by omega
            have HKP := Lib.hid hkP'
            clear hkg hkP'
            go_wp2_with fail
            refine wp_region_grow S (by kernel_rfl) (by kernel_rfl) (HSI.out _ HBK.out) (fun hne => ?_)
            repeat (go_big_quiet_step (fail))
            refine wpQuiet_nil ?_
            rintro _ ⟨xq, rfl⟩
            go_wp2_with fail
            go_meet
            exact ⟨by rw [HKP.out], HSE.out xq⟩
      case rest =>
        obtain ⟨rfl, hb⟩ := hcut
        rename World => wa
        have HBA := Lib.hid hb
        clear hb HPB
        have HOB := Lib.hid (show ∃ ob : Bool, (ob = true → ∃ y ny, G[P]? = some (y, ny) ∧ ltP (P1, r) y = false) ∧ (ob = false → ∀ x, G[P]? = some x → ltP (P1, r) x.1 = true) ∧ ((P < G.length ∧ ∃ y ny, G[P]? = some (y, ny) ∧ ob = !ltP (P1, r) y) ∨ (P = G.length ∧ ob = false)) from by
          by_cases hPG : P < G.length
          · obtain ⟨⟨y, ny⟩, hy⟩ : ∃ x, G[P]? = some x := ⟨_, List.getElem?_eq_getElem hPG⟩
            refine ⟨!ltP (P1, r) y, (fun h => ⟨y, ny, hy, by simpa using h⟩), (fun h x hx => ?_), .inl ⟨hPG, y, ny, hy, rfl⟩⟩
            rw [hy] at hx
            injection hx with hx
            rw [← hx]
            simpa using h
          · exact ⟨false, (fun h => by cases h), (fun _ x hx => by have := (List.getElem?_eq_some_iff.1 hx).1; omega), .inr ⟨by omega, rfl⟩⟩)
        obtain ⟨ob, hob1, hob2, hob3⟩ := HOB.out
        have HO1 := Lib.hid hob1
        have HO2 := Lib.hid hob2
        clear hob1 hob2 HOB
        go_upto_region 9 with fail
        go_cut [50] from 9 to 71 (fun x wx => x = .bool ob ∧ Below W5.heap.size W5 wx)
        case first =>
          rcases hob3 with ⟨hPG, y, ny, hy, hov⟩ | ⟨hPG, hov⟩
          · obtain ⟨cc, hcc, hdc⟩ := HE5.out.at_ hy
            obtain ⟨u, s, rfl, hu, hs⟩ := hdc
            have k0 := HO5.out.cellAt hcc (j := 0) rfl
            have k1 := HO5.out.cellAt hcc (j := 1) rfl
            have k2 := HO5.out.cellAt hcc (j := 2) rfl
            rw [Nat.add_zero] at k0
            have e0 : ∀ x : GW S, x.w.cell? ⟨g, P * 3, none⟩ = some u := fun x => keepCell (HSE.out x) k0
            have e1 : ∀ x : GW S, x.w.cell? ⟨g, P * 3 + 1, none⟩ = some s := fun x => keepCell (HSE.out x) k1
            have e2 : ∀ x : GW S, x.w.cell? ⟨g, P * 3 + 2, none⟩ = some (.int .i64 (ny : Nat)) := fun x => keepCell (HSE.out x) k2
            have f0 : ∀ x : GW S, x.w.cell? ⟨q5, 0, none⟩ = some (.slice A5 P1.length c5) := fun x => (HK5.out.below (HSE.out x) HK5.out.lt).cell 0
            have f1 : ∀ x : GW S, x.w.cell? ⟨q5, 1, none⟩ = some (.slice A6 r.length c6) := fun x => (HK5.out.below (HSE.out x) HK5.out.lt).cell 1
            have f2 : ∀ x : GW S, x.w.cell? ⟨q5, 2, none⟩ = some (.int .i64 1) := fun x => (HK5.out.below (HSE.out x) HK5.out.lt).cell 2
            have hki : (P : Int) < (G.length : Int) := by omega
            have HDY := Lib.hid (show ePc.D W5 w.heap.size [u, s, .int .i64 (ny : Nat)] (y, ny) from ⟨u, s, rfl, hu, hs⟩)
            have HLE := Lib.hid (fun x : GW S => show Calls Try.prog 130 #[.agg #[.slice A5 P1.length c5, .slice A6 r.length c6, .int .i64 1], .agg #[u, s, .int .i64 (ny : Nat)]] x.w (fun e w' => e = .returned (.bool (ltP (P1, r) y)) ∧ S w') from (s_l16Less x.w _ _ _ _ (P1, r) y 1 ny (ePc.below HD5.out (HSE.out x)) (ePc.below HDY.out (HSE.out x))).mono (by rintro e w7 ⟨rfl, hb7⟩; exact ⟨rfl, HSM.out _ ((HSE.out x).trans (hb7.mono (HSE.out x).size))⟩))
            generalize ltP (P1, r) y = bb at *
            clear hcc hu hs hy k0 k1 k2
            have HOV := Lib.hid hov
            clear hov
            go_wp2_with fail
            refine wp_region_grow S (by kernel_rfl) (by kernel_rfl) (HSI.out _ HBA.out) (fun hne => ?_)
            repeat (go_big_quiet_step ((go_at_call 130; exact grow_call (HLE.out _))))
            refine wpQuiet_nil ?_
            rintro _ ⟨xq, rfl⟩
            clear e0 e1 e2 f0 f1 f2
            go_wp2_with fail
            go_meet
            exact ⟨by rw [HOV.out], HSE.out xq⟩
          · have hki : ¬ (P : Int) < (G.length : Int) := by omega
            have hkn : ¬ P < G.length := by omega
            have hkd : decide (P < G.length) = false := decide_eq_false hkn
            have HOV := Lib.hid hov
            clear hov hPG
            go_wp2_with fail
            go_quiet (fail)
            go_wp2_with fail
            go_meet
            exact ⟨by rw [HOV.out], below_drewN HBA.out _⟩
        case rest =>
          obtain ⟨rfl, hb⟩ := hcut
          rename World => wb
          have HBB := Lib.hid hb
          have HBWB := Lib.hid (HBW5.out.trans (hb.mono HBW5.out.size))
          have HOb := Lib.hid (HO5.out.below hb)
          have HEb := Lib.hid (HE5.out.below hb)
          have HDb := Lib.hid (ePc.below HD5.out hb)
          have HKb := Lib.hid (HK5.out.below hb HK5.out.lt)
          clear hb hob3 HSE HSI HSM HPA HBA
          cases ob with
          | true =>
            obtain ⟨y, ny, hy, hl⟩ := HO1.out rfl
            have HG' := Lib.hid (HGP.out.trans (HOL.out y ny hy hl))
            obtain ⟨cc, hcc, hdc⟩ := HEb.out.at_ hy
            obtain ⟨u, s, rfl, hu, hs⟩ := hdc
            have hny : ny ≤ i := HCN.out (y, ny) (List.mem_of_getElem? hy)
            have hPG : P < G.length := (List.getElem?_eq_some_iff.1 hy).1
            have hki : (P : Int) < (G.length : Int) := by omega
            have k2 := HOb.out.cellAt hcc (j := 2) rfl
            obtain ⟨-, hfz, -, hst, hgt⟩ := HOb.out.storeAt (j := 2) hcc (by omega) (.int .i64 ((ny + 1 : Nat) : Int))
            have hbt := HOb.out.bt
            have hnb : -9000000000000000000 ≤ (ny : Int) + 1 ∧ (ny : Int) + 1 ≤ 9000000000000000000 := by omega
            have hnc : (ny : Int) + 1 = ((ny + 1 : Nat) : Int) := by omega
            obtain ⟨hwn, hwn2⟩ := wrap_to hnb hnc
            clear hnb hnc
            have hE2 := (HEb.out.set_ (i := P) (c := [u, s, .int .i64 ((ny + 1 : Nat) : Int)]) (x := (y, ny + 1)) ⟨u, s, rfl, hu, hs⟩).kept (v := .slice (some ⟨g, 0, none⟩) G.length cap) hgt hbt (by decide) (by decide)
            have HST := Lib.hid (show PrS w (wb.setCell ⟨g, P * 3 + 2, none⟩ (.int .i64 ((ny + 1 : Nat) : Int))) (.slice (some ⟨g, 0, none⟩) (G.set P (y, ny + 1)).length cap) (G.set P (y, ny + 1)) from
              ⟨⟨g, cap, css.set P ([u, s, .int .i64 (ny : Nat)].set 2 (.int .i64 ((ny + 1 : Nat) : Int))), rfl, by rw [List.length_set]; exact hst, hE2⟩, HBWB.out.setCell (p := ⟨g, P * 3 + 2, none⟩) (HOb.out.ge g rfl) _⟩)
            rw [List.length_set] at HST
            clear hst hgt hbt hE2 hcc hu hs hy hl
            go_wp2_with fail
            go_roundw
            case rel => exact ⟨i + 1, m + 2, by omega, by go_num, by have := HMI.out; show m + 2 = 2 * (i + 1); omega, by rw [HG'.out]; exact HST.out⟩
            case measure => simp [intOf]; omega
          | false =>
            have HG' := Lib.hid (HGP.out.trans (HNW.out (HO2.out rfl)))
            have hcl := HEb.out.1
            have hPc : P ≤ css.length := by omega
            obtain ⟨o, hso, hrd⟩ := HOb.out.from_ hPc
            obtain ⟨hst, hrt⟩ := HOb.out.to_ hPc
            have hsl : ∀ W, (Instr.slice 51 (.slice (some ⟨g, 0, none⟩) G.length cap) (some (.int .i64 (P : Int))) none none).run Try.prog W = .ok (.slice (some ⟨g, o, none⟩) (css.drop P).length (cap - P)) W := fun W => by rw [slP_from W _ _ _ _ hPl, hso]
            have hsl2 : ∀ W, (Instr.slice 51 (.slice (some ⟨g, 0, none⟩) G.length cap) none (some (.int .i64 (P : Int))) none).run Try.prog W = .ok (.slice (some ⟨g, 0, none⟩) (css.take P).length cap) W := fun W => by
              rw [slP_to W _ _ _ _ (by have := HOb.out.read.2.1; omega), hst]
            have HRD := Lib.hid hrd
            have HRT := Lib.hid hrt
            have HDL := Lib.hid (HEb.out.drop_ P)
            have HTL := Lib.hid (HEb.out.take_ P)
            have hdl : (css.drop P).length ≤ 200 := by rw [List.length_drop]; omega
            have htl : (css.take P).length ≤ 200 := by rw [List.length_take]; omega
            have HBD := Lib.hid (show Below wb.heap.size wb wb.drew from (Below.refl _ _).drew)
            have f0 : wb.cell? ⟨q5, 0, none⟩ = some (.slice A5 P1.length c5) := HKb.out.cell 0
            have f1 : wb.cell? ⟨q5, 1, none⟩ = some (.slice A6 r.length c6) := HKb.out.cell 1
            have f2 : wb.cell? ⟨q5, 2, none⟩ = some (.int .i64 1) := HKb.out.cell 2
            have HCP := Lib.hid hcl
            clear hso hst hrd hrt hcl hPc
            generalize css.drop P = dr at *
            generalize css.take P = tk at *
            go_wp2_with fail
            go_region_law (go_loud (refine step_appNK T_part (B := wb.heap.size) (c := cap - P) (css := ([[.slice A5 P1.length c5, .slice A6 r.length c6, .int .i64 ((1 : Nat) : Int)]] : List (List Value))) (ds := dr) (A := some ⟨g, o, none⟩) (W := wb.drew.alloc (.cells #[.slice A5 P1.length c5, .slice A6 r.length c6, .int .i64 1] tPt)) (by exact OwnK.lit wb.drew tPt 3 ([[.slice A5 P1.length c5, .slice A6 r.length c6, .int .i64 ((1 : Nat) : Int)]] : List (List Value)) (by intro c hc; simp at hc; rw [hc]; rfl) (by simp [maxLen]) _ rfl) ((HRD.out.below HBD.out).below (below1 _ _)) (by simp; omega) (by simp) HDL.out.ones (by rfl) rfl (by rfl) (by rfl) ?_; intro v7 w7 hk7 hgr7; have HK7 := Lib.hid hk7; have HG7 := Lib.hid hgr7; clear hk7 hgr7))
            all_goals
              have HB7 := Lib.hid (show Below wb.heap.size wb w7 from HG7.out.below (HBD.out.trans ((below1 wb.drew _).mono (Nat.le_refl _))) (by simp) (by intro b hb; injection hb with hb; rw [← hb]; exact Nat.le_refl _))
              obtain ⟨g7, cap7, he7⟩ : ∃ g7 cap7, v7 = .slice (some ⟨g7, 0, none⟩) (([[.slice A5 P1.length c5, .slice A6 r.length c6, .int .i64 ((1 : Nat) : Int)]] : List (List Value)) ++ dr).length cap7 := by
                rcases HK7.out.cases with ⟨-, h⟩ | ⟨g7, cap7, cur, h, -⟩
                · cases h
                · exact ⟨g7, cap7, h⟩
              have HR7 := Lib.hid (show RdK w7 3 (some ⟨g7, 0, none⟩) (([[.slice A5 P1.length c5, .slice A6 r.length c6, .int .i64 ((1 : Nat) : Int)]] : List (List Value)) ++ dr) from by
                have h := HK7.out
                rw [he7] at h
                exact h.read.2.2)
              have HE7 := Lib.hid he7
              have HL8 := Lib.hid (show OwnK (w7.alloc (.cells #[] tPt)) w7.heap.size tPt 3 (.slice (some ⟨w7.heap.size, 0, none⟩) 0 0) [] from OwnK.lit w7 tPt 3 [] (fun c hc => by simp at hc) (by simp [maxLen]) #[] rfl)
              have HON := Lib.hid (show ∀ d ∈ ([[.slice A5 P1.length c5, .slice A6 r.length c6, .int .i64 ((1 : Nat) : Int)]] : List (List Value)) ++ dr, ∀ u ∈ d, u.oneCell' = true from fun d hd u hu => by
                rcases List.mem_append.1 hd with hd | hd
                · simp at hd
                  rw [hd] at hu
                  exact ePc.one HDb.out u hu
                · exact HDL.out.ones d hd u hu)
              clear he7
              go_wp2_with (first
                | (at_builtin; (refine wpList_appNK T_part (B := w7.heap.size) (c := cap) (ds := tk) (A := some ⟨g, 0, none⟩) HL8.out ((HRT.out.below HB7.out).below (below1 w7 _)) (by simp; omega) (by simp) HTL.out.ones (by rfl) rfl (by rfl) (by rfl) ?_; intro v9 w9 hk9 hgr9; have HK9 := Lib.hid hk9; have HG9 := Lib.hid hgr9; have HB9 := Lib.hid (show Below w7.heap.size w7 w9 from hgr9.below (below1 w7 _) (by simp) (by intro b hb; injection hb with hb; rw [← hb]; exact Nat.le_refl _)); clear hk9 hgr9))
                | (at_builtin; go_loud (refine wpList_appNK T_part (B := w7.heap.size) (c := cap7) (ds := ([[.slice A5 P1.length c5, .slice A6 r.length c6, .int .i64 ((1 : Nat) : Int)]] : List (List Value)) ++ dr) (A := some ⟨g7, 0, none⟩) HK9.out (HR7.out.below HB9.out) (by simp; omega) HB9.out.size HON.out (by rfl) rfl (by rfl) (by exact HE7.out) ?_; intro v10 w10 hk10 hgr10; have HK10 := Lib.hid hk10; have HG10 := Lib.hid hgr10; clear hk10 hgr10)))
              have HB79 := Lib.hid (HB7.out.trans (HB9.out.mono HB7.out.size))
              have HB10 := Lib.hid (show Below wb.heap.size wb w10 from HG10.out.below HB79.out HB79.out.size (fun b hb => Nat.le_trans HB7.out.size (HK9.out.ge b hb)))
              have HBW10 := Lib.hid (HBWB.out.trans (HB10.out.mono HBWB.out.size))
              have HST := Lib.hid (show PrS w w10 v10 (insF ltP [] (prtL t (i + 1))) from by
                rw [HG'.out]
                refine PrS.mk' (css := [] ++ tk ++ (([[.slice A5 P1.length c5, .slice A6 r.length c6, .int .i64 ((1 : Nat) : Int)]] : List (List Value)) ++ dr)) (HK10.out.mono (Nat.le_trans HBWB.out.size HB7.out.size)) ?_ (by simp) HBW10.out
                exact (HTL.out.below HB10.out).append_ ((HDL.out.below HB10.out).cons_ (ePc.below HDb.out HB10.out)))
              go_roundw
              case rel => exact ⟨i + 1, m + 2, by omega, by go_num, by have := HMI.out; show m + 2 = 2 * (i + 1); omega, HST⟩
              case measure => simp [intOf]; omega
    · have hiN : i = N := by omega
      subst hiN
      have hml : ¬ (m < M) := by omega
      have hmi : ¬ ((m : Int) < (M : Int)) := by omega
      clear hm0 hM0
      go_wp2_with fail
      go_ret
      exact ⟨_, rfl, ⟨css, HO.out, by rw [← HGE.out]; exact HE.out⟩, HB.out⟩
end Go.Proofs.Ytnlaoainhlfemaa

set_option maxRecDepth 100000
set_option linter.unusedVariables false
set_option linter.unusedSimpArgs false
namespace Go.Proofs.Ytnlaoainhlfemaa

def topF (t : List Nat) (mask : Nat) : Nat → Nat → Nat
  | 0, i => i
  | f + 1, i => bif Nat.beq i 0 || mask.testBit i then i else topF t mask f (parN t (t.getD i 0) i - 1)
/-- the root of the piece of a node -/
def topN (t : List Nat) (mask i : Nat) : Nat := topF t mask i i
/-- each node but the first has a parent -/
def HasP (t : List Nat) : Prop := ∀ i, 0 < i → i < t.length → 0 < parN t (t.getD i 0) i
theorem parN_le' (t : List Nat) (l : Nat) : ∀ k, parN t l k ≤ k
  | 0 => Nat.le_refl 0
  | k + 1 => by
    unfold parN
    cases Nat.beq (t.getD k 0 + 1) l with
    | true => rw [cond_true]; exact Nat.le_refl _
    | false => rw [cond_false]; have := parN_le' t l k; omega
theorem topF_deep (t : List Nat) (mask : Nat) : ∀ (f g i : Nat), i ≤ f → i ≤ g → topF t mask f i = topF t mask g i
  | 0, 0, i, _, _ => rfl
  | 0, g + 1, i, h, _ => by
    have : i = 0 := by omega
    subst this
    rfl
  | f + 1, 0, i, _, h => by
    have : i = 0 := by omega
    subst this
    rfl
  | f + 1, g + 1, i, h1, h2 => by
    unfold topF
    cases hb : (Nat.beq i 0 || mask.testBit i) with
    | true => rfl
    | false =>
      rw [cond_false, cond_false]
      have := parN_le' t (t.getD i 0) i
      have hi : i ≠ 0 := fun e => by subst e; simp at hb
      exact topF_deep t mask f g _ (by omega) (by omega)
theorem topN_root (t : List Nat) (mask : Nat) {i : Nat} (h : i = 0 ∨ mask.testBit i = true) : topN t mask i = i := by
  unfold topN
  cases i with
  | zero => rfl
  | succ i =>
    rcases h with h | h
    · omega
    · unfold topF
      rw [h, Bool.or_true, cond_true]
theorem topN_step (t : List Nat) (mask : Nat) {i : Nat} (h0 : 0 < i) (h : mask.testBit i = false) : topN t mask i = topN t mask (parN t (t.getD i 0) i - 1) := by
  unfold topN
  cases i with
  | zero => omega
  | succ i =>
    rw [topF, h, Bool.or_false]
    show (bif false then i + 1 else _) = _
    rw [cond_false]
    have := parN_le' t (t.getD (i + 1) 0) (i + 1)
    exact topF_deep t mask _ _ _ (by omega) (Nat.le_refl _)
theorem topN_spec {t : List Nat} (hP : HasP t) (mask : Nat) : ∀ (n i : Nat), i ≤ n → i < t.length → topN t mask i ≤ i ∧ (topN t mask i = 0 ∨ mask.testBit (topN t mask i) = true)
  | n, 0, _, _ => by rw [topN_root t mask (.inl rfl)]; exact ⟨Nat.le_refl _, .inl rfl⟩
  | 0, i + 1, h, _ => by omega
  | n + 1, i + 1, h, hi => by
    by_cases hc : mask.testBit (i + 1) = true
    · rw [topN_root t mask (.inr hc)]
      exact ⟨Nat.le_refl _, .inr hc⟩
    · have hc : mask.testBit (i + 1) = false := by cases hb : mask.testBit (i + 1) <;> simp_all
      rw [topN_step t mask (by omega) hc]
      have h1 := parN_le' t (t.getD (i + 1) 0) (i + 1)
      have h2 := hP (i + 1) (by omega) hi
      have ih := topN_spec hP mask n (parN t (t.getD (i + 1) 0) (i + 1) - 1) (by omega) (by omega)
      exact ⟨by omega, ih.2⟩
def cntR (t : List Nat) (mask root : Nat) : List Nat → Nat → Nat
  | [], _ => 0
  | _ :: ls, i => (if topN t mask i = root then 1 else 0) + cntR t mask root ls (i + 1)
theorem pieF_len {t : List Nat} (hP : HasP t) (mask root : Nat) : ∀ (ls : List Nat) (i : Nat) (inn : List Bool) (out : List Nat), ls = t.drop i → root < i → inn.length = t.length → (∀ j, j < i → j < t.length → inn.getD j false = decide (root ≤ j ∧ topN t mask j = root)) → (∀ j, i ≤ j → inn.getD j false = false) →
    (pieF t mask root ls i inn out).length = out.length + cntR t mask root ls i
  | [], i, inn, out, _, _, _, _, _ => rfl
  | l :: ls, i, inn, out, hd, hr, hl, h, hz => by
    have hi : i < t.length := by
      refine Classical.byContradiction fun hx => ?_
      rw [List.drop_eq_nil_of_le (by omega)] at hd
      cases hd
    rw [List.drop_eq_getElem_cons hi] at hd
    injection hd with hl1 hd
    have hl2 : l = t.getD i 0 := by rw [List.getD_eq_getElem?_getD, List.getElem?_eq_getElem hi, hl1]; rfl
    subst hl2
    have p1 := parN_le' t (t.getD i 0) i
    have p2 := hP i (by omega) hi
    have key : (Nat.blt root (parN t (t.getD i 0) i) && (inn.getD (parN t (t.getD i 0) i - 1) false && !mask.testBit i)) = decide (topN t mask i = root) := by
      cases hc : mask.testBit i with
      | true =>
        rw [topN_root t mask (.inr hc)]
        simp only [Bool.not_true, Bool.and_false]
        exact (decide_eq_false (by omega)).symm
      | false =>
        rw [topN_step t mask (by omega) hc, h _ (by omega) (by omega)]
        simp only [Bool.not_false, Bool.and_true]
        by_cases hb : root < parN t (t.getD i 0) i
        · have : Nat.blt root (parN t (t.getD i 0) i) = true := Nat.ble_eq_true_of_le hb
          rw [this, Bool.true_and]
          exact decide_eq_decide.2 ⟨fun q => q.2, fun q => ⟨by omega, q⟩⟩
        · have : Nat.blt root (parN t (t.getD i 0) i) = false := by
            cases hx : Nat.blt root (parN t (t.getD i 0) i) with
            | true => exact absurd (Nat.le_of_ble_eq_true hx) hb
            | false => rfl
          rw [this, Bool.false_and]
          have := (topN_spec hP mask _ (parN t (t.getD i 0) i - 1) (Nat.le_refl _) (by omega)).1
          exact (decide_eq_false (by omega)).symm
    unfold pieF
    dsimp only
    rw [key]
    unfold cntR
    by_cases ht : topN t mask i = root
    · rw [decide_eq_true ht, cond_true, if_pos ht, pieF_len hP mask root ls (i + 1) _ _ hd (by omega) (by rw [List.length_set]; exact hl)]
      · rw [List.length_append, List.length_singleton]; omega
      · intro j hj hjl
        by_cases e : j = i
        · subst e
          rw [List.getD_eq_getElem?_getD, List.getElem?_set_self (by omega)]
          exact (decide_eq_true ⟨by omega, ht⟩).symm
        · rw [List.getD_eq_getElem?_getD, List.getElem?_set_ne (by omega), ← List.getD_eq_getElem?_getD]
          exact h j (by omega) hjl
      · intro j hj
        rw [List.getD_eq_getElem?_getD, List.getElem?_set_ne (by omega), ← List.getD_eq_getElem?_getD]
        exact hz j (by omega)
    · rw [decide_eq_false ht, cond_false, if_neg ht, pieF_len hP mask root ls (i + 1) _ _ hd (by omega) hl]
      · omega
      · intro j hj hjl
        by_cases e : j = i
        · subst e
          rw [hz j (Nat.le_refl _)]
          exact (decide_eq_false (fun q => ht q.2)).symm
        · exact h j (by omega) hjl
      · intro j hj
        exact hz j (by omega)
theorem cntR_skip {t : List Nat} (hP : HasP t) (mask : Nat) {root : Nat} (hr : root = 0 ∨ mask.testBit root = true) (hl : root < t.length) : ∀ (d k : Nat), k + d = root → cntR t mask root (t.drop k) k = 1 + cntR t mask root (t.drop (root + 1)) (root + 1)
  | 0, k, h => by
    have : k = root := by omega
    subst this
    rw [List.drop_eq_getElem_cons hl]
    unfold cntR
    rw [if_pos (topN_root t mask hr)]
    congr 1
    cases t.drop (k + 1) <;> rfl
  | d + 1, k, h => by
    rw [List.drop_eq_getElem_cons (show k < t.length by omega)]
    show (if topN t mask k = root then 1 else 0) + cntR t mask root (t.drop (k + 1)) (k + 1) = _
    have := (topN_spec hP mask k k (Nat.le_refl _) (by omega)).1
    rw [if_neg (by omega), cntR_skip hP mask hr hl d (k + 1) (by omega), Nat.zero_add]
/-- the length of a piece -/
theorem pieN_len {t : List Nat} (hP : HasP t) (mask : Nat) {root : Nat} (hr : root = 0 ∨ mask.testBit root = true) (hl : root < t.length) : (pieN t mask root).length = cntR t mask root t 0 := by
  have h1 := cntR_skip hP mask hr hl root 0 (by omega)
  rw [List.drop_zero] at h1
  unfold pieN
  have hz : ∀ j, ((List.replicate t.length false).set root true).getD j false = decide (j = root) := fun j => by
    rw [List.getD_eq_getElem?_getD]
    by_cases e : j = root
    · subst e
      rw [List.getElem?_set_self (by rw [List.length_replicate]; exact hl)]
      exact (decide_eq_true rfl).symm
    · rw [List.getElem?_set_ne (by omega), List.getElem?_replicate, decide_eq_false e]
      split <;> rfl
  rw [pieF_len hP mask root (t.drop (root + 1)) (root + 1) _ _ rfl (by omega) (by rw [List.length_set, List.length_replicate]) (fun j hj hjl => ?_) (fun j hj => ?_), h1]
  · rfl
  · rw [hz]
    by_cases e : j = root
    · rw [e]
      exact decide_eq_decide.2 ⟨fun _ => ⟨Nat.le_refl _, topN_root t mask hr⟩, fun _ => rfl⟩
    · rw [decide_eq_false e]
      have := (topN_spec hP mask j j (Nat.le_refl _) hjl).1
      exact (decide_eq_false (by omega)).symm
  · rw [hz]
    exact decide_eq_false (by omega)
def sumN : List Nat → Nat
  | [] => 0
  | x :: xs => x + sumN xs
theorem sumN_add (f g : Nat → Nat) : ∀ R : List Nat, sumN (R.map fun r => f r + g r) = sumN (R.map f) + sumN (R.map g)
  | [] => rfl
  | r :: R => by
    simp only [List.map_cons, sumN]
    rw [sumN_add f g R]
    omega
theorem sumN_zero (f : Nat → Nat) : ∀ R : List Nat, (∀ r ∈ R, f r = 0) → sumN (R.map f) = 0
  | [], _ => rfl
  | r :: R, h => by
    simp only [List.map_cons, sumN]
    rw [h r (List.mem_cons_self), sumN_zero f R fun x hx => h x (List.mem_cons_of_mem _ hx)]
theorem sumN_one {x : Nat} : ∀ {R : List Nat}, R.Nodup → x ∈ R → sumN (R.map fun r => if x = r then 1 else 0) = 1
  | [], _, h => by cases h
  | r :: R, hn, h => by
    simp only [List.map_cons, sumN]
    have hn2 := List.nodup_cons.1 hn
    by_cases e : x = r
    · rw [if_pos e, sumN_zero]
      intro y hy
      exact if_neg fun q => hn2.1 (by rw [← e, q]; exact hy)
    · rw [if_neg e, sumN_one hn2.2 (by rcases List.mem_cons.1 h with h | h; exact absurd h e; exact h)]
theorem cnt_total {t : List Nat} (mask : Nat) {R : List Nat} (hn : R.Nodup) : ∀ (ls : List Nat) (i : Nat), (∀ j, i ≤ j → j < i + ls.length → topN t mask j ∈ R) → sumN (R.map fun r => cntR t mask r ls i) = ls.length
  | [], i, _ => sumN_zero _ R fun r _ => rfl
  | l :: ls, i, h => by
    have e : (R.map fun r => cntR t mask r (l :: ls) i) = R.map fun r => (if topN t mask i = r then 1 else 0) + cntR t mask r ls (i + 1) := rfl
    rw [e, sumN_add, sumN_one hn (h i (Nat.le_refl _) (by rw [List.length_cons]; omega)), cnt_total mask hn ls (i + 1) fun j h1 h2 => h j (by omega) (by rw [List.length_cons]; omega), List.length_cons]
    omega
theorem cutsN_mem (mask : Nat) {x : Nat} : ∀ (n i : Nat), x ∈ cutsN mask n i ↔ i ≤ x ∧ x < i + n ∧ mask.testBit x = true
  | 0, i => ⟨fun h => (by cases h), fun h => (by omega)⟩
  | n + 1, i => by
    unfold cutsN
    cases hb : mask.testBit i with
    | true =>
      rw [cond_true, List.mem_cons, cutsN_mem mask n (i + 1)]
      constructor
      · rintro (rfl | ⟨h1, h2, h3⟩)
        · exact ⟨Nat.le_refl _, by omega, hb⟩
        · exact ⟨by omega, by omega, h3⟩
      · rintro ⟨h1, h2, h3⟩
        by_cases e : x = i
        · exact .inl e
        · exact .inr ⟨by omega, by omega, h3⟩
    | false =>
      rw [cond_false, cutsN_mem mask n (i + 1)]
      constructor
      · rintro ⟨h1, h2, h3⟩
        exact ⟨by omega, by omega, h3⟩
      · rintro ⟨h1, h2, h3⟩
        have e : x ≠ i := fun e => by rw [e, hb] at h3; cases h3
        exact ⟨by omega, by omega, h3⟩
theorem cutsN_nodup (mask : Nat) : ∀ (n i : Nat), (cutsN mask n i).Nodup
  | 0, _ => List.nodup_nil
  | n + 1, i => by
    unfold cutsN
    cases mask.testBit i with
    | true =>
      rw [cond_true]
      exact List.nodup_cons.2 ⟨fun h => by have := (cutsN_mem mask n (i + 1)).1 h; omega, cutsN_nodup mask n (i + 1)⟩
    | false => rw [cond_false]; exact cutsN_nodup mask n (i + 1)
def okPar (t : List Nat) : Bool := (List.range t.length).all fun i => Nat.beq i 0 || Nat.blt 0 (parN t (t.getD i 0) i)
theorem okPar_all : (List.range 8).all (fun m => (levs m).all okPar) = true := by decide +kernel
theorem hasP_8 {t : List Nat} (ht : lvl t = true) (hl : t.length ≤ 8) : HasP t := by
  intro i h0 hi
  have h1 := lev8 okPar_all ht hl
  unfold okPar at h1
  rw [List.all_eq_true] at h1
  have h2 := h1 i (List.mem_range.2 hi)
  rw [Bool.or_eq_true] at h2
  rcases h2 with h2 | h2
  · have := Nat.eq_of_beq_eq_true h2; omega
  · exact Nat.le_of_ble_eq_true h2
/-- the pieces have together as many nodes as the tree -/
theorem pieces_total {t : List Nat} (ht : lvl t = true) (hl : t.length ≤ 8) (mask : Nat) : sumN ((0 :: cutsN mask (t.length - 1) 1).map fun r => (pieN t mask r).length) = t.length := by
  have hP := hasP_8 ht hl
  have h0 : 0 < t.length := by obtain ⟨c, rfl, -⟩ := lvl_cons ht; simp
  have hm : ∀ r ∈ 0 :: cutsN mask (t.length - 1) 1, (r = 0 ∨ mask.testBit r = true) ∧ r < t.length := fun r hr => by
    rcases List.mem_cons.1 hr with rfl | hr
    · exact ⟨.inl rfl, h0⟩
    · have := (cutsN_mem mask _ _).1 hr
      exact ⟨.inr this.2.2, by omega⟩
  have e : ((0 :: cutsN mask (t.length - 1) 1).map fun r => (pieN t mask r).length) = (0 :: cutsN mask (t.length - 1) 1).map fun r => cntR t mask r t 0 := List.map_congr_left fun r hr => pieN_len hP mask (hm r hr).1 (hm r hr).2
  rw [e]
  refine cnt_total mask (List.nodup_cons.2 ⟨fun h => by have := (cutsN_mem mask _ _).1 h; omega, cutsN_nodup mask _ _⟩) t 0 fun j _ hj => ?_
  have hs := topN_spec hP mask j j (Nat.le_refl _) (by omega)
  by_cases e0 : topN t mask j = 0
  · rw [e0]; exact List.mem_cons_self
  · refine List.mem_cons_of_mem _ ((cutsN_mem mask _ _).2 ⟨by omega, by omega, ?_⟩)
    rcases hs.2 with h | h
    · exact absurd h e0
    · exact h
end Go.Proofs.Ytnlaoainhlfemaa

