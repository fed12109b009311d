/- The law FnSymplecticTableaus, walked. Printed by lsygen.py. | Arguments that came in, opened to the words of the Mem text. | Byte slices that came in, opened. -/
import Derived.Test.YtofabikjjkapmaaGreatSt26
import Derived.Test.YtofabikjjkapmaaGreatSt30
import Derived.Test.YtofabikjjkapmaaGreatSt31
import Derived.Test.YtofabikjjkapmaaGreatSt27
import Derived.BigQuiet
import Derived.Test.YtofabikjjkapmaaGreatRows
import Derived.Test.YtofabikjjkapmaaGreatSt2
import Derived.WalkKit
import Derived.ProofKit
import Derived.OpenShut
import Derived.Test.YtofabikjjkapmaaGreatSt23
set_option maxRecDepth 100000
set_option linter.unusedVariables false
set_option linter.unusedSimpArgs false
namespace Go.Proofs.YtofabikjjkapmaaGreat
open Go.RowKit

theorem two_len {i k : Nat} : ([(i : Int), (k : Int)] : List Int).length = 2 := rfl
theorem i_IsSymmetricMap1 (w : World) (v : Value) (A : List (List Int)) (B : List Int) (h1 : Ints w v (chT A B)) :
    Calls Tryz.prog 40 #[v] w fun e w' => e = .returned (.tuple #[.bool (ismB (chT A B)), .int .i64 0]) ∧ Below w.heap.size w w' := by
  have hh := i_IsSymmetricMap w v _ h1
  rw [chr_zero (chT_chr A B)] at hh
  exact hh
theorem i_SymplecticTo1 (w : World) (v : Value) (A : List (List Int)) (B : List Int) (h1 : Ints w v (chT A B)) :
    Calls Tryz.prog 12 #[v] w fun e w' => e = .returned (.tuple #[.int .i64 (stoR (chT A B)), .int .i64 0]) ∧ Below w.heap.size w w' := by
  have hh := i_SymplecticTo w v _ h1
  rw [chr_zero (chT_chr A B)] at hh
  exact hh
theorem sf_bad {A : List (List Int)} {B : List Int} (ht : tabB A B = false) (r : List Int) (c : Int) (h : IsSf A B r c) : r = [] ∧ c = 1 := by
  rcases h with ⟨-, h1, h2⟩ | ⟨h1, -⟩
  · exact ⟨h1, h2⟩
  · rw [ht] at h1; cases h1
theorem sf_good {A : List (List Int)} {B r0 : List Int} (ht : tabB A B = true) (h0 : IsFault A B r0) (r : List Int) (c : Int) (h : IsSf A B r c) : r = r0 ∧ c = if r0 = [] then 4 else 0 := by
  rcases h with ⟨h1, -⟩ | ⟨-, h1, h2⟩
  · rw [ht] at h1; cases h1
  · obtain rfl := h1.unique h0
    exact ⟨rfl, h2⟩
theorem sp_both {A ZA : List (List Int)} {B ZB : List Int} {b : Bool} {c : Int} (ht : tabB A B = true) (hl : B.length + B.length ≤ 8) (hA : ZA = compA A B A B) (hB : ZB = B ++ B) (h : IsSp ZA ZB b c) : c = 0 ∧ (IsFault A B [] → b = true) := by
  have hz : tabB ZA ZB = true := by rw [hA, hB]; exact (adj_cmp ht ht hl).1
  rcases h with ⟨h1, -⟩ | ⟨-, h1, r, h2, h3⟩
  · rw [hz] at h1; cases h1
  · refine ⟨h1, fun h0 => ?_⟩
    rw [h3]
    exact decide_eq_true (sy_twice ht h0 hA hB h2)
/-- what the region's arithmetic needs -/
theorem four_at {W : World} {A1 A2 : Option Addr} {c1 c2 : Nat} {A : List (List Int)} {Bs : List Int} (hI : IsTab A Bs)
    (hT : TabArg W (.agg #[.slice A1 A.length c1, .slice A2 Bs.length c2]) A Bs) {i k : Nat} (hi : i < Bs.length) (hk : k < Bs.length) :
    ∃ ad ad1 ad2 ad3 d1 d2 bi bk, A1 = some ad ∧ A2 = some ad3 ∧
      W.cell? (ad.add i) = some (.slice (some ad1) Bs.length d1) ∧ W.cell? (ad1.add k) = some (.int .i64 (ent A i k)) ∧
      W.cell? (ad.add k) = some (.slice (some ad2) Bs.length d2) ∧ W.cell? (ad2.add i) = some (.int .i64 (ent A k i)) ∧
      W.cell? (ad3.add i) = some (.int .i64 bi) ∧ W.cell? (ad3.add k) = some (.int .i64 bk) ∧
      Hid (Bs.getD i 0 = bi) ∧ Hid (Bs.getD k 0 = bk) ∧ (0 ≤ bi ∧ bi ≤ 10006) ∧ (0 ≤ bk ∧ bk ≤ 10006) ∧ (0 ≤ ent A i k ∧ ent A i k ≤ 10006) ∧ (0 ≤ ent A k i ∧ ent A k i ≤ 10006) := by
  obtain ⟨va, vb, e, ha1, ha2⟩ := hT
  simp only [Value.agg.injEq, Array.mk.injEq, List.cons.injEq, and_true] at e
  obtain ⟨rfl, rfl⟩ := e
  exact four hI ha1 ha2 hi hk

set_option maxHeartbeats 64000000 in
theorem law_SymplecticTableaus (w : World) (v : Value) (n : Nat) (h : Bts w v n) :
    Calls Tryz.prog 5 #[v] w fun e w' => e = .returned (.bool true) ∧ Below w.heap.size w w' := by
  obtain ⟨A, c, rfl, hb⟩ := h
  have HBG := Lib.hid (l_big w A n c)
  by_cases h4 : 4096 < n
  · have hd : decide (4096 < n) = true := by simp [h4]
    rw [hd] at HBG
    clear hd h4 hb
    go_enter Tryz.func5, Tryz.ntmps5
    go_wp2_with (go_at_call 6; refine HBG.out.mono ?_; rintro e w0 ⟨rfl, rfl⟩)
    go_ret
    exact ⟨rfl, Below.refl _ _⟩
  · have hd : decide (4096 < n) = false := by simp [h4]
    rw [hd] at HBG
    have HDR := Lib.hid (s_DrawIsSymplectic w A n c hb (by omega))
    clear hd h4 hb
    go_enter Tryz.func5, Tryz.ntmps5
    go_upto_region 4 with (first
      | (go_at_call 6; refine HBG.out.mono ?_; rintro e w0 ⟨rfl, rfl⟩)
      | (go_at_call 35; go_loud (refine HDR.out.mono ?_; rintro e w1 ⟨x, rfl, ⟨X, Bs, hx⟩, hb1⟩; obtain ⟨Aa, ca, Ab, cb, rfl⟩ := hx.open_; have HX1 := Lib.hid hx; have HB1 := Lib.hid hb1; clear hx hb1)))
    clear HBG HDR
    obtain ⟨qx, hqx⟩ : ∃ q, q = w1.heap.size := ⟨_, rfl⟩
    obtain ⟨W0, hW0⟩ : ∃ W0, W0 = w1.alloc (.cells #[.slice Aa X.length ca, .slice Ab Bs.length cb] tTb) := ⟨_, rfl⟩
    have HX80 := Lib.hid (show TabArg W0 (.agg #[.slice Aa X.length ca, .slice Ab Bs.length cb]) X Bs from by rw [hW0]; exact HX1.out.below (below1 _ _))
    have HBW := Lib.hid (show Below w.heap.size w W0 from by rw [hW0]; exact HB1.out.trans ((below1 w1 _).mono HB1.out.size))
    have HK80 := Lib.hid (show Blk W0 qx tTb #[.slice Aa X.length ca, .slice Ab Bs.length cb] from by rw [hW0, hqx]; exact Blk.new _ _ _)
    rw [← hW0, ← hqx]
    clear hW0 hqx HX1 HB1
    have HC := Lib.hid (i_IsSymplectic W0 _ X Bs HX80.out)
    have c80a : W0.cell? ⟨qx, 0, none⟩ = some (.slice Aa X.length ca) := HK80.out.cell 0
    have c80b : W0.cell? ⟨qx, 1, none⟩ = some (.slice Ab Bs.length cb) := HK80.out.cell 1
    go_upto_region 5 with (go_at_call 36; go_loud (refine HC.out.mono ?_; rintro e w1 ⟨b1, c1, rfl, hsp, hb⟩; have HSP := Lib.hid hsp; clear hsp; have HBs := Lib.hid (hb); clear hb))
    clear HC
    clear c80a c80b
    have HX80 := Lib.hid (HX80.out.below HBs.out)
    have HK80 := Lib.hid (HK80.out.below HBs.out HK80.out.lt)
    have HBW := Lib.hid (HBW.out.trans (HBs.out.mono HBW.out.size))
    clear HBs
    have HC := Lib.hid (s_IsSymplectic w1 _ X Bs HX80.out)
    have c80a : w1.cell? ⟨qx, 0, none⟩ = some (.slice Aa X.length ca) := HK80.out.cell 0
    have c80b : w1.cell? ⟨qx, 1, none⟩ = some (.slice Ab Bs.length cb) := HK80.out.cell 1
    go_upto_region 6 with (go_at_call 37; go_loud (refine HC.out.mono ?_; rintro e w2 ⟨b2, c2, rfl, hsp, hb⟩; obtain ⟨h1, h2⟩ := HSP.out.unique hsp; subst h1; subst h2; clear hsp; have HBs := Lib.hid (hb); clear hb))
    clear HC
    clear c80a c80b
    have HX80 := Lib.hid (HX80.out.below HBs.out)
    have HK80 := Lib.hid (HK80.out.below HBs.out HK80.out.lt)
    have HBW := Lib.hid (HBW.out.trans (HBs.out.mono HBW.out.size))
    clear HBs
    obtain ⟨ht, hb1, hc1⟩ | ⟨ht, hc1, r, hr, hb1⟩ := HSP.out
    · clear HSP
      subst hb1; subst hc1
      have HSFX := Lib.hid (sf_bad ht)
      have HSY := Lib.hid (show symR X Bs = false ∧ tabC X Bs = 1 from ⟨by simp [symR, ht], by simp [tabC, ht]⟩)
      clear ht
      go_upto_region 8 with fail
      have HC := Lib.hid (i_SymplecticFault w2 _ X Bs HX80.out)
      have c80a : w2.cell? ⟨qx, 0, none⟩ = some (.slice Aa X.length ca) := HK80.out.cell 0
      have c80b : w2.cell? ⟨qx, 1, none⟩ = some (.slice Ab Bs.length cb) := HK80.out.cell 1
      go_upto_region 9 with (go_at_call 38; go_loud (refine HC.out.mono ?_; rintro e w3 ⟨r2, x2, c2, rfl, hsf, ho, hb⟩; obtain ⟨h1, h2⟩ := HSFX.out r2 c2 hsf; subst h1; subst h2; clear hsf; have hz := ho.ints; obtain ⟨A3, a3, hAe, -, -, -⟩ := hz.open_; rw [List.length_nil] at hAe; subst hAe; have HN := Lib.hid hz; have HBs := Lib.hid hb; clear hz ho hb))
      clear HC
      clear c80a c80b
      have HX80 := Lib.hid (HX80.out.below HBs.out)
      have HK80 := Lib.hid (HK80.out.below HBs.out HK80.out.lt)
      have HBW := Lib.hid (HBW.out.trans (HBs.out.mono HBW.out.size))
      have HI3 := HN
      clear HN HBs
      have HC := Lib.hid (i_IsSymmetric w3 _ X Bs HX80.out)
      rw [HSY.out.1, HSY.out.2] at HC
      have c80a : w3.cell? ⟨qx, 0, none⟩ = some (.slice Aa X.length ca) := HK80.out.cell 0
      have c80b : w3.cell? ⟨qx, 1, none⟩ = some (.slice Ab Bs.length cb) := HK80.out.cell 1
      go_upto_region 10 with (go_at_call 39; go_loud (refine HC.out.mono ?_; rintro e w4 ⟨rfl, hb⟩; have HBs := Lib.hid (hb); clear hb))
      clear HC
      clear c80a c80b
      have HX80 := Lib.hid (HX80.out.below HBs.out)
      have HK80 := Lib.hid (HK80.out.below HBs.out HK80.out.lt)
      have HI3 := Lib.hid (HI3.out.below HBs.out)
      have HBW := Lib.hid (HBW.out.trans (HBs.out.mono HBW.out.size))
      clear HBs
      go_wp2_with fail
      go_ret
      exact ⟨rfl, HBW.out⟩
    · clear HSP
      subst hb1; subst hc1
      have HT := Lib.hid ht
      have HR := Lib.hid hr
      have HTC := Lib.hid (show tabC X Bs = 0 from by simp [tabC, ht])
      have HEV := Lib.hid (fun h => sy_even ht h)
      obtain ⟨ev, hev⟩ : ∃ ev, ev = symR X Bs := ⟨_, rfl⟩
      obtain ⟨sm, hsm⟩ : ∃ sm, sm = ismB (chT X Bs) := ⟨_, rfl⟩
      rw [← hev, ← hsm] at HEV
      have HVE := Lib.hid hev
      have HSM := Lib.hid hsm
      clear ht hr hev hsm
      by_cases hr0 : r = []
      case pos =>
        subst hr0
        have HSFX := Lib.hid (sf_good HT.out HR.out)
        rw [show decide (([] : List Int) = []) = true from rfl]
        go_upto_region 8 with fail
        have HC := Lib.hid (i_SymplecticFault w2 _ X Bs HX80.out)
        have c80a : w2.cell? ⟨qx, 0, none⟩ = some (.slice Aa X.length ca) := HK80.out.cell 0
        have c80b : w2.cell? ⟨qx, 1, none⟩ = some (.slice Ab Bs.length cb) := HK80.out.cell 1
        go_upto_region 9 with (go_at_call 38; go_loud (refine HC.out.mono ?_; rintro e w3 ⟨r2, x2, c2, rfl, hsf, ho, hb⟩; obtain ⟨h1, h2⟩ := HSFX.out r2 c2 hsf; subst h1; rw [if_pos rfl] at h2; subst h2; clear hsf; have hz := ho.ints; obtain ⟨A3, a3, hAe, -, -, -⟩ := hz.open_; rw [List.length_nil] at hAe; subst hAe; have HN := Lib.hid hz; have HBs := Lib.hid hb; clear hz ho hb))
        clear HC
        clear c80a c80b
        have HX80 := Lib.hid (HX80.out.below HBs.out)
        have HK80 := Lib.hid (HK80.out.below HBs.out HK80.out.lt)
        have HBW := Lib.hid (HBW.out.trans (HBs.out.mono HBW.out.size))
        have HI3 := HN
        clear HN HBs
        have HC := Lib.hid (i_IsSymmetric w3 _ X Bs HX80.out)
        rw [← HVE.out, HTC.out] at HC
        have c80a : w3.cell? ⟨qx, 0, none⟩ = some (.slice Aa X.length ca) := HK80.out.cell 0
        have c80b : w3.cell? ⟨qx, 1, none⟩ = some (.slice Ab Bs.length cb) := HK80.out.cell 1
        go_upto_region 10 with (go_at_call 39; go_loud (refine HC.out.mono ?_; rintro e w4 ⟨rfl, hb⟩; have HBs := Lib.hid (hb); clear hb))
        clear HC
        clear c80a c80b
        have HX80 := Lib.hid (HX80.out.below HBs.out)
        have HK80 := Lib.hid (HK80.out.below HBs.out HK80.out.lt)
        have HI3 := Lib.hid (HI3.out.below HBs.out)
        have HBW := Lib.hid (HBW.out.trans (HBs.out.mono HBW.out.size))
        clear HBs
        go_upto_region 12 with fail
        have HC := Lib.hid (i_CharacterOf0 w4 _ X Bs HX80.out HT.out)
        have c80a : w4.cell? ⟨qx, 0, none⟩ = some (.slice Aa X.length ca) := HK80.out.cell 0
        have c80b : w4.cell? ⟨qx, 1, none⟩ = some (.slice Ab Bs.length cb) := HK80.out.cell 1
        go_upto_region 13 with (go_at_call 33; go_loud (refine HC.out.mono ?_; rintro e w5 ⟨x, rfl, ho, hb⟩; have hz := ho.ints; obtain ⟨A5, a5, hAe, -, -, -⟩ := hz.open_; rw [chT_len] at hAe; subst hAe; have HN := Lib.hid hz; have HBs := Lib.hid hb; clear hz ho hb))
        clear HC
        clear c80a c80b
        have HX80 := Lib.hid (HX80.out.below HBs.out)
        have HK80 := Lib.hid (HK80.out.below HBs.out HK80.out.lt)
        have HI3 := Lib.hid (HI3.out.below HBs.out)
        have HBW := Lib.hid (HBW.out.trans (HBs.out.mono HBW.out.size))
        have HI5 := HN
        clear HN HBs
        have HC := Lib.hid (i_SymplecticTo1 w5 _ X Bs HI5.out)
        rw [sy_to HR.out] at HC
        go_upto_region 14 with (go_at_call 12; go_loud (refine HC.out.mono ?_; rintro e w6 ⟨rfl, hb⟩; have HBs := Lib.hid (hb); clear hb))
        clear HC
        have HX80 := Lib.hid (HX80.out.below HBs.out)
        have HK80 := Lib.hid (HK80.out.below HBs.out HK80.out.lt)
        have HI3 := Lib.hid (HI3.out.below HBs.out)
        have HI5 := Lib.hid (HI5.out.below HBs.out)
        have HBW := Lib.hid (HBW.out.trans (HBs.out.mono HBW.out.size))
        clear HBs
        go_upto_region 23 with fail
        have HC := Lib.hid (i_IsSymmetricMap1 w6 _ X Bs HI5.out)
        rw [← HSM.out] at HC
        go_upto_region 24 with (go_at_call 40; go_loud (refine HC.out.mono ?_; rintro e w7 ⟨rfl, hb⟩; have HBs := Lib.hid (hb); clear hb))
        clear HC
        have HX80 := Lib.hid (HX80.out.below HBs.out)
        have HK80 := Lib.hid (HK80.out.below HBs.out HK80.out.lt)
        have HI5 := Lib.hid (HI5.out.below HBs.out)
        have HBW := Lib.hid (HBW.out.trans (HBs.out.mono HBW.out.size))
        clear HBs
        have hxx : (ev && !sm) = false := by cases ev with
          | false => rfl
          | true => rw [HEV.out rfl]; rfl
        have HXX := Lib.hid hxx
        clear hxx HVE HSM HEV
        cases ev <;> cases sm
        · skip
          clear HXX
          go_upto_region 26 with fail
          have HC := Lib.hid (i_ComposeTableaus w7 _ _ X Bs X Bs HX80.out HX80.out)
          have c80a : w7.cell? ⟨qx, 0, none⟩ = some (.slice Aa X.length ca) := HK80.out.cell 0
          have c80b : w7.cell? ⟨qx, 1, none⟩ = some (.slice Ab Bs.length cb) := HK80.out.cell 1
          go_upto_region 27 with (go_at_call 41; go_loud (refine HC.out.mono ?_; rintro e w8 ⟨ZA, ZB, v, e8, rfl, hrep, ho, hb⟩; have HP := Lib.hid hrep; obtain ⟨A8, a8, B8, b8, rfl⟩ := ho.open_; have HN := Lib.hid ho.arg; have HBn := Lib.hid hb; clear hrep ho hb))
          clear HC
          clear c80a c80b
          obtain ⟨q8, hq8⟩ : ∃ q8, q8 = w8.heap.size := ⟨_, rfl⟩
          obtain ⟨W8, hW8⟩ : ∃ W8, W8 = w8.alloc (.cells #[.slice A8 ZA.length a8, .slice B8 ZB.length b8] tTb) := ⟨_, rfl⟩
          have HBs := Lib.hid (show Below w7.heap.size w7 W8 from by rw [hW8]; exact HBn.out.trans ((below1 w8 _).mono HBn.out.size))
          have HX80 := Lib.hid (HX80.out.below HBs.out)
          have HK80 := Lib.hid (HK80.out.below HBs.out HK80.out.lt)
          have HBW := Lib.hid (HBW.out.trans (HBs.out.mono HBW.out.size))
          have HX8 := Lib.hid (show TabArg W8 (.agg #[.slice A8 ZA.length a8, .slice B8 ZB.length b8]) ZA ZB from by rw [hW8]; exact HN.out.below (below1 _ _))
          have HK8 := Lib.hid (show Blk W8 q8 tTb #[.slice A8 ZA.length a8, .slice B8 ZB.length b8] from by rw [hW8, hq8]; exact Blk.new _ _ _)
          rw [← hW8, ← hq8]
          clear hW8 hq8 HN HBn HBs
          by_cases hl : Bs.length + Bs.length ≤ 8
          case neg =>
            obtain ⟨-, -, h3⟩ := isCmp_far HT.out HT.out hl HP.out
            subst h3
            clear hl
            go_wp2_with fail
            go_ret
            exact ⟨rfl, HBW.out⟩
          obtain ⟨hza, hzb, h3⟩ := isCmp_ok HT.out HT.out hl HP.out
          subst h3
          have HSB := Lib.hid (fun b c (h : IsSp ZA ZB b c) => sp_both HT.out hl hza hzb h)
          clear hl hza hzb HP
          go_upto_region 29 with fail
          have HC := Lib.hid (i_IsSymplectic W8 _ ZA ZB HX8.out)
          have c8a : W8.cell? ⟨q8, 0, none⟩ = some (.slice A8 ZA.length a8) := HK8.out.cell 0
          have c8b : W8.cell? ⟨q8, 1, none⟩ = some (.slice B8 ZB.length b8) := HK8.out.cell 1
          go_upto_region 30 with (go_at_call 36; go_loud (refine HC.out.mono ?_; rintro e w9 ⟨b5, c5, rfl, hsp, hb⟩; obtain ⟨h1, h2⟩ := HSB.out b5 c5 hsp; subst h1; have h3 := h2 HR.out; subst h3; clear hsp h2; have HBs := Lib.hid (hb); clear hb))
          clear HC
          clear c8a c8b
          have HX80 := Lib.hid (HX80.out.below HBs.out)
          have HK80 := Lib.hid (HK80.out.below HBs.out HK80.out.lt)
          have HX8 := Lib.hid (HX8.out.below HBs.out)
          have HK8 := Lib.hid (HK8.out.below HBs.out HK8.out.lt)
          have HBW := Lib.hid (HBW.out.trans (HBs.out.mono HBW.out.size))
          clear HBs
          go_wp2_with fail
          all_goals
            go_ret
            exact ⟨by first | rfl | simp, HBW.out⟩
        · skip
          clear HXX
          go_upto_region 26 with fail
          have HC := Lib.hid (i_ComposeTableaus w7 _ _ X Bs X Bs HX80.out HX80.out)
          have c80a : w7.cell? ⟨qx, 0, none⟩ = some (.slice Aa X.length ca) := HK80.out.cell 0
          have c80b : w7.cell? ⟨qx, 1, none⟩ = some (.slice Ab Bs.length cb) := HK80.out.cell 1
          go_upto_region 27 with (go_at_call 41; go_loud (refine HC.out.mono ?_; rintro e w8 ⟨ZA, ZB, v, e8, rfl, hrep, ho, hb⟩; have HP := Lib.hid hrep; obtain ⟨A8, a8, B8, b8, rfl⟩ := ho.open_; have HN := Lib.hid ho.arg; have HBn := Lib.hid hb; clear hrep ho hb))
          clear HC
          clear c80a c80b
          obtain ⟨q8, hq8⟩ : ∃ q8, q8 = w8.heap.size := ⟨_, rfl⟩
          obtain ⟨W8, hW8⟩ : ∃ W8, W8 = w8.alloc (.cells #[.slice A8 ZA.length a8, .slice B8 ZB.length b8] tTb) := ⟨_, rfl⟩
          have HBs := Lib.hid (show Below w7.heap.size w7 W8 from by rw [hW8]; exact HBn.out.trans ((below1 w8 _).mono HBn.out.size))
          have HX80 := Lib.hid (HX80.out.below HBs.out)
          have HK80 := Lib.hid (HK80.out.below HBs.out HK80.out.lt)
          have HBW := Lib.hid (HBW.out.trans (HBs.out.mono HBW.out.size))
          have HX8 := Lib.hid (show TabArg W8 (.agg #[.slice A8 ZA.length a8, .slice B8 ZB.length b8]) ZA ZB from by rw [hW8]; exact HN.out.below (below1 _ _))
          have HK8 := Lib.hid (show Blk W8 q8 tTb #[.slice A8 ZA.length a8, .slice B8 ZB.length b8] from by rw [hW8, hq8]; exact Blk.new _ _ _)
          rw [← hW8, ← hq8]
          clear hW8 hq8 HN HBn HBs
          by_cases hl : Bs.length + Bs.length ≤ 8
          case neg =>
            obtain ⟨-, -, h3⟩ := isCmp_far HT.out HT.out hl HP.out
            subst h3
            clear hl
            go_wp2_with fail
            go_ret
            exact ⟨rfl, HBW.out⟩
          obtain ⟨hza, hzb, h3⟩ := isCmp_ok HT.out HT.out hl HP.out
          subst h3
          have HSB := Lib.hid (fun b c (h : IsSp ZA ZB b c) => sp_both HT.out hl hza hzb h)
          clear hl hza hzb HP
          go_upto_region 29 with fail
          have HC := Lib.hid (i_IsSymplectic W8 _ ZA ZB HX8.out)
          have c8a : W8.cell? ⟨q8, 0, none⟩ = some (.slice A8 ZA.length a8) := HK8.out.cell 0
          have c8b : W8.cell? ⟨q8, 1, none⟩ = some (.slice B8 ZB.length b8) := HK8.out.cell 1
          go_upto_region 30 with (go_at_call 36; go_loud (refine HC.out.mono ?_; rintro e w9 ⟨b5, c5, rfl, hsp, hb⟩; obtain ⟨h1, h2⟩ := HSB.out b5 c5 hsp; subst h1; have h3 := h2 HR.out; subst h3; clear hsp h2; have HBs := Lib.hid (hb); clear hb))
          clear HC
          clear c8a c8b
          have HX80 := Lib.hid (HX80.out.below HBs.out)
          have HK80 := Lib.hid (HK80.out.below HBs.out HK80.out.lt)
          have HX8 := Lib.hid (HX8.out.below HBs.out)
          have HK8 := Lib.hid (HK8.out.below HBs.out HK8.out.lt)
          have HBW := Lib.hid (HBW.out.trans (HBs.out.mono HBW.out.size))
          clear HBs
          go_wp2_with fail
          all_goals
            go_ret
            exact ⟨by first | rfl | simp, HBW.out⟩
        · skip
          exact absurd HXX.out (by decide)
        · skip
          clear HXX
          go_upto_region 26 with fail
          have HC := Lib.hid (i_ComposeTableaus w7 _ _ X Bs X Bs HX80.out HX80.out)
          have c80a : w7.cell? ⟨qx, 0, none⟩ = some (.slice Aa X.length ca) := HK80.out.cell 0
          have c80b : w7.cell? ⟨qx, 1, none⟩ = some (.slice Ab Bs.length cb) := HK80.out.cell 1
          go_upto_region 27 with (go_at_call 41; go_loud (refine HC.out.mono ?_; rintro e w8 ⟨ZA, ZB, v, e8, rfl, hrep, ho, hb⟩; have HP := Lib.hid hrep; obtain ⟨A8, a8, B8, b8, rfl⟩ := ho.open_; have HN := Lib.hid ho.arg; have HBn := Lib.hid hb; clear hrep ho hb))
          clear HC
          clear c80a c80b
          obtain ⟨q8, hq8⟩ : ∃ q8, q8 = w8.heap.size := ⟨_, rfl⟩
          obtain ⟨W8, hW8⟩ : ∃ W8, W8 = w8.alloc (.cells #[.slice A8 ZA.length a8, .slice B8 ZB.length b8] tTb) := ⟨_, rfl⟩
          have HBs := Lib.hid (show Below w7.heap.size w7 W8 from by rw [hW8]; exact HBn.out.trans ((below1 w8 _).mono HBn.out.size))
          have HX80 := Lib.hid (HX80.out.below HBs.out)
          have HK80 := Lib.hid (HK80.out.below HBs.out HK80.out.lt)
          have HBW := Lib.hid (HBW.out.trans (HBs.out.mono HBW.out.size))
          have HX8 := Lib.hid (show TabArg W8 (.agg #[.slice A8 ZA.length a8, .slice B8 ZB.length b8]) ZA ZB from by rw [hW8]; exact HN.out.below (below1 _ _))
          have HK8 := Lib.hid (show Blk W8 q8 tTb #[.slice A8 ZA.length a8, .slice B8 ZB.length b8] from by rw [hW8, hq8]; exact Blk.new _ _ _)
          rw [← hW8, ← hq8]
          clear hW8 hq8 HN HBn HBs
          by_cases hl : Bs.length + Bs.length ≤ 8
          case neg =>
            obtain ⟨-, -, h3⟩ := isCmp_far HT.out HT.out hl HP.out
            subst h3
            clear hl
            go_wp2_with fail
            go_ret
            exact ⟨rfl, HBW.out⟩
          obtain ⟨hza, hzb, h3⟩ := isCmp_ok HT.out HT.out hl HP.out
          subst h3
          have HSB := Lib.hid (fun b c (h : IsSp ZA ZB b c) => sp_both HT.out hl hza hzb h)
          clear hl hza hzb HP
          go_upto_region 29 with fail
          have HC := Lib.hid (i_IsSymplectic W8 _ ZA ZB HX8.out)
          have c8a : W8.cell? ⟨q8, 0, none⟩ = some (.slice A8 ZA.length a8) := HK8.out.cell 0
          have c8b : W8.cell? ⟨q8, 1, none⟩ = some (.slice B8 ZB.length b8) := HK8.out.cell 1
          go_upto_region 30 with (go_at_call 36; go_loud (refine HC.out.mono ?_; rintro e w9 ⟨b5, c5, rfl, hsp, hb⟩; obtain ⟨h1, h2⟩ := HSB.out b5 c5 hsp; subst h1; have h3 := h2 HR.out; subst h3; clear hsp h2; have HBs := Lib.hid (hb); clear hb))
          clear HC
          clear c8a c8b
          have HX80 := Lib.hid (HX80.out.below HBs.out)
          have HK80 := Lib.hid (HK80.out.below HBs.out HK80.out.lt)
          have HX8 := Lib.hid (HX8.out.below HBs.out)
          have HK8 := Lib.hid (HK8.out.below HBs.out HK8.out.lt)
          have HBW := Lib.hid (HBW.out.trans (HBs.out.mono HBW.out.size))
          clear HBs
          go_wp2_with fail
          all_goals
            go_ret
            exact ⟨by first | rfl | simp, HBW.out⟩
      have hgf : decide (r = []) = false := decide_eq_false hr0
      rw [hgf]
      obtain ⟨i, k, hik, hk, rfl, hne⟩ : ∃ i k : Nat, i ≤ k ∧ k < Bs.length ∧ r = [(i : Int), (k : Int)] ∧ cnd X Bs i k ≠ 0 := by
        rcases HR.out with ⟨e, -⟩ | ⟨i, k, h1, h2, h3, h4, -⟩
        · exact absurd e hr0
        · exact ⟨i, k, h1, h2, h3, h4⟩
      have HSFX := Lib.hid (sf_good HT.out HR.out)
      have HNE := Lib.hid hne
      clear hgf hr0 hne
      go_upto_region 8 with fail
      have HC := Lib.hid (i_SymplecticFault w2 _ X Bs HX80.out)
      have c80a : w2.cell? ⟨qx, 0, none⟩ = some (.slice Aa X.length ca) := HK80.out.cell 0
      have c80b : w2.cell? ⟨qx, 1, none⟩ = some (.slice Ab Bs.length cb) := HK80.out.cell 1
      go_upto_region 9 with (go_at_call 38; go_loud (refine HC.out.mono ?_; rintro e w3 ⟨r2, x2, c2, rfl, hsf, ho, hb⟩; obtain ⟨h1, h2⟩ := HSFX.out r2 c2 hsf; subst h1; rw [if_neg (by simp)] at h2; subst h2; clear hsf; have hz := ho.ints; obtain ⟨A3, a3, hAe, -, -, -⟩ := hz.open_; rw [two_len] at hAe; subst hAe; have HN := Lib.hid hz; have HBs := Lib.hid hb; clear hz ho hb))
      clear HC
      clear c80a c80b
      have HX80 := Lib.hid (HX80.out.below HBs.out)
      have HK80 := Lib.hid (HK80.out.below HBs.out HK80.out.lt)
      have HBW := Lib.hid (HBW.out.trans (HBs.out.mono HBW.out.size))
      have HI3 := HN
      clear HN HBs
      have HC := Lib.hid (i_IsSymmetric w3 _ X Bs HX80.out)
      rw [← HVE.out, HTC.out] at HC
      have c80a : w3.cell? ⟨qx, 0, none⟩ = some (.slice Aa X.length ca) := HK80.out.cell 0
      have c80b : w3.cell? ⟨qx, 1, none⟩ = some (.slice Ab Bs.length cb) := HK80.out.cell 1
      go_upto_region 10 with (go_at_call 39; go_loud (refine HC.out.mono ?_; rintro e w4 ⟨rfl, hb⟩; have HBs := Lib.hid (hb); clear hb))
      clear HC
      clear c80a c80b
      have HX80 := Lib.hid (HX80.out.below HBs.out)
      have HK80 := Lib.hid (HK80.out.below HBs.out HK80.out.lt)
      have HI3 := Lib.hid (HI3.out.below HBs.out)
      have HBW := Lib.hid (HBW.out.trans (HBs.out.mono HBW.out.size))
      clear HBs
      go_upto_region 12 with fail
      have HC := Lib.hid (i_CharacterOf0 w4 _ X Bs HX80.out HT.out)
      have c80a : w4.cell? ⟨qx, 0, none⟩ = some (.slice Aa X.length ca) := HK80.out.cell 0
      have c80b : w4.cell? ⟨qx, 1, none⟩ = some (.slice Ab Bs.length cb) := HK80.out.cell 1
      go_upto_region 13 with (go_at_call 33; go_loud (refine HC.out.mono ?_; rintro e w5 ⟨x, rfl, ho, hb⟩; have hz := ho.ints; obtain ⟨A5, a5, hAe, -, -, -⟩ := hz.open_; rw [chT_len] at hAe; subst hAe; have HN := Lib.hid hz; have HBs := Lib.hid hb; clear hz ho hb))
      clear HC
      clear c80a c80b
      have HX80 := Lib.hid (HX80.out.below HBs.out)
      have HK80 := Lib.hid (HK80.out.below HBs.out HK80.out.lt)
      have HI3 := Lib.hid (HI3.out.below HBs.out)
      have HBW := Lib.hid (HBW.out.trans (HBs.out.mono HBW.out.size))
      have HI5 := HN
      clear HN HBs
      have HC := Lib.hid (i_SymplecticTo1 w5 _ X Bs HI5.out)
      obtain ⟨sto, hsto⟩ : ∃ z, z = stoR (chT X Bs) := ⟨_, rfl⟩
      rw [← hsto] at HC
      clear hsto
      go_upto_region 14 with (go_at_call 12; go_loud (refine HC.out.mono ?_; rintro e w6 ⟨rfl, hb⟩; have HBs := Lib.hid (hb); clear hb))
      clear HC
      have HX80 := Lib.hid (HX80.out.below HBs.out)
      have HK80 := Lib.hid (HK80.out.below HBs.out HK80.out.lt)
      have HI3 := Lib.hid (HI3.out.below HBs.out)
      have HI5 := Lib.hid (HI5.out.below HBs.out)
      have HBW := Lib.hid (HBW.out.trans (HBs.out.mono HBW.out.size))
      clear HBs
      go_upto_region 17 with fail
      have c80a : w6.cell? ⟨qx, 0, none⟩ = some (.slice Aa X.length ca) := HK80.out.cell 0
      have c80b : w6.cell? ⟨qx, 1, none⟩ = some (.slice Ab Bs.length cb) := HK80.out.cell 1
      go_upto_region 18 with fail
      clear c80a c80b
      obtain ⟨_, _, he, -, -, hcs⟩ := HI3.out.open_
      simp only [two_len, Value.slice.injEq] at he
      obtain ⟨rfl, -, rfl⟩ := he
      obtain ⟨ad, z0, rfl, hz0, -, k0⟩ := hcs 0 (by simp)
      obtain ⟨ad', z1, he, hz1, -, k1⟩ := hcs 1 (by simp)
      simp only [Option.some.injEq] at he
      subst he
      simp only [List.getElem?_cons_zero, List.getElem?_cons_succ, Option.some.injEq] at hz0 hz1
      subst hz0; subst hz1
      rw [show ad.add 0 = ad from by simp [Addr.add]] at k0
      rw [show ad.add 1 = ⟨ad.block, ad.off + 1, none⟩ from by simp [Addr.add]] at k1
      clear hcs
      have hd1 : decide ((i : Int) < 0) = false := decide_eq_false (by omega)
      have hd2 : decide (k < i) = false := decide_eq_false (by omega)
      have hd3 : decide ((k : Int) < (i : Int)) = false := decide_eq_false (by omega)
      have hd4 : decide (Bs.length ≤ k) = false := decide_eq_false (by omega)
      have hd5 : decide ((Bs.length : Int) ≤ (k : Int)) = false := decide_eq_false (by omega)
      go_quiet (fail)
      clear hd1 hd2 hd3 hd4 hd5
      obtain ⟨w7, hw7⟩ : ∃ x, x = w6.drewN nq := ⟨_, rfl⟩
      have HBs := Lib.hid (show Below w6.heap.size w6 w7 from by rw [hw7]; exact below_drewN (Below.refl _ _) nq)
      have k0 : w7.cell? ad = some (.int .i64 (i : Int)) := by rw [hw7]; exact k0
      have k1 : w7.cell? ⟨ad.block, ad.off + 1, none⟩ = some (.int .i64 (k : Int)) := by rw [hw7]; exact k1
      rw [← hw7]
      clear hw7
      have HX80 := Lib.hid (HX80.out.below HBs.out)
      have HK80 := Lib.hid (HK80.out.below HBs.out HK80.out.lt)
      have HI3 := Lib.hid (HI3.out.below HBs.out)
      have HI5 := Lib.hid (HI5.out.below HBs.out)
      have HBW := Lib.hid (HBW.out.trans (HBs.out.mono HBW.out.size))
      clear HBs
      go_upto_region 20 with fail
      go_quiet (fail)
      clear k0 k1
      obtain ⟨w8, hw8⟩ : ∃ x, x = w7.drewN nq := ⟨_, rfl⟩
      have HBs := Lib.hid (show Below w7.heap.size w7 w8 from by rw [hw8]; exact below_drewN (Below.refl _ _) nq)
      rw [← hw8]
      clear hw8
      have HX80 := Lib.hid (HX80.out.below HBs.out)
      have HK80 := Lib.hid (HK80.out.below HBs.out HK80.out.lt)
      have HI3 := Lib.hid (HI3.out.below HBs.out)
      have HI5 := Lib.hid (HI5.out.below HBs.out)
      have HBW := Lib.hid (HBW.out.trans (HBs.out.mono HBW.out.size))
      clear HBs
      go_upto_region 21 with fail
      obtain ⟨ad0, ad1, ad2, ad3, d1, d2, bi, bk, rfl, rfl, p1, p2, p3, p4, p5, p6, HZ1, HZ2, b1, b2, b3, b4⟩ := four_at (isTab_of HT.out) HX80.out (show i < Bs.length by omega) hk
      have hla : i < X.length ∧ k < X.length := by rw [(isTab_of HT.out).len]; omega
      have i1 : (i : Int) < (X.length : Int) := by omega
      have i2 : (k : Int) < (X.length : Int) := by omega
      have i3 : (i : Int) < (Bs.length : Int) := by omega
      have i4 : (k : Int) < (Bs.length : Int) := by omega
      have i5 : i < X.length := hla.1
      have i6 : k < X.length := hla.2
      have i7 : i < Bs.length := by omega
      obtain ⟨u1, u2⟩ := prod_bd (c := 0) (d := 0) (e := 0) (f := 0) b1 b3
      obtain ⟨u3, u4⟩ := prod_bd (c := 0) (d := 0) (e := 0) (f := 0) b2 b4
      obtain ⟨u5, u6⟩ := prod_bd (c := 0) (d := 0) (e := 0) (f := 0) b1 b2
      have w1' : IntKind.i64.wrap (bi * ent X i k) = bi * ent X i k := IntWalk.i64_in _ (by omega)
      have w2' : IntKind.i64.wrap (bk * ent X k i) = bk * ent X k i := IntWalk.i64_in _ (by omega)
      have w3' : IntKind.i64.wrap (bi * bk) = bi * bk := IntWalk.i64_in _ (by omega)
      have w4' : IntKind.i64.wrap (bi * ent X i k + bk * ent X k i) = bi * ent X i k + bk * ent X k i := IntWalk.i64_in _ (by omega)
      have w5' : IntKind.i64.wrap (bi * ent X i k + bk * ent X k i - bi * bk) = bi * ent X i k + bk * ent X k i - bi * bk := IntWalk.i64_in _ (by omega)
      have HCN := Lib.hid (show cnd X Bs i k = (bi * ent X i k + bk * ent X k i - bi * bk) % 10007 by unfold cnd; rw [HZ1.out, HZ2.out])
      have hne2 : ((bi * ent X i k + bk * ent X k i - bi * bk) % 10007 == 0) = false := by rw [← HCN.out]; simp [HNE.out]
      have HM9 := Lib.hid (fun W => l_mod9w W (bi * ent X i k + bk * ent X k i - bi * bk) (by omega) (by omega))
      clear hla b1 b2 b3 b4 u1 u2 u3 u4 u5 u6
      have c80a : w8.cell? ⟨qx, 0, none⟩ = some (.slice (some ad0) X.length ca) := HK80.out.cell 0
      have c80b : w8.cell? ⟨qx, 1, none⟩ = some (.slice (some ad3) Bs.length cb) := HK80.out.cell 1
      go_quiet ((go_at_call 31; first | exact quiet_same0 (HM9.out _) | exact quiet_same (HM9.out _)))
      clear c80a c80b
      clear w1' w2' w3' w4' w5' p1 p2 p3 p4 p5 p6 i1 i2 i3 i4 i5 i6 i7
      obtain ⟨w9, hw9⟩ : ∃ x, x = w8.drewN nq := ⟨_, rfl⟩
      have HBs := Lib.hid (show Below w8.heap.size w8 w9 from by rw [hw9]; exact below_drewN (Below.refl _ _) nq)
      rw [← hw9]
      clear hw9
      have HX80 := Lib.hid (HX80.out.below HBs.out)
      have HK80 := Lib.hid (HK80.out.below HBs.out HK80.out.lt)
      have HI3 := Lib.hid (HI3.out.below HBs.out)
      have HI5 := Lib.hid (HI5.out.below HBs.out)
      have HBW := Lib.hid (HBW.out.trans (HBs.out.mono HBW.out.size))
      clear HBs
      go_upto_region 23 with fail
      clear hne2 HM9 HCN HNE HZ1 HZ2 hk hik
      have HC := Lib.hid (i_IsSymmetricMap1 w9 _ X Bs HI5.out)
      rw [← HSM.out] at HC
      go_upto_region 24 with (go_at_call 40; go_loud (refine HC.out.mono ?_; rintro e w10 ⟨rfl, hb⟩; have HBs := Lib.hid (hb); clear hb))
      clear HC
      have HX80 := Lib.hid (HX80.out.below HBs.out)
      have HK80 := Lib.hid (HK80.out.below HBs.out HK80.out.lt)
      have HI5 := Lib.hid (HI5.out.below HBs.out)
      have HBW := Lib.hid (HBW.out.trans (HBs.out.mono HBW.out.size))
      clear HBs
      have hxx : (ev && !sm) = false := by cases ev with
        | false => rfl
        | true => rw [HEV.out rfl]; rfl
      have HXX := Lib.hid hxx
      clear hxx HVE HSM HEV
      cases ev <;> cases sm
      · skip
        clear HXX
        go_upto_region 26 with fail
        have HC := Lib.hid (i_ComposeTableaus w10 _ _ X Bs X Bs HX80.out HX80.out)
        have c80a : w10.cell? ⟨qx, 0, none⟩ = some (.slice (some ad0) X.length ca) := HK80.out.cell 0
        have c80b : w10.cell? ⟨qx, 1, none⟩ = some (.slice (some ad3) Bs.length cb) := HK80.out.cell 1
        go_upto_region 27 with (go_at_call 41; go_loud (refine HC.out.mono ?_; rintro e w11 ⟨ZA, ZB, v, e11, rfl, hrep, ho, hb⟩; have HP := Lib.hid hrep; obtain ⟨A11, a11, B11, b11, rfl⟩ := ho.open_; have HN := Lib.hid ho.arg; have HBn := Lib.hid hb; clear hrep ho hb))
        clear HC
        clear c80a c80b
        obtain ⟨q11, hq11⟩ : ∃ q11, q11 = w11.heap.size := ⟨_, rfl⟩
        obtain ⟨W11, hW11⟩ : ∃ W11, W11 = w11.alloc (.cells #[.slice A11 ZA.length a11, .slice B11 ZB.length b11] tTb) := ⟨_, rfl⟩
        have HBs := Lib.hid (show Below w10.heap.size w10 W11 from by rw [hW11]; exact HBn.out.trans ((below1 w11 _).mono HBn.out.size))
        have HX80 := Lib.hid (HX80.out.below HBs.out)
        have HK80 := Lib.hid (HK80.out.below HBs.out HK80.out.lt)
        have HBW := Lib.hid (HBW.out.trans (HBs.out.mono HBW.out.size))
        have HX11 := Lib.hid (show TabArg W11 (.agg #[.slice A11 ZA.length a11, .slice B11 ZB.length b11]) ZA ZB from by rw [hW11]; exact HN.out.below (below1 _ _))
        have HK11 := Lib.hid (show Blk W11 q11 tTb #[.slice A11 ZA.length a11, .slice B11 ZB.length b11] from by rw [hW11, hq11]; exact Blk.new _ _ _)
        rw [← hW11, ← hq11]
        clear hW11 hq11 HN HBn HBs
        by_cases hl : Bs.length + Bs.length ≤ 8
        case neg =>
          obtain ⟨-, -, h3⟩ := isCmp_far HT.out HT.out hl HP.out
          subst h3
          clear hl
          go_wp2_with fail
          go_ret
          exact ⟨rfl, HBW.out⟩
        obtain ⟨hza, hzb, h3⟩ := isCmp_ok HT.out HT.out hl HP.out
        subst h3
        have HSB := Lib.hid (fun b c (h : IsSp ZA ZB b c) => sp_both HT.out hl hza hzb h)
        clear hl hza hzb HP
        go_upto_region 29 with fail
        have HC := Lib.hid (i_IsSymplectic W11 _ ZA ZB HX11.out)
        have c11a : W11.cell? ⟨q11, 0, none⟩ = some (.slice A11 ZA.length a11) := HK11.out.cell 0
        have c11b : W11.cell? ⟨q11, 1, none⟩ = some (.slice B11 ZB.length b11) := HK11.out.cell 1
        go_upto_region 30 with (go_at_call 36; go_loud (refine HC.out.mono ?_; rintro e w12 ⟨b5, c5, rfl, hsp, hb⟩; obtain ⟨h1, h2⟩ := HSB.out b5 c5 hsp; subst h1; clear hsp h2; have HBs := Lib.hid (hb); clear hb))
        clear HC
        clear c11a c11b
        have HX80 := Lib.hid (HX80.out.below HBs.out)
        have HK80 := Lib.hid (HK80.out.below HBs.out HK80.out.lt)
        have HX11 := Lib.hid (HX11.out.below HBs.out)
        have HK11 := Lib.hid (HK11.out.below HBs.out HK11.out.lt)
        have HBW := Lib.hid (HBW.out.trans (HBs.out.mono HBW.out.size))
        clear HBs
        go_wp2_with fail
        all_goals
          go_ret
          exact ⟨by first | rfl | simp, HBW.out⟩
      · skip
        clear HXX
        go_upto_region 26 with fail
        have HC := Lib.hid (i_ComposeTableaus w10 _ _ X Bs X Bs HX80.out HX80.out)
        have c80a : w10.cell? ⟨qx, 0, none⟩ = some (.slice (some ad0) X.length ca) := HK80.out.cell 0
        have c80b : w10.cell? ⟨qx, 1, none⟩ = some (.slice (some ad3) Bs.length cb) := HK80.out.cell 1
        go_upto_region 27 with (go_at_call 41; go_loud (refine HC.out.mono ?_; rintro e w11 ⟨ZA, ZB, v, e11, rfl, hrep, ho, hb⟩; have HP := Lib.hid hrep; obtain ⟨A11, a11, B11, b11, rfl⟩ := ho.open_; have HN := Lib.hid ho.arg; have HBn := Lib.hid hb; clear hrep ho hb))
        clear HC
        clear c80a c80b
        obtain ⟨q11, hq11⟩ : ∃ q11, q11 = w11.heap.size := ⟨_, rfl⟩
        obtain ⟨W11, hW11⟩ : ∃ W11, W11 = w11.alloc (.cells #[.slice A11 ZA.length a11, .slice B11 ZB.length b11] tTb) := ⟨_, rfl⟩
        have HBs := Lib.hid (show Below w10.heap.size w10 W11 from by rw [hW11]; exact HBn.out.trans ((below1 w11 _).mono HBn.out.size))
        have HX80 := Lib.hid (HX80.out.below HBs.out)
        have HK80 := Lib.hid (HK80.out.below HBs.out HK80.out.lt)
        have HBW := Lib.hid (HBW.out.trans (HBs.out.mono HBW.out.size))
        have HX11 := Lib.hid (show TabArg W11 (.agg #[.slice A11 ZA.length a11, .slice B11 ZB.length b11]) ZA ZB from by rw [hW11]; exact HN.out.below (below1 _ _))
        have HK11 := Lib.hid (show Blk W11 q11 tTb #[.slice A11 ZA.length a11, .slice B11 ZB.length b11] from by rw [hW11, hq11]; exact Blk.new _ _ _)
        rw [← hW11, ← hq11]
        clear hW11 hq11 HN HBn HBs
        by_cases hl : Bs.length + Bs.length ≤ 8
        case neg =>
          obtain ⟨-, -, h3⟩ := isCmp_far HT.out HT.out hl HP.out
          subst h3
          clear hl
          go_wp2_with fail
          go_ret
          exact ⟨rfl, HBW.out⟩
        obtain ⟨hza, hzb, h3⟩ := isCmp_ok HT.out HT.out hl HP.out
        subst h3
        have HSB := Lib.hid (fun b c (h : IsSp ZA ZB b c) => sp_both HT.out hl hza hzb h)
        clear hl hza hzb HP
        go_upto_region 29 with fail
        have HC := Lib.hid (i_IsSymplectic W11 _ ZA ZB HX11.out)
        have c11a : W11.cell? ⟨q11, 0, none⟩ = some (.slice A11 ZA.length a11) := HK11.out.cell 0
        have c11b : W11.cell? ⟨q11, 1, none⟩ = some (.slice B11 ZB.length b11) := HK11.out.cell 1
        go_upto_region 30 with (go_at_call 36; go_loud (refine HC.out.mono ?_; rintro e w12 ⟨b5, c5, rfl, hsp, hb⟩; obtain ⟨h1, h2⟩ := HSB.out b5 c5 hsp; subst h1; clear hsp h2; have HBs := Lib.hid (hb); clear hb))
        clear HC
        clear c11a c11b
        have HX80 := Lib.hid (HX80.out.below HBs.out)
        have HK80 := Lib.hid (HK80.out.below HBs.out HK80.out.lt)
        have HX11 := Lib.hid (HX11.out.below HBs.out)
        have HK11 := Lib.hid (HK11.out.below HBs.out HK11.out.lt)
        have HBW := Lib.hid (HBW.out.trans (HBs.out.mono HBW.out.size))
        clear HBs
        go_wp2_with fail
        all_goals
          go_ret
          exact ⟨by first | rfl | simp, HBW.out⟩
      · skip
        exact absurd HXX.out (by decide)
      · skip
        clear HXX
        go_upto_region 26 with fail
        have HC := Lib.hid (i_ComposeTableaus w10 _ _ X Bs X Bs HX80.out HX80.out)
        have c80a : w10.cell? ⟨qx, 0, none⟩ = some (.slice (some ad0) X.length ca) := HK80.out.cell 0
        have c80b : w10.cell? ⟨qx, 1, none⟩ = some (.slice (some ad3) Bs.length cb) := HK80.out.cell 1
        go_upto_region 27 with (go_at_call 41; go_loud (refine HC.out.mono ?_; rintro e w11 ⟨ZA, ZB, v, e11, rfl, hrep, ho, hb⟩; have HP := Lib.hid hrep; obtain ⟨A11, a11, B11, b11, rfl⟩ := ho.open_; have HN := Lib.hid ho.arg; have HBn := Lib.hid hb; clear hrep ho hb))
        clear HC
        clear c80a c80b
        obtain ⟨q11, hq11⟩ : ∃ q11, q11 = w11.heap.size := ⟨_, rfl⟩
        obtain ⟨W11, hW11⟩ : ∃ W11, W11 = w11.alloc (.cells #[.slice A11 ZA.length a11, .slice B11 ZB.length b11] tTb) := ⟨_, rfl⟩
        have HBs := Lib.hid (show Below w10.heap.size w10 W11 from by rw [hW11]; exact HBn.out.trans ((below1 w11 _).mono HBn.out.size))
        have HX80 := Lib.hid (HX80.out.below HBs.out)
        have HK80 := Lib.hid (HK80.out.below HBs.out HK80.out.lt)
        have HBW := Lib.hid (HBW.out.trans (HBs.out.mono HBW.out.size))
        have HX11 := Lib.hid (show TabArg W11 (.agg #[.slice A11 ZA.length a11, .slice B11 ZB.length b11]) ZA ZB from by rw [hW11]; exact HN.out.below (below1 _ _))
        have HK11 := Lib.hid (show Blk W11 q11 tTb #[.slice A11 ZA.length a11, .slice B11 ZB.length b11] from by rw [hW11, hq11]; exact Blk.new _ _ _)
        rw [← hW11, ← hq11]
        clear hW11 hq11 HN HBn HBs
        by_cases hl : Bs.length + Bs.length ≤ 8
        case neg =>
          obtain ⟨-, -, h3⟩ := isCmp_far HT.out HT.out hl HP.out
          subst h3
          clear hl
          go_wp2_with fail
          go_ret
          exact ⟨rfl, HBW.out⟩
        obtain ⟨hza, hzb, h3⟩ := isCmp_ok HT.out HT.out hl HP.out
        subst h3
        have HSB := Lib.hid (fun b c (h : IsSp ZA ZB b c) => sp_both HT.out hl hza hzb h)
        clear hl hza hzb HP
        go_upto_region 29 with fail
        have HC := Lib.hid (i_IsSymplectic W11 _ ZA ZB HX11.out)
        have c11a : W11.cell? ⟨q11, 0, none⟩ = some (.slice A11 ZA.length a11) := HK11.out.cell 0
        have c11b : W11.cell? ⟨q11, 1, none⟩ = some (.slice B11 ZB.length b11) := HK11.out.cell 1
        go_upto_region 30 with (go_at_call 36; go_loud (refine HC.out.mono ?_; rintro e w12 ⟨b5, c5, rfl, hsp, hb⟩; obtain ⟨h1, h2⟩ := HSB.out b5 c5 hsp; subst h1; clear hsp h2; have HBs := Lib.hid (hb); clear hb))
        clear HC
        clear c11a c11b
        have HX80 := Lib.hid (HX80.out.below HBs.out)
        have HK80 := Lib.hid (HK80.out.below HBs.out HK80.out.lt)
        have HX11 := Lib.hid (HX11.out.below HBs.out)
        have HK11 := Lib.hid (HK11.out.below HBs.out HK11.out.lt)
        have HBW := Lib.hid (HBW.out.trans (HBs.out.mono HBW.out.size))
        clear HBs
        go_wp2_with fail
        all_goals
          go_ret
          exact ⟨by first | rfl | simp, HBW.out⟩
end Go.Proofs.YtofabikjjkapmaaGreat

set_option maxRecDepth 100000
set_option linter.unusedVariables false
set_option linter.unusedSimpArgs false
namespace Go.Proofs.YtofabikjjkapmaaGreat
open Go.ChangeShapes Go.WideShapes Go.ChangeAt Go.RowKit

end Go.Proofs.YtofabikjjkapmaaGreat

set_option maxRecDepth 100000
set_option linter.unusedVariables false
set_option linter.unusedSimpArgs false
namespace Go.Proofs.YtofabikjjkapmaaGreat
open Go.ChangeShapes Go.WideShapes Go.ChangeAt Go.RowKit

theorem u8_of_wf {z : Int} (h : (Lit.int .u8 z).wf = true) : 0 ≤ z ∧ z ≤ 255 := by
  simp [Lit.wf, IntKind.min, IntKind.max, IntKind.signed, IntKind.bits] at h
  omega
theorem open_bytes {H : Type} {enc : TypeId × Value → H} {W : World} {base : Nat} {v : Value} {d : DataW H} {p : List MemPlace}
    (hv : Value.okWide Tryz.prog W .any base 22 v) (h : DataW.Trod enc Tryz.prog W 0 (fun _ => true) true 22 v d p) : ∃ n, Bts W v n := by
  obtain ⟨a, len, cap, rfl⟩ := okWide_slice Tryz.underlying22 hv
  obtain ⟨fuel, hf⟩ := h
  rcases open_ints Tryz.underlying22 Tryz.underlying5 (by kernel_rfl) hf with ⟨hcs, _⟩ | ⟨x, l, c, zs, hcs, _, hl, hm, hz, _, hcell, hwz⟩
  · simp [Value.cells] at hcs
    obtain ⟨rfl, rfl, rfl⟩ := hcs
    exact ⟨0, none, 0, rfl, fun k hk => by omega⟩
  · simp [Value.cells] at hcs
    obtain ⟨rfl, rfl, rfl⟩ := hcs
    have hz' : zs.length = cap := by simpa using hz
    refine ⟨len, some x, cap, rfl, fun k hk => ?_⟩
    have hk2 : k < zs.length := by omega
    have hc := hcell k (by omega)
    have hw := u8_of_wf (hwz _ (List.getElem_mem hk2))
    have e : zs.getD k 0 = zs[k] := by simp [List.getD, hk2]
    rw [e] at hc
    have hb := World.block_lt_of_cell? W _ hc
    rw [block_add] at hb
    exact ⟨x, zs[k], rfl, hb, hb, hw.1, hw.2, hc⟩
end Go.Proofs.YtofabikjjkapmaaGreat

