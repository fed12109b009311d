import Derived.Test.YtofabikjjkapmaaGreatSm33
import Derived.Test.YtofabikjjkapmaaGreatSm34
import Derived.Test.YtofabikjjkapmaaGreatSm42
import Derived.Test.YtofabikjjkapmaaGreatSm35
import Derived.Test.YtofabikjjkapmaaGreatSm29
import Derived.Test.YtofabikjjkapmaaGreatSm30
import Derived.Test.YtofabikjjkapmaaGreatRows
import Derived.Test.YtofabikjjkapmaaGreatSm2
import Derived.Lib.AppendZerosOnto
import Derived.Test.YtofabikjjkapmaaGreatSm31
import Derived.Deep.RegionHeld3
import Derived.Test.YtofabikjjkapmaaGreatSm3
import Derived.Test.YtofabikjjkapmaaGreatSm11
import Derived.Test.YtofabikjjkapmaaGreatSm24
import Derived.Test.YtofabikjjkapmaaGreatSm1
import Derived.WalkLawsBesides
import Derived.Lib.AppendZeros
import Derived.Test.YtofabikjjkapmaaGreatSm5
import Derived.BigGuardPart
import Derived.Deep.QuietTactic
import Derived.BigQuiet
import Derived.Test.YtofabikjjkapmaaGreatSm21
import Derived.Test.YtofabikjjkapmaaGreatSm20
import Derived.Test.YtofabikjjkapmaaGreatSm6
set_option maxRecDepth 100000
set_option linter.unusedVariables false
set_option linter.unusedSimpArgs false
namespace Go.Proofs.YtofabikjjkapmaaGreat
open Go.RowKit
theorem src_kept {w w' : World} {B p g n cap : Nat} {zs : List Int} {C : Nat} (hs : Src w B tSc p) (ho : OwnInts w C tI (.slice (some ⟨g, 0, none⟩) n cap) zs) (hg : w.grownBy w' (some g)) (hC : p < C) : Src w' B tSc p :=
 hs.kept hg (fun e => by injection e with e; have := ho.1.ge g rfl; omega) (by rintro b ⟨⟩; have := hs.ge; have := ho.1.ge g rfl; omega)
set_option maxHeartbeats 16000000 in
theorem s_l12Symplectic (w : World) (B p : Nat) (h : Src w B tSc p) :
  Calls Tryz.prog 113 #[at0 p] w fun e w' => ∃ x, e = .returned x /\ ∃ us, OwnInts w' w.heap.size tI x us /\ Nl 38 us /\ w.grownBy w' (some p) /\ Src w' B tSc p := by
 have hpl := h.lt
 have HNX := Lib.hid (s_l01Next w B p 3 h (by omega) (by omega))
 clear h
 go_enter Tryz.func113, Tryz.ntmps113
 go_upto_if 7 with (go_at_call 111; go_loud (refine HNX.out.mono ?_; rintro e w1 ⟨x, rfl, x0, x1, hg, hs⟩; have HG1 := Lib.hid hg; have HS1 := Lib.hid hs; clear hg hs x0 x1))
 generalize (x == 0) = cc at *
 cases cc with
 | true =>
  go_wp2_with (first
   | (go_at_call 149; go_loud (refine (s_l12Diagonal w1 B p 3 HS1.out (by omega) (by omega)).mono ?_; rintro e w2 ⟨v, n, rfl, hd, hn1, hn8, hg, hs⟩; obtain ⟨A, Bs, hot, hsq, hnl⟩ := hd; obtain ⟨Aa, ca, Ab, cb, rfl⟩ := hot.arg.open_; have HTA := Lib.hid hot.arg; have HSQ := Lib.hid hsq; have HNL := Lib.hid hnl; have HG2 := Lib.hid (gtrans HG1.out hg); have HS2 := Lib.hid hs; clear hot hsq hnl hg hs))
   | (go_at_call 168; go_loud (refine (s_l09CharacterE w2 _ HTA.out HSQ.out HNL.out hn1 hn8).mono ?_; rintro e w3 ⟨x3, rfl, us, ho3, hn3, hb3⟩; have HO3 := Lib.hid ho3; have HN3 := Lib.hid hn3; have HB3 := Lib.hid hb3; clear ho3 hn3 hb3)))
  go_ret
  exact ⟨_, rfl, us, HO3.out.mono HG2.out.size, HN3.out, gtrans HG2.out (gof HB3.out), HS2.out.below HB3.out⟩
 | false =>
  go_upto_if 15 with (first
   | (go_at_call 125; go_loud (refine (s_l01List w1 B p 10 HS1.out (by omega)).mono ?_; rintro e w2 ⟨x2, rfl, zs, ho, lz, nz, hg, hs⟩; obtain ⟨g, cap, hxe, hgg⟩ := own_some1 ho (by omega); rw [lz] at hxe; subst hxe; have HO2 := Lib.hid (ho.mono HG1.out.size); have HN2 := Lib.hid (show Nl 10 zs from ⟨lz, nz⟩); have HG2 := Lib.hid (gtrans HG1.out hg); have HS2 := Lib.hid hs; clear ho lz nz hg hs))
   | (go_at_call 111; go_loud (refine (s_l01Next w2 B p 2 HS2.out (by omega) (by omega)).mono ?_; rintro e w3 ⟨y, rfl, y0, y1, hg, hs⟩; have HO3 := Lib.hid (show OwnInts w3 w.heap.size tI (.slice (some ⟨g, 0, none⟩) 10 cap) zs from ⟨HO2.out.1.src hpl hg, HO2.out.2⟩); have HG3 := Lib.hid (gtrans HG2.out hg); have HS3 := Lib.hid hs; clear hg hs y0 y1)))
  generalize (y == 0) = cc at *
  clear HO2 HG2 HS2
  cases cc with
  | false =>
   have HMK := Lib.hid (fun (X : World) (hX : Ints X (.slice (some ⟨g, 0, none⟩) 10 cap) zs) => s_l12Make X _ zs hX HN2.out.1 (nums_iff.2 HN2.out.2))
   have HMN := Lib.hid (hamZ_nums HN2.out.2)
   go_wp2_with (first
    | (go_at_call 170; go_loud (refine (s_l07Cuts w3).mono ?_; rintro e w7 ⟨x7, rfl, hc7, hb7⟩; have HC7 := Lib.hid hc7; have HB7 := Lib.hid hb7; have HO7 := Lib.hid (HO3.out.below hb7); clear hc7 hb7))
    | (go_at_call 171; go_loud (refine (HMK.out w7 HO7.out.ints).mono ?_; rintro e w8 ⟨x8, rfl, ho8, hb8⟩; have HO8 := Lib.hid ho8; have HC8 := Lib.hid (HC7.out.below hb8); have HB8 := Lib.hid (HB7.out.trans (hb8.mono HB7.out.size)); clear ho8 hb8))
    | (go_at_call 169; go_loud (refine (s_l08Exp w8 _ _ _ (hamZ zs) HC8.out HO8.out.ints (hamZ_len _) HMN.out).mono ?_; rintro e w9 ⟨x9, rfl, us9, ho9, hn9, hb9⟩; have HO9 := Lib.hid ho9; have HN9 := Lib.hid hn9; have HB9 := Lib.hid (HB8.out.trans (hb9.mono HB8.out.size)); have HSZ8 := Lib.hid (show w3.heap.size <= w8.heap.size from HB8.out.size); clear ho9 hn9 hb9)))
   go_ret
   exact ⟨_, rfl, us9, HO9.out.mono (Nat.le_trans HG3.out.size HSZ8.out), HN9.out, gtrans HG3.out (gof HB9.out), HS3.out.below HB9.out⟩
  | true =>
   obtain ⟨u0, -, hc, hfz, -, -, hst, hgw⟩ := Own.storeAt HO3.out.1 (k := 0) (by rw [ints_len, HN2.out.1]; omega) (.int .i64 1)
   obtain ⟨W4, hW4⟩ : ∃ W4, W4 = w3.setCell ⟨g, 0, none⟩ (.int .i64 1) := ⟨_, rfl⟩
   have HO4 := Lib.hid (show OwnInts W4 w.heap.size tI (.slice (some ⟨g, 0, none⟩) 10 cap) (zs.set 0 1) from ⟨by rw [hW4]; have h := hst; rw [ints_setE] at h; exact h, fun y hy => by
    rcases List.mem_or_eq_of_mem_set hy with hy | rfl
    · exact HO3.out.2 y hy
    · unfold In64; omega⟩)
   have HN4 := Lib.hid (nl_setE (k := 0) (z := 1) HN2.out (by omega))
   have HG4 := Lib.hid (show w.grownBy W4 (some p) from by rw [hW4]; exact gthen HG3.out hgw (by rintro b ⟨⟩; have := HO3.out.1.ge g rfl; omega))
   have HS4 := Lib.hid (show Src W4 B tSc p from by rw [hW4]; exact src_kept HS3.out HO3.out hgw hpl)
   go_upto_region 7 with fail
   rw [<- hW4]
   clear hW4 hst hgw hc hfz HO3 HN2 HG3 HS3
   go_loopw [4] (fun y wr => ∃ (k : Nat) (ys : List Int), 1 <= k /\ k <= 10 /\ y = .int .i64 k /\ OwnInts wr w.heap.size tI (.slice (some ⟨g, 0, none⟩) 10 cap) ys /\ Hid (Nl 10 ys) /\ w.grownBy wr (some p) /\ Src wr B tSc p) (fun y _ => 10 - (intOf y).toNat)
   case atStart => exact ⟨1, _, by omega, by omega, rfl, HO4.out, HN4.out, HG4.out, HS4.out⟩
   case round =>
    obtain ⟨k, ys, hk1, hk, rfl, ho, HN, hg, hs⟩ := hrel
    rename World => wq
    clear HO4 HN4 HG4 HS4
    have HO := Lib.hid ho
    have HG := Lib.hid hg
    have HS := Lib.hid hs
    clear ho hg hs
    by_cases hlt : k < 10
    · have hki : (k : Int) < 10 := by omega
      have hkd : decide ((k : Int) < 10) = true := decide_eq_true hki
      go_upto_if 26 with (go_at_call 111; go_loud (refine (s_l01Next wq B p 4 HS.out (by omega) (by omega)).mono ?_; rintro e w5 ⟨x, rfl, x0, x1, hg, hs⟩; have HO5 := Lib.hid (show OwnInts w5 w.heap.size tI (.slice (some ⟨g, 0, none⟩) 10 cap) ys from ⟨HO.out.1.src hpl hg, HO.out.2⟩); have HG5 := Lib.hid (gtrans HG.out hg); have HS5 := Lib.hid hs; clear hg hs x0 x1))
      clear HO HG HS
      generalize (decide (0 < x)) = cc at *
      cases cc with
      | false =>
       have HMK := Lib.hid (fun (X : World) (hX : Ints X (.slice (some ⟨g, 0, none⟩) 10 cap) ys) => s_l12Make X _ ys hX HN.out.1 (nums_iff.2 HN.out.2))
       have HMN := Lib.hid (hamZ_nums HN.out.2)
       go_wp2_with (first
        | (go_at_call 170; go_loud (refine (s_l07Cuts w5).mono ?_; rintro e w7 ⟨x7, rfl, hc7, hb7⟩; have HC7 := Lib.hid hc7; have HB7 := Lib.hid hb7; have HO7 := Lib.hid (HO5.out.below hb7); clear hc7 hb7))
        | (go_at_call 171; go_loud (refine (HMK.out w7 HO7.out.ints).mono ?_; rintro e w8 ⟨x8, rfl, ho8, hb8⟩; have HO8 := Lib.hid ho8; have HC8 := Lib.hid (HC7.out.below hb8); have HB8 := Lib.hid (HB7.out.trans (hb8.mono HB7.out.size)); clear ho8 hb8))
        | (go_at_call 169; go_loud (refine (s_l08Exp w8 _ _ _ (hamZ ys) HC8.out HO8.out.ints (hamZ_len _) HMN.out).mono ?_; rintro e w9 ⟨x9, rfl, us9, ho9, hn9, hb9⟩; have HO9 := Lib.hid ho9; have HN9 := Lib.hid hn9; have HB9 := Lib.hid (HB8.out.trans (hb9.mono HB8.out.size)); have HSZ8 := Lib.hid (show w5.heap.size <= w8.heap.size from HB8.out.size); clear ho9 hn9 hb9)))
       go_ret
       exact ⟨_, rfl, us9, HO9.out.mono (Nat.le_trans HG5.out.size HSZ8.out), HN9.out, gtrans HG5.out (gof HB9.out), HS5.out.below HB9.out⟩
      | true =>
       obtain ⟨u0, -, hc, hfz, -, -, hst, hgw⟩ := Own.storeAt HO5.out.1 (k := k) (by rw [ints_len, HN.out.1]; exact hlt) (.int .i64 0)
       have HO6 := Lib.hid (show OwnInts (w5.setCell ⟨g, k, none⟩ (.int .i64 0)) w.heap.size tI (.slice (some ⟨g, 0, none⟩) 10 cap) (ys.set k 0) from ⟨by have h := hst; rw [ints_setE] at h; exact h, fun y hy => by
        rcases List.mem_or_eq_of_mem_set hy with hy | rfl
        · exact HO5.out.2 y hy
        · unfold In64; omega⟩)
       have HN6 := Lib.hid (nl_setE (k := k) (z := 0) HN.out (by omega))
       have HG6 := Lib.hid (gthen HG5.out hgw (by rintro b ⟨⟩; have := HO5.out.1.ge g rfl; omega))
       have HS6 := Lib.hid (src_kept HS5.out HO5.out hgw hpl)
       clear hst hgw
       go_wp2_with fail
       go_roundw
       case rel => exact ⟨k + 1, _, by omega, by omega, by go_num, HO6.out, HN6.out, HG6.out, HS6.out⟩
       case measure => simp [intOf]; omega
    · have hk10 : k = 10 := by omega
      subst hk10
      have HMK := Lib.hid (fun (X : World) (hX : Ints X (.slice (some ⟨g, 0, none⟩) 10 cap) ys) => s_l12Make X _ ys hX HN.out.1 (nums_iff.2 HN.out.2))
      have HMN := Lib.hid (hamZ_nums HN.out.2)
      go_wp2_with (first
       | (go_at_call 170; go_loud (refine (s_l07Cuts wq).mono ?_; rintro e w7 ⟨x7, rfl, hc7, hb7⟩; have HC7 := Lib.hid hc7; have HB7 := Lib.hid hb7; have HO7 := Lib.hid (HO.out.below hb7); clear hc7 hb7))
       | (go_at_call 171; go_loud (refine (HMK.out w7 HO7.out.ints).mono ?_; rintro e w8 ⟨x8, rfl, ho8, hb8⟩; have HO8 := Lib.hid ho8; have HC8 := Lib.hid (HC7.out.below hb8); have HB8 := Lib.hid (HB7.out.trans (hb8.mono HB7.out.size)); clear ho8 hb8))
       | (go_at_call 169; go_loud (refine (s_l08Exp w8 _ _ _ (hamZ ys) HC8.out HO8.out.ints (hamZ_len _) HMN.out).mono ?_; rintro e w9 ⟨x9, rfl, us9, ho9, hn9, hb9⟩; have HO9 := Lib.hid ho9; have HN9 := Lib.hid hn9; have HB9 := Lib.hid (HB8.out.trans (hb9.mono HB8.out.size)); have HSZ8 := Lib.hid (show wq.heap.size <= w8.heap.size from HB8.out.size); clear ho9 hn9 hb9)))
      go_ret
      exact ⟨_, rfl, us9, HO9.out.mono (Nat.le_trans HG.out.size HSZ8.out), HN9.out, gtrans HG.out (gof HB9.out), HS.out.below HB9.out⟩
set_option maxHeartbeats 4000000 in
theorem s_DrawSymplecticTo (w : World) (A : Option Addr) (N c : Nat) (hb : ByB w w.heap.size A N) (hN : N <= 4096) :
  Calls Tryz.prog 54 #[.slice A N c] w fun e w' => ∃ x, e = .returned x /\ ∃ zs, Ints w' x zs /\ Below w.heap.size w w' := by
 have HFR := Lib.hid (s_l01From w A N c hb hN)
 clear hb
 go_enter Tryz.func54, Tryz.ntmps54
 go_upto_if 9 with (first
  | (go_at_call 68; go_loud (refine HFR.out.mono ?_; rintro e w1 ⟨p, rfl, hs1, hb1⟩; have HS1 := Lib.hid hs1; have HB1 := Lib.hid hb1; have hpl := hs1.lt; have hpg := hs1.ge; clear hs1 hb1))
  | (go_at_call 111; go_loud (refine (s_l01Next _ _ p 3 HS1.out (by omega) (by omega)).mono ?_; rintro e w2 ⟨x, rfl, x0, x1, hg, hs⟩; have HG2 := Lib.hid hg; have HS2 := Lib.hid hs; clear hg hs x0 x1)))
 have hpl2 : p < w2.heap.size := HS2.out.lt
 clear HS1
 by_cases hx : x = 0
 · have hd0 : (x == 0) = true := by simp [hx]
   rw [hd0]
   clear hx hd0
   go_wp2_with (go_at_call 112; go_loud (refine (s_l07DrawAny _ _ p HS2.out).mono ?_; rintro e w3 ⟨g, d, n, m, rfl, hd, hg, hs⟩; have HD3 := Lib.hid hd; have HG3 := Lib.hid (gtrans HG2.out hg); clear hd hg hs))
   go_ret
   obtain ⟨zs, hz⟩ := HD3.out.readable
   exact ⟨_, rfl, zs, hz, HB1.out.grown HG3.out HB1.out.size (fun k e => by injection e with e; omega)⟩
 · have hd0 : (x == 0) = false := by simp [hx]
   rw [hd0]
   clear hx hd0
   go_upto_if 16 with (first
    | (go_at_call 113; go_loud (refine (s_l12Symplectic w2 _ p HS2.out).mono ?_; rintro e w4 ⟨x4, rfl, us, ho, hn, hg, hs⟩; obtain ⟨g, cap, rfl, hm⟩ := M38.of ho hn.1 hn.2; have HM4 := Lib.hid hm; have HG4 := Lib.hid (gtrans HG2.out hg); have HS4 := Lib.hid hs; have hgw : w2.heap.size <= g := hm.ge; clear ho hn hg hs hm))
    | (go_at_call 111; go_loud (refine (s_l01Next _ _ p 2 HS4.out (by omega) (by omega)).mono ?_; rintro e w5 ⟨y, rfl, y0, y1, hg, hs⟩; have HG5 := Lib.hid (gtrans HG4.out hg); have HS5 := Lib.hid hs; have HM5 := Lib.hid (HM4.out.src hpl2 hg); clear hg hs y0 y1)))
   have hgp : g ≠ p := by omega
   have hwg : w1.heap.size <= g := Nat.le_trans HG2.out.size hgw
   by_cases hy : y = 0
   · have hd0 : (y == 0) = true := by simp [hy]
     rw [hd0]
     clear hy hd0
     go_wp2_with (first
      | (go_at_call 111; go_loud (refine (s_l01Next _ _ p 37 HS5.out (by omega) (by omega)).mono ?_; rintro e w6 ⟨y, rfl, y0, y1, hg, hs⟩; obtain ⟨k, rfl⟩ : ∃ k : Nat, y = k := ⟨y.toNat, by omega⟩; have hk37 : k < 37 := (by omega); have hwk : wrap64 (1 + (k : Int)) = 1 + (k : Int) := w64_dr _ (by omega); have hkc : 1 + (k : Int) < 38 := (by omega); have hkd : (1 + (k : Int)).toNat = 1 + k := (by omega); have HG6 := Lib.hid (gtrans HG5.out hg); have HS6 := Lib.hid hs; have HM6 := Lib.hid (HM5.out.src hpl2 hg); clear hg hs y0 y1))
      | (go_at_call 114; go_loud (refine (s_l01Number _ _ p HS6.out).mono ?_; rintro e w7 ⟨z, rfl, hz, hg, hs⟩; have HG7 := Lib.hid (gtrans HG6.out hg); have HM7 := Lib.hid (HM6.out.src hpl2 hg); obtain ⟨⟨u1, hu1⟩, hfr1, ho11, hg11⟩ := HM7.out.set_ (k := 1 + k) (by omega) hz; have HM8 := Lib.hid ho11; have HG8 := Lib.hid (gthen HG7.out hg11 (by rintro b ⟨⟩; exact hwg)); clear hg hs hz ho11 hg11)))
     go_ret
     obtain ⟨zs, hz⟩ := HM8.out.dr.readable
     exact ⟨_, rfl, zs, hz, HB1.out.grown HG8.out HB1.out.size (fun k e => by injection e with e; omega)⟩
   · have hd0 : (y == 0) = false := by simp [hy]
     rw [hd0]
     clear hy hd0
     go_wp2_with fail
     go_ret
     obtain ⟨zs, hz⟩ := HM5.out.dr.readable
     exact ⟨_, rfl, zs, hz, HB1.out.grown HG5.out HB1.out.size (fun k e => by injection e with e; omega)⟩
set_option maxHeartbeats 1000000 in
theorem s_DrawReducedOrder (w : World) (A : Option Addr) (N c : Nat) (hb : ByB w w.heap.size A N) (hN : N <= 4096) :
  Calls Tryz.prog 16 #[.slice A N c] w fun e w' => ∃ x, e = .returned x /\ ∃ zs, Ints w' x zs /\ Below w.heap.size w w' := by
 have HFR := Lib.hid (s_DrawSymplecticTo w A N c hb hN)
 clear hb
 go_enter Tryz.func16, Tryz.ntmps16
 go_wp2_with (go_at_call 54; refine HFR.out.mono ?_; rintro e w1 ⟨x, rfl, zs, hz, hb1⟩; have HZ := Lib.hid hz; have HB1 := Lib.hid hb1; clear hz hb1)
 go_ret
 exact ⟨_, rfl, zs, HZ.out, HB1.out⟩
set_option maxHeartbeats 8000000 in
theorem s_ReducedOrder (w : World) (v : Value) (a : List Int) (ha : Ints w v a) :
  Calls Tryz.prog 18 #[v] w fun e w' => e = .returned (.tuple #[.int .i64 (rdoR a), .int .i64 (chrC a)]) /\ Below w.heap.size w w' := by
 have HA := Lib.hid ha
 have HCH := Lib.hid (s_l07Code1 w v a ha)
 obtain ⟨A, c, rfl, -, -, -⟩ := ha.open_
 clear ha
 by_cases hc : chrC a = 0
 · rw [hc] at HCH
   obtain ⟨hm, ha0⟩ := chr_of' hc
   have hmt := mapB_true hm
   have hl := hmt.1
   have HN := Lib.hid (show Nums a from hmt.2)
   rw [hl] at HA HCH ⊢
   have HR := Lib.hid (show rdoR a = rdV a from by rw [rdoR, if_pos hc])
   have HC := Lib.hid hc
   clear hc hm ha0 hmt hl
   go_enter Tryz.func18, Tryz.ntmps18
   go_wp2_with (first
    | (go_at_call 60; refine HCH.out.mono ?_; rintro e w0 ⟨rfl, rfl⟩)
    | (go_at_call 61; go_loud (refine (s_l03All _ 6 (by omega)).mono ?_; rintro e w1 ⟨x1, rfl, hx1, hb1⟩; rw [show allG treesN 6 = T6n from rfl] at hx1; obtain ⟨A1, c1, he1, -, -, -⟩ := hx1.rows.open_; rw [List.length_map, T6n_len] at he1; subst he1; have HX1 := Lib.hid hx1.rows; have HB1 := Lib.hid hb1; clear hx1 hb1))
    | (go_at_call 62; go_loud (refine (s_l07Exact _).mono ?_; rintro e w2 ⟨x2, rfl, ho2, hb2⟩; obtain ⟨A2, c2, he2, -, -, -⟩ := ho2.ints.open_; rw [EX_len] at he2; subst he2; have HO2 := Lib.hid ho2.ints; have HB12 := Lib.hid hb2; have HB2 := Lib.hid (HB1.out.trans (hb2.mono HB1.out.size)); clear ho2 hb2))
    | (go_at_call 63; go_loud (refine (s_l12All _).mono ?_; rintro e w3 ⟨x3, rfl, hl3, hb3⟩; rw [CD_eq] at hl3; obtain ⟨A3, c3, he3, -, -, -⟩ := hl3.rows.open_; rw [List.length_map, show CD.length = 10 from rfl] at he3; subst he3; have HL3 := Lib.hid hl3.rows; have HB23 := Lib.hid hb3; have HB3 := Lib.hid (HB2.out.trans (hb3.mono HB2.out.size)); clear hl3 hb3)))
   have HX3 := Lib.hid ((HX1.out.below HB12.out).below HB23.out)
   have HO3 := Lib.hid (HO2.out.below HB23.out)
   have HA3 := Lib.hid (HA.out.below HB3.out)
   go_loopw [8] (fun x wr => ∃ k : Nat, k <= 10 /\ x = .int .i64 k /\ Hid (∀ i t', i < k -> CD[i]? = some t' -> cdV a t' = ((exV t' : Nat) : Int)) /\ Below w3.heap.size w3 wr) (fun x _ => 10 - (intOf x).toNat)
   case atStart => exact ⟨0, Nat.zero_le _, rfl, fun i t h => by omega, Below.refl _ _⟩
   case round =>
    obtain ⟨k, hk, rfl, hI, hb⟩ := hrel
    have HB := Lib.hid hb
    clear hb
    by_cases hlt : k < 10
    · obtain ⟨ad, At, ct, t, rfl, ht, hti, hcr⟩ := (HL3.out.below HB.out).cond hlt
      obtain ⟨p, hp1, hpf, hp7, hpt, ht6, ht1, htl⟩ := CD_at (List.mem_of_getElem? ht)
      obtain ⟨a1, he, hcx, hx0, hx1⟩ := map_cell ((HA3.out.below HB.out)) HN.out (k := p + 1) (by omega)
      subst he
      obtain ⟨A', c', he, -, -, g2⟩ := (HO3.out.below HB.out).open_
      rw [EX_len] at he g2
      simp only [Value.slice.injEq, true_and] at he
      obtain ⟨rfl, rfl⟩ := he
      obtain ⟨a2, y, rfl, hy, -, hcy⟩ := g2 (p + 1) (by omega)
      rw [EX_succ hpt] at hy
      injection hy with hy
      subst hy
      have hcv : cdV a t = a.getD (p + 1) 0 := by unfold cdV; rw [hp1]
      obtain ⟨p1, hep⟩ : ∃ p1 : Nat, p1 = p + 1 := ⟨_, rfl⟩
      rw [<- hep] at hcx hcv hcy
      generalize a.getD p1 0 = z at *
      have hpl : (p1 : Int) < 38 := by omega
      have hpl2 : p1 < 38 := by omega
      have HF := Lib.hid (fun W x y (h1 : Rows W x (T6n.map up)) (h2 : Ints W y (up t)) => show Calls Tryz.prog 64 #[x, y] W fun e w' => e = .returned (.int .i64 (p : Nat)) /\ ∃ n, w' = W.drewN n from by
       have h := s_l03Find W x y T6n t h1 h2 (by rw [T6n_len]; omega)
       rw [hpf, show (((p + 1 : Nat) : Int) - 1) = (p : Int) from by omega] at h
       exact h)
      have hwp : wrap64 ((p : Int) + 1) = (p1 : Int) := by rw [hep]; unfold wrap64; omega
      have HXR := Lib.hid (HX3.out.below HB.out)
      have HTI := Lib.hid hti
      have HT := Lib.hid ht
      have HCV := Lib.hid hcv
      have HCX := Lib.hid hcx
      have HCY := Lib.hid hcy
      have HCR := Lib.hid hcr
      have hkk : (k : Int) < 10 := by omega
      clear ht hp1 hpf hp7 hpt htl hep hti hcx hcy hcv g2
      go_upto_region 9 with (go_at_call 64; refine (HF.out _ _ _ HXR.out HTI.out).mono ?_; rintro e w5 ⟨rfl, n5, rfl⟩)
      obtain ⟨wz, hwz⟩ : ∃ wz, wz = wr.drewN n5 := ⟨_, rfl⟩
      have HBZ := Lib.hid (show Below wr.heap.size wr wz from by rw [hwz]; exact below_drewN (Below.refl _ _) _)
      rw [<- hwz]
      clear hwz hcr
      have hcx := keepCell HBZ.out HCX.out
      have hcy := keepCell HBZ.out HCY.out
      have hcr := keepCell HBZ.out HCR.out
      by_cases hzz : z = ((exV t : Nat) : Int)
      · have hne1 : (z != ((exV t : Nat) : Int)) = false := by simp [hzz]
        have HI2 := Lib.hid (show ∀ i t', i < k + 1 -> CD[i]? = some t' -> cdV a t' = ((exV t' : Nat) : Int) from fun i t' hi ht' => by
         by_cases e : i = k
         · subst e
           rw [HT.out] at ht'
           injection ht' with ht'
           subst ht'
           rw [HCV.out]
           exact hzz
         · exact hI i t' (by omega) ht')
        clear hzz hI
        go_quiet (fail)
        go_wp2_with fail
        go_roundw
        case rel => exact ⟨k + 1, by omega, by go_num, HI2.out, HB.out.trans ((below_drewN HBZ.out _).mono HB.out.size)⟩
        case measure => simp [intOf]; omega
      · have hne1 : (z != ((exV t : Nat) : Int)) = true := by simp [hzz]
        have HZ := Lib.hid (rdV_hit hI HT.out (by rw [HCV.out]; exact hzz))
        clear hzz hI
        go_quiet (fail)
        go_wp2_with fail
        go_ret2
        rw [HR.out, HC.out, HZ.out]
        exact ⟨rfl, (HB3.out.trans (HB.out.mono HB3.out.size)).trans ((below_drewN HBZ.out _).mono (Nat.le_trans HB3.out.size HB.out.size))⟩
    · have HZ := Lib.hid (rdV_miss (a := a) (fun i t' hi h => hI i t' (by omega) h))
      clear hI
      go_wp2_with fail
      go_ret2
      rw [HR.out, HC.out, HZ.out]
      exact ⟨rfl, HB3.out.trans (HB.out.mono HB3.out.size)⟩
 · have HR := Lib.hid (show rdoR a = 0 from by rw [rdoR, if_neg hc])
   have hd : (chrC a != 0) = true := by simp [hc]
   rw [HR.out]
   generalize chrC a = cc at *
   clear hc HR
   go_enter Tryz.func18, Tryz.ntmps18
   go_wp2_with (go_at_call 60; refine HCH.out.mono ?_; rintro e w0 ⟨rfl, rfl⟩)
   go_ret2
   exact ⟨rfl, Below.refl _ _⟩
structure IsTab (A : List (List Int)) (Bs : List Int) : Prop where
 lo : 1 <= Bs.length
 hi : Bs.length <= 8
 len : A.length = Bs.length
 row : ∀ zs ∈ A, zs.length = Bs.length /\ nums zs = true
 num : nums Bs = true
def Far (vs : List Value) (w w' : World) : Prop := ∀ b, b < w.heap.size -> (∀ (i : Nat) (u : Value), vs[i]? = some u -> u.ownBlock ≠ some b) -> w'.heap[b]? = w.heap[b]?
theorem map_cellG {w : World} {A : Option Addr} {n c : Nat} {a : List Int} (h : Ints w (.slice A n c) a) (hm : ∀ z ∈ a, 0 <= z /\ z <= 10006) {k : Nat} (hk : k < a.length) :
  ∃ ad, A = some ad /\ w.cell? (ad.add k) = some (.int .i64 (a.getD k 0)) /\ 0 <= a.getD k 0 /\ a.getD k 0 <= 10006 := by
 obtain ⟨A', c', he, -, -, h3⟩ := h.open_
 simp only [Value.slice.injEq] at he
 obtain ⟨rfl, hl, rfl⟩ := he
 obtain ⟨ad, z, rfl, hz, -, hc⟩ := h3 k (by omega)
 rw [ints_getD hz]
 exact ⟨ad, rfl, hc, hm z (List.mem_of_getElem? hz)⟩
set_option maxHeartbeats 2000000 in
theorem i_valueOfG (w : World) (va vp : Value) (a : List Int) (ps : List Nat) (h1 : Ints w va a) (l1 : a.length <= 38) (hN : Nums a) (h2 : Ints w vp (up ps)) (hp : ∀ p ∈ ps, p < a.length) :
  Calls Tryz.prog 103 #[va, vp] w fun e w' => e = .returned (.int .i64 (valZ a ps)) /\ w = w' := by
 obtain ⟨A, c, rfl, -, -, -⟩ := h1.open_
 have HA := Lib.hid h1
 have HN := Lib.hid hN
 have HP := Lib.hid hp
 have HL := Lib.hid l1
 obtain ⟨A2, c2, rfl, hc2, hc3, g2⟩ := h2.open_
 rw [up_len] at g2 hc2 ⊢
 have G2 := Lib.hid g2
 clear h1 h2 l1 hN hp g2
 go_enter Tryz.func103, Tryz.ntmps103
 go_wp2_with fail
 go_loop [5, 10] (fun x y => ∃ k : Nat, k <= ps.length /\ x = .int .i64 (valZ a (ps.take k)) /\ y = .int .i64 k) (fun _ y => ps.length - (intOf y).toNat)
 case atStart => exact ⟨0, Nat.zero_le _, rfl, rfl⟩
 case round =>
  obtain ⟨k, hk, rfl, rfl⟩ := hrel
  have hv := valZ_bd a (ps.take k)
  by_cases hlt : k < ps.length
  · obtain ⟨p, hpk⟩ : ∃ p, ps[k]? = some p := ⟨_, List.getElem?_eq_getElem hlt⟩
    have hp38 := HP.out p (List.mem_of_getElem? hpk)
    obtain ⟨a2, z, rfl, hz, -, hcz⟩ := G2.out k hlt
    have hze : z = (p : Int) := by
     unfold up at hz
     rw [List.getElem?_map, hpk] at hz
     injection hz with hz
     exact hz.symm
    subst hze
    obtain ⟨ad, rfl, hcx, hx0, hx1⟩ := map_cellG HA.out HN.out hp38
    have hpL : (p : Int) < (a.length : Int) := by omega
    have HV := Lib.hid (show valZ a (ps.take (k + 1)) = valZ a (ps.take k) * a.getD p 0 % 10007 from by rw [List.take_add_one, hpk]; exact valZ_snoc a _ p)
    generalize a.getD p 0 = y at *
    generalize valZ a (ps.take k) = s at *
    obtain ⟨p1, p2⟩ := mul_bd 10006 10006 hv.1 hv.2 hx0 hx1
    have hkk : (k : Int) < (ps.length : Int) := by omega
    have hpp : (p : Int) < 38 := by have := HL.out; omega
    clear hz hpk
    go_wp2_with (go_at_call 56; refine (i_num _ _ (by omega) (by omega)).mono ?_; rintro e w' ⟨rfl, rfl⟩)
    go_roundw
    case rel => exact ⟨k + 1, by omega, by rw [HV.out], by go_num⟩
    case measure => simp [intOf]; omega
  · have hkl : ps.take k = ps := List.take_of_length_le (by omega)
    rw [hkl]
    clear hkl
    go_wp2_with fail
    go_ret
    exact ⟨rfl, rfl⟩
end Go.Proofs.YtofabikjjkapmaaGreat
