/- Walk: scaleMap of the program. | Walk: l07Scale of the reference. | Walks: adjointMap, AdjointMap, IsSymmetricMap, ConjugateMap of the program and of the reference. | Plain: what the law FnSymplecticTableaus says of tableaus. No walk. | Walks: numbers that are drawn (spec.l01Source). (printed by drwgen.py) | Walks: what is drawn out of the source: picks, numbers, lists. | Walks: rows and squares of fractions (l09Row, l09Square of the reference). -/
import Derived.Test.YtofabikjjkapmaaGreatSt18
import Derived.Test.YtofabikjjkapmaaGreatSt10
import Derived.Test.YtofabikjjkapmaaGreatSt4
import Derived.Test.YtofabikjjkapmaaGreatSt15
import Derived.Test.YtofabikjjkapmaaGreatSt5
import Derived.Test.YtofabikjjkapmaaGreatSt13
import Derived.Deep.CutRange
import Derived.Deep.CutBlock
import Derived.Deep.DeepCutAuto
import Derived.Test.YtofabikjjkapmaaGreatSt25
import Derived.Test.YtofabikjjkapmaaGreatSt8
import Derived.Test.YtofabikjjkapmaaGreatSt24
import Derived.Test.YtofabikjjkapmaaGreatSt19
import Derived.Test.YtofabikjjkapmaaGreatSt21
import Derived.Test.YtofabikjjkapmaaGreatSt17
import Derived.Test.YtofabikjjkapmaaGreatSt23
import Derived.Test.YtofabikjjkapmaaGreatSt3
set_option maxRecDepth 100000
set_option linter.unusedVariables false
set_option linter.unusedSimpArgs false
namespace Go.Proofs.YtofabikjjkapmaaGreat
open Go.RowKit

theorem scZ_step (a : List Int) (k : Int) {i : Nat} (h : i < 38) : ints ((scZ a k).take (i + 1)) = ints ((scZ a k).take i) ++ [.int .i64 (a.getD i 0 * pw k (szN i) % 10007)] := by
  rw [List.take_add_one, scZ_get a k h, ints, ints, List.map_append]; rfl
set_option maxHeartbeats 8000000 in
theorem i_scaleMap (w : World) (v va : Value) (B : Option Addr) (m d : Nat) (a : List Int) (k : Int) (ha : Rows w v (T6n.map up)) (h1 : Ints w va a) (l1 : a.length = 38) (hN1 : Nums a) (hk0 : 0 ≤ k) (hk1 : k ≤ 10006) :
    Calls Tryz.prog 154 #[.agg #[v, .slice B m d], va, .int .i64 k] w fun e w' => ∃ x, e = .returned x ∧ OwnInts w' w.heap.size tI x (scZ a k) ∧ Below w.heap.size w w' := by
  obtain ⟨A, c, he, -, -, -⟩ := ha.open_
  rw [List.length_map, T6n_len] at he
  subst he
  obtain ⟨Aa, ca, rfl, -, -, -⟩ := h1.open_
  rw [l1] at h1 ⊢
  obtain ⟨ada, rfl, -, -, -⟩ := map_cell h1 hN1 (k := 0) (by omega)
  obtain ⟨wb, hwb⟩ : ∃ wb, wb = w.alloc (.cells #[.slice A 37 c, .slice B m d] 57) := ⟨_, rfl⟩
  have hbb : Below w.heap.size w wb := by rw [hwb]; exact below1 w _
  have HBX := Lib.hid hbb
  have HF := Lib.hid (show Blk wb w.heap.size 57 #[.slice A 37 c, .slice B m d] from by rw [hwb]; exact Blk.new _ _ _)
  have HR := Lib.hid (ha.below hbb)
  have HA := Lib.hid (h1.below hbb)
  have HNA := Lib.hid hN1
  have HSZ := Lib.hid (scZ_len a k)
  have OL := Lib.hid (show Own (wb.alloc (.cells #[] tI)) wb.heap.size tI (.slice (some ⟨wb.heap.size, 0, none⟩) 0 0) (ints ((scZ a k).take 0)) from own_lit wb tI [] (by simp [maxLen]))
  clear ha h1 l1 hN1 hbb
  go_enter Tryz.func154, Tryz.ntmps154
  go_upto_region 1 with fail
  rw [← hwb]
  clear hwb
  go_wp2_with fail
  go_loopw [7, 13] (fun o x wr => ∃ i : Nat, i ≤ 38 ∧ x = .int .i64 i ∧ Own wr wb.heap.size tI o (ints ((scZ a k).take i)) ∧ Below wb.heap.size wb wr) (fun _ x _ => 38 - (intOf x).toNat)
  case atStart => exact ⟨0, Nat.zero_le _, rfl, OL.out, below1 wb _⟩
  case round =>
    obtain ⟨i, hi, rfl, ho, hb⟩ := hrel
    rename World => wq
    clear OL
    have hel : ((scZ a k).take i).length = i := by rw [List.length_take, HSZ.out]; omega
    have hol := ho.cells.open_
    rw [ints_len, hel] at hol
    obtain ⟨Ao, co, rfl, -, -⟩ := hol
    have HEL := Lib.hid hel
    have HO := Lib.hid ho
    have HBQ := Lib.hid hb
    have hq0 : wq.cell? ⟨w.heap.size, 0, none⟩ = some (.slice A 37 c) := (HF.out.below hb HF.out.lt).cell 0
    have hq1 : wq.cell? ⟨w.heap.size, 1, none⟩ = some (.slice B m d) := (HF.out.below hb HF.out.lt).cell 1
    clear ho hel
    by_cases hlt : i < 38
    · obtain ⟨_, he, hcx, hx0, hx1⟩ := map_cell (HA.out.below hb) HNA.out (k := i) hlt
      simp only [Option.some.injEq] at he
      subst he
      have HTS := Lib.hid (scZ_step a k hlt)
      have HIN := Lib.hid (im_fnodes wq (.slice A 37 c) B m d i (HR.out.below hb) (by omega))
      have hsz := szN_le i
      have hpb := pw_bd k (szN i)
      have HPW := Lib.hid (fun W => show Calls Tryz.prog 140 #[.int .i64 k, .int .i64 (szN i : Nat)] W fun e w' => e = .returned (.int .i64 (pw k (szN i))) ∧ W = w' from by
        have h := i_pow k (szN i : Nat) W hk0 (by omega) (by omega) (by omega)
        rwa [Int.toNat_natCast] at h)
      obtain ⟨P, hP⟩ : ∃ P, P = pw k (szN i) := ⟨_, rfl⟩
      rw [← hP] at hpb HPW HTS
      generalize a.getD i 0 = y at *
      generalize szN i = s at *
      obtain ⟨p1, p2⟩ := mul_bd 10006 10006 hx0 hx1 hpb.1 hpb.2
      have hii : (i : Int) < 38 := by omega
      clear hb hP
      go_wp2_with (first
        | (go_at_call 123; go_loud (refine HIN.out.mono ?_; rintro e w2 ⟨rfl, hw2⟩; have HB2 := Lib.hid (show Below wb.heap.size wb w2 from by rw [hw2]; exact HBQ.out.trans ((below1 _ _).mono HBQ.out.size)); have HOX := Lib.hid (show Own w2 wb.heap.size tI (.slice Ao i co) (ints ((scZ a k).take i)) from HO.out.below (by rw [hw2]; exact below1 _ _)); clear hw2))
        | (go_at_call 140; refine (HPW.out _).mono ?_; rintro e w3 ⟨rfl, rfl⟩)
        | (go_at_call 56; refine (i_num (y * P) _ (by omega) (by omega)).mono ?_; rintro e w3 ⟨rfl, rfl⟩)
        | (at_builtin; go_loud (refine wpList_app1 T_int HOX.out (by rw [ints_len, HEL.out]; omega) HB2.out.size (by rfl) rfl (by rfl) (by rfl) (by rfl) ?_; intro v1 w6 hown1 hgr1; have HN := Lib.hid hown1; have HGR := Lib.hid hgr1; clear hown1 hgr1)))
      go_roundw
      case rel =>
        refine ⟨i + 1, by omega, by go_num, ?_, HGR.out.below HB2.out HB2.out.size HO.out.ge⟩
        rw [HTS.out]; exact HN.out
      case measure => simp [intOf]; omega
    · have hil : (scZ a k).take i = scZ a k := List.take_of_length_le (by rw [HSZ.out]; omega)
      have HFF := Lib.hid hil
      clear hil
      go_wp2_with fail
      go_ret
      refine ⟨_, rfl, ⟨?_, fun z hz => in64_num (scZ_nums a k z hz)⟩, HBX.out.trans (HBQ.out.mono HBX.out.size)⟩
      have h := HO.out
      rw [HFF.out] at h
      exact h.mono HBX.out.size
end Go.Proofs.YtofabikjjkapmaaGreat

set_option maxRecDepth 100000
set_option linter.unusedVariables false
set_option linter.unusedSimpArgs false
namespace Go.Proofs.YtofabikjjkapmaaGreat
open Go.RowKit

/-- rows that no growth of a slice's own block touches -/
def APR (w : World) (o x : Value) : Prop := ∃ vs, ∀ W', w.grownBy W' o.ownBlock → Cells W' x vs ∧ Rows W' x (T6n.map up)
theorem APR.rows {w : World} {o x : Value} (h : APR w o x) : Rows w x (T6n.map up) := by
  obtain ⟨vs, h⟩ := h
  exact (h w (World.grownBy.refl _ _)).2
theorem APR.step {w w' : World} {o o' x : Value} (h : APR w o x) (hg : Grow w w' o o') : APR w' o' x := by
  obtain ⟨vs, h⟩ := h
  refine ⟨vs, fun W hW => ?_⟩
  have g1 := hg.1
  refine h W ⟨hW.os.trans g1.os, hW.tape.trans g1.tape, hW.output.trans g1.output, Nat.le_trans g1.size hW.size, fun k hk hne => ?_⟩
  have e1 := g1.block k hk hne
  have e2 := hW.block k (Nat.lt_of_lt_of_le hk g1.size) (fun e => by
    rcases hg.2 with h2 | ⟨g, h2, h3⟩
    · exact hne (h2 ▸ e)
    · rw [h2] at e; injection e with e; omega)
  exact e2.trans e1
theorem APR.drew {w : World} {o x : Value} (h : APR w o x) : APR w.drew o x := by
  obtain ⟨vs, h⟩ := h
  exact ⟨vs, fun W hW => h { w with heap := W.heap } ⟨rfl, rfl, rfl, hW.size, hW.block⟩⟩
theorem APR.cell {w W : World} {o : Value} {ad : Addr} {c i : Nat} (h : APR w o (.slice (some ad) 37 c)) (hg : w.grownBy W o.ownBlock) (hi : i < 37) : W.cell? (ad.add i) = w.cell? (ad.add i) := by
  obtain ⟨vs, h⟩ := h
  have h1 := (h w (World.grownBy.refl _ _)).1
  have h2 := (h W hg).1
  obtain ⟨A, c', e, -, -⟩ := h1.open_
  simp only [Value.slice.injEq] at e
  obtain ⟨u, hv⟩ : ∃ u, vs[i]? = some u := ⟨_, List.getElem?_eq_getElem (by omega)⟩
  obtain ⟨a1, n1, c1, e1, k1⟩ := h1.at_ hv
  obtain ⟨a2, n2, c2, e2, k2⟩ := h2.at_ hv
  simp only [Value.slice.injEq, Option.some.injEq] at e1 e2
  rw [← e1.1] at k1
  rw [← e2.1] at k2
  rw [k1, k2]
theorem APR.after {w3 : World} {B : Nat} {x : Value} (h : LA w3 B x (T6n.map up)) (v : Value) (t : TypeId) : APR (w3.alloc (.cells #[v] t)) (.slice (some ⟨w3.heap.size, 0, none⟩) 1 1) x := by
  have h0 := h
  obtain ⟨vs, h1, -, -⟩ := h0
  refine ⟨vs, fun W hW => ?_⟩
  have hb : Below w3.heap.size w3 W := (below1 w3 (.cells #[v] t)).grown hW (by simp) (fun b hb => by simp [Value.ownBlock] at hb; omega)
  exact ⟨(h1.below hb).cells, (h.below hb).rows⟩
theorem APR.before {w3 : World} {B g : Nat} {x : Value} (h : LA w3 B x (T6n.map up)) (hg : g < B) : APR w3 (.slice (some ⟨g, 0, none⟩) 1 1) x := by
  have h0 := h
  obtain ⟨vs, h1, -, -⟩ := h0
  refine ⟨vs, fun W hW => ⟨(h1.kept hW ?_).cells, (h.keptLt' hW hg).rows⟩⟩
  cases hb : x.ownBlock with
  | none => exact .inl rfl
  | some b => exact .inr fun e => by injection e with e; have := h1.ge b hb; have e : b = g := e; omega
end Go.Proofs.YtofabikjjkapmaaGreat

set_option maxRecDepth 100000
set_option linter.unusedVariables false
set_option linter.unusedSimpArgs false
namespace Go.Proofs.YtofabikjjkapmaaGreat
open Go.RowKit

def adjZ (a : List Int) : List Int := invL (scZ a 10006) 37
set_option maxHeartbeats 8000000 in
theorem i_adjointMap (w : World) (vp va : Value) (Af : Option Addr) (cf Bp : Nat) (a : List Int) (hR : Rows w (.slice Af 37 cf) (T6n.map up)) (hP : FrC w Bp vp) (h1 : Ints w va a) (l1 : a.length = 38) (n1 : Nums a) :
    Calls Tryz.prog 88 #[.agg #[.slice Af 37 cf, vp], va] w fun e w' => ∃ x, e = .returned x ∧ OwnInts w' w.heap.size tI x (adjZ a) ∧ Below w.heap.size w w' := by
  obtain ⟨Ay, cy, rfl, -⟩ := hP.at_
  obtain ⟨Aa, ca, rfl, -, -, -⟩ := h1.open_
  rw [l1] at h1 ⊢
  obtain ⟨W, hW⟩ : ∃ W, W = w.alloc (.cells #[.slice Af 37 cf, .slice Ay 37 cy] tFo) := ⟨_, rfl⟩
  have hbw : Below w.heap.size w W := by rw [hW]; exact below1 w _
  have HBW := Lib.hid hbw
  have HKF := Lib.hid (show Blk W w.heap.size tFo #[.slice Af 37 cf, .slice Ay 37 cy] from by rw [hW]; exact Blk.new _ _ _)
  have HRW := Lib.hid (hR.below hbw)
  have HFW := Lib.hid (hP.below hbw)
  have HAW := Lib.hid (h1.below hbw)
  have HC1 := Lib.hid (show ∀ X, Below W.heap.size W X → Calls Tryz.prog 154 #[.agg #[.slice Af 37 cf, .slice Ay 37 cy], .slice Aa 38 ca, .int .i64 10006] X (fun e w' => ∃ x, e = .returned x ∧ OwnInts w' W.heap.size tI x (scZ a 10006) ∧ Below W.heap.size W w') from fun X hX => by
    have h := i_scaleMap X (.slice Af 37 cf) (.slice Aa 38 ca) Ay 37 cy a 10006 (HRW.out.below hX) (HAW.out.below hX) l1 n1 (by omega) (by omega)
    exact h.mono (by rintro e w5 ⟨r5, rfl, ho5, hb5⟩; exact ⟨r5, rfl, ho5.mono hX.size, hX.trans (hb5.mono hX.size)⟩))
  have HC2 := Lib.hid (show ∀ X r, Below W.heap.size W X → Ints X r (scZ a 10006) → Calls Tryz.prog 49 #[.agg #[.slice Af 37 cf, .slice Ay 37 cy], r] X (fun e w' => ∃ x, e = .returned x ∧ OwnInts w' X.heap.size tI x (adjZ a) ∧ Below X.heap.size X w') from fun X r hX hr => i_inverseMap X (.slice Ay 37 cy) r Af cf _ (scZ a 10006) (HFW.out.below hX) hr (scZ_len _ _) (scZ_nums _ _))
  clear hR hP h1 l1 n1 hbw
  go_enter Tryz.func88, Tryz.ntmps88
  go_upto_region 1 with fail
  rw [← hW]
  clear hW
  have k1 : W.cell? ⟨w.heap.size, 0, none⟩ = some (.slice Af 37 cf) := HKF.out.cell 0
  have k2 : W.cell? ⟨w.heap.size, 1, none⟩ = some (.slice Ay 37 cy) := HKF.out.cell 1
  go_region_law (first
    | (go_simp; go_at_call 154; (with_reducible refine ((HC1.out _ ?_).mono ?_)); (first | exact Below.refl _ _ | exact (Below.refl _ _).drew); go_loud (rintro e w5 ⟨r5, rfl, ho5, hb5⟩; have HO5 := Lib.hid ho5; have HB5 := Lib.hid hb5; have m1 : w5.cell? ⟨w.heap.size, 0, none⟩ = some (.slice Af 37 cf) := (HKF.out.below hb5 HKF.out.lt).cell 0; have m2 : w5.cell? ⟨w.heap.size, 1, none⟩ = some (.slice Ay 37 cy) := (HKF.out.below hb5 HKF.out.lt).cell 1; clear ho5 hb5))
    | (go_simp; go_at_call 49; (with_reducible refine ((HC2.out _ _ ?_ ?_).mono ?_)); (first | exact HB5.out | exact HB5.out.drew); (exact HO5.out.ints); go_loud (rintro e w6 ⟨r6, rfl, ho6, hb6'⟩; have HB6 := Lib.hid (show Below w5.heap.size w5 w6 from by exact hb6'); have HO6 := Lib.hid (show OwnInts w6 w5.heap.size tI r6 (adjZ a) from by exact ho6); clear ho6 hb6')))
  all_goals
    go_wp2_with fail
    go_ret
    exact ⟨_, rfl, HO6.out.mono (Nat.le_trans HBW.out.size HB5.out.size), (HBW.out.trans (HB5.out.mono HBW.out.size)).trans (HB6.out.mono (Nat.le_trans HBW.out.size HB5.out.size))⟩
def ismB (a : List Int) : Bool := if chrC a = 0 then decide (adjZ a = a) else false
set_option maxHeartbeats 4000000 in
theorem i_IsSymmetricMap (w : World) (v : Value) (a : List Int) (h1 : Ints w v a) :
    Calls Tryz.prog 40 #[v] w fun e w' => e = .returned (.tuple #[.bool (ismB a), .int .i64 (chrC a)]) ∧ Below w.heap.size w w' := by
  have HCH := Lib.hid (i_checkCharacter w v a h1)
  have HA := Lib.hid h1
  obtain ⟨A, c, rfl, -, -, -⟩ := h1.open_
  clear h1
  by_cases hc : chrC a = 0
  · obtain ⟨hm, -⟩ := chr_of hc
    obtain ⟨l1, n1⟩ := mapB_true hm
    have HR := Lib.hid (show ismB a = decide (adjZ a = a) from if_pos hc)
    rw [hc] at HCH ⊢
    have HMM := Lib.hid (fun W Af cf Bp vp (hR : Rows W (.slice Af 37 cf) (T6n.map up)) (hP : FrC W Bp vp) (g : Ints W (.slice A a.length c) a) => i_adjointMap W vp _ Af cf Bp a hR hP g l1 n1)
    clear hc hm l1 n1
    go_enter Tryz.func40, Tryz.ntmps40
    go_wp2_with (first
      | (go_at_call 48; refine HCH.out.mono ?_; rintro e w0 ⟨rfl, rfl⟩)
      | (go_at_call 46; go_loud (refine (i_newForms _).mono ?_; rintro e w1 ⟨f, rfl, hf, hb1⟩; obtain ⟨Af, cf, Ay, cy, rfl, hrf, hfc⟩ := hf.openC; have HRF := Lib.hid hrf; have HFC := Lib.hid hfc; have HB1 := Lib.hid hb1; clear hf hrf hfc hb1))
      | (go_at_call 88; go_loud (refine (HMM.out _ _ _ _ _ HRF.out HFC.out (HA.out.below HB1.out)).mono ?_; rintro e w3 ⟨x3, rfl, ho3, hb3⟩; have HO3 := Lib.hid ho3; have HB3 := Lib.hid (HB1.out.trans (hb3.mono HB1.out.size)); clear ho3 hb3))
      | (go_at_call 87; go_loud (refine (lib_Equal _ _ _ _ _ HO3.out.ints (HA.out.below HB3.out)).mono ?_; rintro e w4 ⟨rfl, n4, hw4⟩; have HB4 := Lib.hid (show Below w.heap.size w w4 from by rw [hw4]; exact below_drewN HB3.out n4); clear hw4)))
    go_ret2
    rw [HR.out]
    exact ⟨rfl, HB4.out⟩
  · have HR := Lib.hid (show ismB a = false from if_neg hc)
    rw [HR.out]
    have hd : (chrC a != 0) = true := by simp [hc]
    generalize chrC a = cc at *
    clear hc HR
    go_enter Tryz.func40, Tryz.ntmps40
    go_wp2_with (go_at_call 48; refine HCH.out.mono ?_; rintro e w0 ⟨rfl, rfl⟩)
    go_ret2
    exact ⟨rfl, Below.refl _ _⟩
end Go.Proofs.YtofabikjjkapmaaGreat

set_option maxRecDepth 100000
set_option linter.unusedVariables false
set_option linter.unusedSimpArgs false
namespace Go.Proofs.YtofabikjjkapmaaGreat
open Go.RowKit

theorem cnd_cnT (A : List (List Int)) (B : List Int) (i k : Nat) : cnd A B i k = cnT A B i k := rfl
theorem fault_all {A : List (List Int)} {B : List Int} (h : IsFault A B []) : ∀ i k, i < B.length → k < B.length → cnT A B i k = 0 := by
  intro i k hi hk
  rcases h with ⟨-, h⟩ | ⟨a, b, -, -, e, -⟩
  · rcases Nat.le_total i k with hik | hik
    · have := h i k hik hk; rwa [cnd_cnT] at this
    · have := h k i hik hi; rw [cnd_cnT] at this; exact cnT_sym this
  · cases e
theorem all_fault {A : List (List Int)} {B r : List Int} (h : ∀ i k, i < B.length → k < B.length → cnT A B i k = 0) (hr : IsFault A B r) : r = [] := by
  rcases hr with ⟨rfl, -⟩ | ⟨a, b, h1, h2, -, h3, -⟩
  · rfl
  · rw [cnd_cnT] at h3
    exact absurd (h a b (by omega) h2) h3
theorem chr_zero {a : List Int} (h : Chr a) : chrC a = 0 := by
  unfold chrC
  rw [if_pos (show mapB a = true from by unfold mapB; rw [Bool.and_eq_true]; exact ⟨by simp [h.len], nums_iff.2 h.num⟩), if_pos h.one]
theorem chT_chr (A : List (List Int)) (B : List Int) : Chr (chT A B) := chr_chF B.length (fT A) (fB B)
theorem sy_to {A : List (List Int)} {B : List Int} (h : IsFault A B []) : stoR (chT A B) = 6 := by
  unfold stoR
  rw [if_pos (chr_zero (chT_chr A B)), toV_is (chT_sym (fault_all h))]; rfl
theorem sy_even {A : List (List Int)} {B : List Int} (hb : tabB A B = true) (h : symR A B = true) : ismB (chT A B) = true := by
  unfold ismB
  rw [if_pos (chr_zero (chT_chr A B))]
  refine decide_eq_true ?_
  refine chT_symm (SqT.of (isTab_of hb)) fun i k hi hk => ?_
  unfold symR symB at h
  rw [Bool.and_eq_true] at h
  have h2 := h.2
  rw [List.all_eq_true] at h2
  have h3 := h2 i (List.mem_range.2 hi)
  rw [List.all_eq_true] at h3
  have h4 := h3 k (List.mem_range.2 hk)
  exact of_decide_eq_true h4
theorem sy_twice {A RA : List (List Int)} {B RB r : List Int} (hb : tabB A B = true) (h : IsFault A B []) (ha : RA = compA A B A B) (hB : RB = B ++ B) (hr : IsFault RA RB r) : r = [] := by
  subst ha; subst hB
  refine all_fault (fun i k hi hk => ?_) hr
  rw [List.length_append] at hi hk
  exact cmp_sym (SqT.of (isTab_of hb)) (fault_all h) i k hi hk
end Go.Proofs.YtofabikjjkapmaaGreat

set_option maxRecDepth 100000
set_option linter.unusedVariables false
set_option linter.unusedSimpArgs false
namespace Go.Proofs.YtofabikjjkapmaaGreat
open Go.RowKit

abbrev tSc : TypeId := 110
set_option maxHeartbeats 4000000 in
theorem s_l01Next (w : World) (B p : Nat) (n : Int) (h : Src w B tSc p) (hn : n ≤ 4611686018427387904) (hn0 : 1 ≤ n) :
    Calls Tryz.prog 111 #[at0 p, .int .i64 n] w fun e w' => ∃ x, e = .returned (.int .i64 x) ∧ 0 ≤ x ∧ x < n ∧ w.grownBy w' (some p) ∧ Src w' B tSc p := by
  obtain ⟨A, m, c, k, hs, hk, hB, hby, hkm, hm, h0, h1⟩ := h
  have HK := Lib.hid hk
  have HBY := Lib.hid hby
  have k2 : w.cell? ⟨p, 2, none⟩ = some (.int .u64 hs) := hk.cell 2
  have f2 : w.frozen? ⟨p, 2, none⟩ = false := hk.frozen 2
  clear hk hby
  go_enter Tryz.func111, Tryz.ntmps111
  go_upto_region 5 with fail
  obtain ⟨x, y, hx, x0, x1, hy, hw, y0, y1⟩ := hash_bd (IntKind.u64.wrap (hs * 6364136223846793005) + 1442695040888963407)
  rw [← hx, hw, ← hy]
  clear hx hy hw h0 h1 f2 k2
  have HK1 := Lib.hid (HK.out.set_ 2 (.int .u64 x))
  have HG1 := Lib.hid (gset w p 2 (.int .u64 x))
  generalize w.setCell ⟨p, 2, none⟩ (.int .u64 x) = w1 at HK1 HG1 ⊢
  generalize x / 8589934592 = x9
  generalize IntKind.u64.wrap (hs * 6364136223846793005) = x8
  have HBY1 := Lib.hid (HBY.out.grown HG1.out hB)
  have HK1 := Lib.hid (show Blk w1 p tSc #[.slice A m c, .int .i64 k, .int .u64 x] from HK1.out)
  have k0 : w1.cell? ⟨p, 0, none⟩ = some (.slice A m c) := HK1.out.cell 0
  have k1 : w1.cell? ⟨p, 1, none⟩ = some (.int .i64 k) := HK1.out.cell 1
  have f1 : w1.frozen? ⟨p, 1, none⟩ = false := HK1.out.frozen 1
  clear HK HBY
  by_cases hlt : k < m
  · obtain ⟨ad, z, rfl, a1, a2, z0, z1, hc⟩ := HBY1.out k hlt
    have hkk : (k : Int) < (m : Int) := by omega
    have hw1 : wrap64 (y + z) = y + z := w64_dr _ (by omega)
    have hwk : wrap64 ((k : Int) + 1) = (k : Int) + 1 := w64_dr _ (by omega)
    clear a1 a2
    go_quiet (fail)
    go_upto_region 6 with fail
    rename Nat => nq0
    have k0' : (w1.drewN nq0).cell? ⟨p, 0, none⟩ = some (.slice (some ad) m c) := k0
    have k1' : (w1.drewN nq0).cell? ⟨p, 1, none⟩ = some (.int .i64 k) := k1
    have hc' : (w1.drewN nq0).cell? (ad.add k) = some (.int .u8 z) := hc
    go_quiet (fail)
    go_wp2_with fail
    go_ret
    obtain ⟨r0, r1⟩ := rem_bd (x := y + z) (n := n) (by omega) hn0
    have HB2 : w1.grownBy ((w1.drewN (nq0 + nq)).setCell ⟨p, 1, none⟩ (.int .i64 ((k : Int) + 1))) (some p) := gtrans (gof (below_drewN (Below.refl _ _) _)) (gset _ _ _ _)
    exact ⟨_, rfl, r0, r1, gtrans HG1.out HB2, some ad, m, c, k + 1, x, by simpa using (HK1.out.drewN _).set_ 1 (.int .i64 ((k : Int) + 1)), hB, HBY1.out.grown HB2 hB, hlt, hm, x0, x1⟩
  · have hkk : ¬ ((k : Int) < (m : Int)) := by omega
    go_quiet (fail)
    go_wp2_with fail
    go_ret
    obtain ⟨r0, r1⟩ := rem_bd (x := y) (n := n) (by omega) hn0
    rename Nat => nq0
    have HB2 : w1.grownBy (w1.drewN nq0) (some p) := gof (below_drewN (Below.refl _ _) _)
    exact ⟨_, rfl, r0, r1, gtrans HG1.out HB2, A, m, c, k, x, HK1.out.drewN _, hB, HBY1.out.grown HB2 hB, hkm, hm, x0, x1⟩
set_option maxHeartbeats 4000000 in
theorem s_l01From (w : World) (A : Option Addr) (n c : Nat) (hb : ByB w w.heap.size A n) (hn : n ≤ 4096) :
    Calls Tryz.prog 68 #[.slice A n c] w fun e w' => ∃ p, e = .returned (at0 p) ∧ Src w' w.heap.size tSc p ∧ Below w.heap.size w w' := by
  have HBY := Lib.hid hb
  have hs2 : 0 ≤ 5381 + (n : Int) ∧ 5381 + (n : Int) < 18446744073709551616 := by omega
  clear hb
  go_enter Tryz.func68, Tryz.ntmps68
  go_wp2_with fail
  obtain ⟨h0, hh0⟩ : ∃ h0, h0 = 5381 + (n : Int) := ⟨_, rfl⟩
  rw [← hh0] at hs2 ⊢
  obtain ⟨W, hW⟩ : ∃ W, W = w.alloc (Obj.cells #[Value.slice A n c, Value.int IntKind.i64 0, Value.int IntKind.u64 h0] tSc) := ⟨_, rfl⟩
  have HBW := Lib.hid (show Below w.heap.size w W from by rw [hW]; exact below1 w _)
  have HK := Lib.hid (show Blk W w.heap.size tSc #[Value.slice A n c, Value.int IntKind.i64 0, Value.int IntKind.u64 h0] from by rw [hW]; exact Blk.new _ _ _)
  rw [← hW]
  clear hW hh0
  obtain ⟨g0, g1⟩ := hs2
  go_loopw [4] (fun x wr => ∃ (j : Nat) (h : Int), j ≤ n ∧ x = .int .i64 j ∧ 0 ≤ h ∧ h < 18446744073709551616 ∧ Blk wr w.heap.size tSc #[Value.slice A n c, Value.int IntKind.i64 0, Value.int IntKind.u64 h] ∧ Below w.heap.size w wr) (fun x _ => n - (intOf x).toNat)
  case atStart => exact ⟨0, h0, Nat.zero_le _, rfl, g0, g1, HK.out, HBW.out⟩
  case round =>
    obtain ⟨j, h, hj, rfl, q0, q1, hk, hb⟩ := hrel
    rename World => wq
    clear HK HBW
    have HK := Lib.hid hk
    have HB := Lib.hid hb
    have k2 : wq.cell? ⟨w.heap.size, 2, none⟩ = some (.int .u64 h) := hk.cell 2
    have f2 : wq.frozen? ⟨w.heap.size, 2, none⟩ = false := hk.frozen 2
    clear hk hb
    by_cases hlt : j < n
    · have hj4 : (j : Int) < 4096 := by omega
      have hjj : (j : Int) < (n : Int) := by omega
      obtain ⟨ad, z, rfl, a1, a2, z0, z1, hc⟩ := HBY.out j hlt
      have hc1 : wq.cell? (ad.add j) = some (.int .u8 z) := by rw [HB.out.cell (by rw [block_add]; exact a1)]; exact hc
      have hjk : wrap64 ((j : Int) + 1) = (j : Int) + 1 := w64_dr _ (by omega)
      clear a1 a2 hc
      go_upto_region 5 with fail
      go_region_law (fail)
      all_goals
        obtain ⟨y, hy⟩ : ∃ y, y = IntKind.u64.wrap (IntKind.u64.wrap (IntKind.u64.wrap (h * 1099511628211) + IntKind.u64.wrap z) + 11) := ⟨_, rfl⟩
        obtain ⟨b0, b1⟩ : 0 ≤ y ∧ y < 18446744073709551616 := by rw [hy]; exact u64_bd _
        rw [← hy]
        clear hy
        go_wp2_with fail
        go_roundw
        case rel =>
          exact ⟨j + 1, _, by omega, by go_num, b0, b1, (HK.out.set_ 2 _).drewN 1, (HB.out.setCell (Nat.le_refl _) _).drew⟩
        case measure => simp [intOf]; omega
    · have hjn : j = n := by omega
      subst hjn
      go_wp2_with fail
      go_ret
      exact ⟨_, rfl, ⟨A, j, c, 0, h, HK.out, Nat.le_refl _, fun k hk => by obtain ⟨ad, z, e, a1, a2, z0, z1, hc⟩ := HBY.out k hk; exact ⟨ad, z, e, a1, Nat.lt_of_lt_of_le a1 HB.out.size, z0, z1, by rw [HB.out.cell (by rw [block_add]; exact a1)]; exact hc⟩, Nat.zero_le _, (by omega), q0, q1⟩, HB.out⟩
end Go.Proofs.YtofabikjjkapmaaGreat

set_option maxRecDepth 100000
set_option linter.unusedVariables false
set_option linter.unusedSimpArgs false
namespace Go.Proofs.YtofabikjjkapmaaGreat
open Go.RowKit

theorem wrap_i64 (x : Int) (h : -9223372036854775808 ≤ x ∧ x ≤ 9223372036854775807) : IntKind.i64.wrap x = x := IntWalk.i64_in _ (by omega)
/-- a literal list of numbers is kept where the source changes -/
theorem lit_keep (w : World) (p : Nat) (zs : List Int) (hz : ∀ z ∈ zs, In64 z) (hl : zs.length ≤ 1000) (hp : p < w.heap.size) :
    ∀ W, (w.alloc (.cells (ints zs).toArray tI)).grownBy W (some p) → Ints W (.slice (some ⟨w.heap.size, 0, none⟩) zs.length zs.length) zs := fun W hg => by
  have h := own_lit w tI (ints zs) (by rw [ints_len]; simp [maxLen]; omega)
  rw [ints_len] at h
  exact ⟨(h.kept hg (.inr (fun e => by simp [Value.ownBlock] at e; omega))).cells, hz⟩
set_option maxHeartbeats 4000000 in
theorem s_l01Pick (w : World) (B p : Nat) (v : Value) (zs : List Int) (h : Src w B tSc p) (hv : ∀ W, w.grownBy W (some p) → Ints W v zs) (h1 : 1 ≤ zs.length) (h2 : zs.length ≤ 1000) :
    Calls Tryz.prog 126 #[at0 p, v] w fun e w' => ∃ z, e = .returned (.int .i64 z) ∧ z ∈ zs ∧ w.grownBy w' (some p) ∧ Src w' B tSc p := by
  obtain ⟨A, c, rfl, g1, g2, g3⟩ := (hv w (World.grownBy.refl _ _)).open_
  have HV := Lib.hid hv
  have HN := Lib.hid (s_l01Next w B p (zs.length : Nat) h (by omega) (by omega))
  clear g3 h hv
  go_enter Tryz.func126, Tryz.ntmps126
  go_wp2_with (go_at_call 111; go_loud (refine HN.out.mono ?_; rintro e w1 ⟨x, rfl, x0, x1, hg, hs⟩; obtain ⟨k, rfl⟩ : ∃ k : Nat, x = k := ⟨x.toNat, by omega⟩; obtain ⟨A', c', he, -, -, g3⟩ := (HV.out w1 hg).open_; (simp only [Value.slice.injEq] at he); obtain ⟨rfl, -, rfl⟩ := he; obtain ⟨ad, z, rfl, hz, hz2, hc⟩ := g3 k (by omega); have HZ := Lib.hid (List.mem_of_getElem? hz); have HG := Lib.hid hg; have HS := Lib.hid hs; have hkl : k < zs.length := (by omega); clear g3 hz hz2 hg hs x0 x1))
  go_ret
  exact ⟨_, rfl, HZ.out, HG.out, HS.out⟩
theorem nume_bd (x : Int) : 0 ≤ x % 10007 ∧ x % 10007 ≤ 10006 := by omega
set_option maxHeartbeats 1000000 in
theorem s_l01FracZ (w : World) (p q : Int) (h0 : -1000000 ≤ p) (h1 : p ≤ 1000000) (g0 : 0 ≤ q) (g1 : q ≤ 1000000) :
    Calls Tryz.prog 119 #[.int .i64 p, .int .i64 q] w fun e w' => ∃ z, e = .returned (.int .i64 z) ∧ (0 ≤ z ∧ z ≤ 10006) ∧ w = w' := by
  have hp := pw_bd (q % 10007) 10005
  have hq : 0 ≤ q % 10007 ∧ q % 10007 ≤ 10006 := by omega
  have hq2 : 0 ≤ p % 10007 ∧ p % 10007 ≤ 10006 := by omega
  go_enter Tryz.func119, Tryz.ntmps119
  go_wp2_with (first
    | (go_at_call 178; (with_reducible refine (s_l01Inv _ _ (by omega) (by omega)).mono ?_); rintro e w2 ⟨rfl, rfl⟩)
    | (go_at_call 176; (with_reducible refine (s_l01Mul _ _ _ (by omega) (by omega) (by omega) (by omega)).mono ?_); rintro e w2 ⟨rfl, rfl⟩)
    | (go_at_call 177; (with_reducible refine (s_l01Mod _ _ (by omega) (by omega)).mono ?_); rintro e w2 ⟨rfl, rfl⟩))
  go_ret
  exact ⟨_, rfl, nume_bd _, rfl⟩
set_option maxHeartbeats 4000000 in
theorem s_l01Number (w : World) (B p : Nat) (h : Src w B tSc p) :
    Calls Tryz.prog 114 #[at0 p] w fun e w' => ∃ z, e = .returned (.int .i64 z) ∧ (0 ≤ z ∧ z ≤ 10006) ∧ w.grownBy w' (some p) ∧ Src w' B tSc p := by
  have HN := Lib.hid (s_l01Next w B p 5 h (by omega) (by omega))
  have hpl := h.lt
  clear h
  go_enter Tryz.func114, Tryz.ntmps114
  go_upto_region 2 with (go_at_call 111; go_loud (refine HN.out.mono ?_; rintro e w1 ⟨x, rfl, x0, x1, hg, hs⟩; have HG := Lib.hid hg; have HS := Lib.hid hs; clear hg hs))
  have hpl1 : p < w1.heap.size := Nat.lt_of_lt_of_le hpl HG.out.size
  by_cases hx0 : x = 0
  · have hd0 : (x == 0) = true := by simp [hx0]
    have HN1 := Lib.hid (s_l01Next w1 B p 10007 HS.out (by omega) (by omega))
    clear hx0 x0 x1
    go_wp2_with (go_at_call 111; go_loud (refine HN1.out.mono ?_; rintro e w2 ⟨y, rfl, y0, y1, hg, hs⟩; have HG2 := Lib.hid (gtrans HG.out hg); have HS2 := Lib.hid hs; clear hg hs))
    go_ret
    exact ⟨_, rfl, ⟨y0, by omega⟩, HG2.out, HS2.out⟩
  · have hd0 : (x == 0) = false := by simp [hx0]
    by_cases hx1 : x = 1
    · have hd1 : (x == 1) = true := by simp [hx1]
      have HL := Lib.hid (lit_keep w1 p [0, 1, 0, 1, 10006, 2] (by intro z hz; simp at hz; unfold In64; omega) (by simp) hpl1)
      have HSL := Lib.hid (HS.out.below (below1 w1 (.cells (ints [0, 1, 0, 1, 10006, 2]).toArray tI)))
      have HPK := Lib.hid (s_l01Pick _ B p _ [0, 1, 0, 1, 10006, 2] HSL.out HL.out (by simp) (by simp))
      clear hx0 hx1 x0 x1
      go_wp2_with (go_at_call 126; go_loud (refine HPK.out.mono ?_; rintro e w2 ⟨y, rfl, hy, hg, hs⟩; have HG2 := Lib.hid (gtrans (gtrans HG.out (gof (below1 w1 _))) hg); have HS2 := Lib.hid hs; have HY := Lib.hid hy; clear hg hs hy))
      go_ret
      exact ⟨_, rfl, by have := HY.out; simp at this; omega, HG2.out, HS2.out⟩
    · have hd1 : (x == 1) = false := by simp [hx1]
      have HN1 := Lib.hid (s_l01Next w1 B p 15 HS.out (by omega) (by omega))
      have hw := fun y (h : 0 ≤ y ∧ y < 15) => wrap_i64 (y - 7) (by omega)
      have hw2 := fun y (h : 0 ≤ y ∧ y < 12) => w64_dr (1 + y) (by omega)
      clear hx0 hx1 x0 x1
      go_wp2_with (first
        | (go_at_call 111; (with_reducible refine HN1.out.mono ?_); go_loud (rintro e w2 ⟨y, rfl, y0, y1, hg, hs⟩; have HG2 := Lib.hid (gtrans HG.out hg); have HS2 := Lib.hid hs; have hwy := hw y ⟨y0, y1⟩; clear hg hs))
        | (go_at_call 111; (with_reducible refine (s_l01Next w2 B p 12 HS2.out (by omega) (by omega)).mono ?_); go_loud (rintro e w3 ⟨u, rfl, u0, u1, hg, hs⟩; have HG3 := Lib.hid (gtrans HG2.out hg); have HS3 := Lib.hid hs; have hwu := hw2 u ⟨u0, u1⟩; clear hg hs))
        | (go_at_call 119; go_loud (refine (s_l01FracZ _ _ _ (by omega) (by omega) (by omega) (by omega)).mono ?_; rintro e w4 ⟨z, rfl, hz, rfl⟩; have HZ := Lib.hid hz; clear hz)))
      go_ret
      exact ⟨_, rfl, HZ.out, HG3.out, HS3.out⟩
end Go.Proofs.YtofabikjjkapmaaGreat

set_option maxRecDepth 100000
set_option linter.unusedVariables false
set_option linter.unusedSimpArgs false
namespace Go.Proofs.YtofabikjjkapmaaGreat
open Go.RowKit

theorem keepCellD {w w' : World} {ad : Addr} {v : Value} (hb : Below w.heap.size w w') (h : w.cell? ad = some v) : w'.cell? ad = some v := by rw [hb.cell (World.block_lt_of_cell? w _ h)]; exact h
/-- n numbers -/
def Nl (n : Nat) (zs : List Int) : Prop := zs.length = n ∧ Nums zs
/-- a square of numbers -/
def Sqm (m n : Nat) (xss : List (List Int)) : Prop := xss.length = m ∧ ∀ zs ∈ xss, Nl n zs
theorem Nl.snoc {n : Nat} {zs : List Int} {z : Int} (h : Nl n zs) (hz : 0 ≤ z ∧ z ≤ 10006) : Nl (n + 1) (zs ++ [z]) := by
  refine ⟨by rw [List.length_append, h.1]; rfl, fun y hy => ?_⟩
  rcases List.mem_append.1 hy with hy | hy
  · exact h.2 y hy
  · simp at hy; subst hy; exact hz
theorem Nl.in64 {n : Nat} {zs : List Int} (h : Nl n zs) : ∀ z ∈ zs, In64 z := fun z hz => by have := h.2 z hz; unfold In64; omega
theorem Sqm.snoc {m n : Nat} {xss : List (List Int)} {zs : List Int} (h : Sqm m n xss) (hz : Nl n zs) : Sqm (m + 1) n (xss ++ [zs]) := by
  refine ⟨by rw [List.length_append, h.1]; rfl, fun y hy => ?_⟩
  rcases List.mem_append.1 hy with hy | hy
  · exact h.2 y hy
  · simp at hy; subst hy; exact hz
theorem Nl.nil : Nl 0 [] := ⟨rfl, fun z hz => by simp at hz⟩
theorem Sqm.nil (n : Nat) : Sqm 0 n [] := ⟨rfl, fun z hz => by simp at hz⟩
theorem ownNl {w : World} {B n : Nat} {v : Value} {zs : List Int} (h : Nl n zs) (ho : Own w B tI v (ints zs)) : OwnInts w B tI v zs := ⟨ho, h.in64⟩
/-- one more row -/
theorem LA.push {w w2 w3 : World} {B : Nat} {v v' r : Value} {xss : List (List Int)} {zs : List Int} {vs : List Value} (h1 : Own w B tL v vs) (h2 : RR w B vs xss) (h3 : vs.Pairwise Apart) (hb : Below w.heap.size w w2) (hr : OwnInts w2 w.heap.size tI r zs) (hB : B ≤ w.heap.size) (ho : Own w3 B tL v' (vs ++ [r])) (hg : w2.grownBy w3 v.ownBlock) :
    RR w3 B (vs ++ [r]) (xss ++ [zs]) ∧ (vs ++ [r]).Pairwise Apart :=
  ⟨LL.snoc (h1.below hb) (h2.below hb) (hr.mono hB) ho hg, pairApart_snoc h3 (h2.fresh (Nat.le_refl _) hr.1.ge)⟩
set_option maxHeartbeats 4000000 in
theorem s_l09Row (w : World) (v : Value) (zs : List Int) (q : Int) (hv : Ints w v zs) (hz : ∀ z ∈ zs, -1000000 ≤ z ∧ z ≤ 1000000) (hn : zs.length ≤ 1000) (h0 : 0 ≤ q) (h1 : q ≤ 1000000) :
    Calls Tryz.prog 197 #[.int .i64 q, v] w fun e w' => ∃ x, e = .returned x ∧ ∃ us, OwnInts w' w.heap.size tI x us ∧ Nl zs.length us ∧ Below w.heap.size w w' := by
  obtain ⟨A, c, rfl, l1, l2, h3⟩ := hv.open_
  have H3 := Lib.hid h3
  have HZ := Lib.hid hz
  have OL := Lib.hid (show Own (w.alloc (.cells #[] tI)) w.heap.size tI (.slice (some ⟨w.heap.size, 0, none⟩) 0 0) (ints []) from own_lit w tI [] (by simp [maxLen]))
  have HV := Lib.hid hv
  clear hv h3 hz
  generalize hN : zs.length = N at *
  have HN := Lib.hid hN
  clear hN
  go_enter Tryz.func197, Tryz.ntmps197
  go_wp2_with fail
  go_loopw [5, 6] (fun o x wr => ∃ (i : Nat) (us : List Int), i ≤ N ∧ x = .int .i64 i ∧ Own wr w.heap.size tI o (ints us) ∧ Hid (Nl i us) ∧ Below w.heap.size w wr) (fun _ x _ => N - (intOf x).toNat)
  case atStart => exact ⟨0, [], Nat.zero_le _, rfl, OL.out, Nl.nil, below1 w _⟩
  case round =>
    obtain ⟨i, us, hi, rfl, ho, HU, hb⟩ := hrel
    rename World => wq
    clear OL
    have HO := Lib.hid ho
    have HB := Lib.hid hb
    obtain ⟨Ao, co, heo, -, -⟩ := ho.cells.open_
    rw [ints_len, HU.out.1] at heo
    subst heo
    clear ho hb
    by_cases hlt : i < N
    · have hii : (i : Int) < (N : Int) := by omega
      obtain ⟨ad, z, rfl, hz, hz2, hc⟩ := H3.out i hlt
      have hcw := keepCellD HB.out hc
      obtain ⟨b0, b1⟩ := HZ.out z (List.mem_of_getElem? hz)
      clear hz hz2 hc
      go_wp2_with (first
        | (go_at_call 119; go_loud ((with_reducible refine (s_l01FracZ _ _ _ b0 b1 h0 h1).mono ?_); rintro e w5 ⟨x5, rfl, hx, rfl⟩; have HX5 := Lib.hid hx; clear hx))
        | (at_builtin; go_loud (refine wpList_app1 T_int HO.out (by rw [ints_len, HU.out.1]; omega) HB.out.size (by rfl) rfl (by rfl) (by rfl) (by rfl) ?_; intro v7 w7 hown7 hgr7; have HN7 := Lib.hid hown7; have HR7 := Lib.hid hgr7; clear hown7 hgr7)))
      go_roundw
      case rel => exact ⟨i + 1, us ++ [x5], by omega, by go_num, by simpa [ints] using HN7.out, HU.out.snoc HX5.out, HR7.out.below HB.out HB.out.size HO.out.ge⟩
      case measure => simp [intOf]; omega
    · have hii : ¬ ((i : Int) < (N : Int)) := by omega
      have hin : i = N := by omega
      subst hin
      go_wp2_with fail
      go_ret
      exact ⟨_, rfl, us, ownNl HU.out HO.out, HU.out, HB.out⟩
set_option maxHeartbeats 8000000 in
theorem s_l09Square (w : World) (v : Value) (zs : List Int) (q : Int) (s : Nat) (hv : Ints w v zs) (hz : ∀ z ∈ zs, -1000000 ≤ z ∧ z ≤ 1000000) (hn : zs.length = s * s) (hs : s ≤ 10) (h0 : 0 ≤ q) (h1 : q ≤ 1000000) :
    Calls Tryz.prog 196 #[.int .i64 (s : Nat), .int .i64 q, v] w fun e w' => ∃ x, e = .returned x ∧ ∃ xss, LA w' w.heap.size x xss ∧ Sqm s s xss ∧ Below w.heap.size w w' := by
  obtain ⟨A, c, rfl, l1, l2, h3⟩ := hv.open_
  have H3 := Lib.hid h3
  have HZ := Lib.hid hz
  have OL := Lib.hid (show Own (w.alloc (.cells #[] tL)) w.heap.size tL (.slice (some ⟨w.heap.size, 0, none⟩) 0 0) [] from own_lit w tL [] (by simp [maxLen]))
  have HV := Lib.hid hv
  clear hv h3 hz
  generalize hN : zs.length = N at *
  have HN := Lib.hid hN
  have HNS := Lib.hid hn
  clear hN hn
  go_enter Tryz.func196, Tryz.ntmps196
  go_wp2_with fail
  go_loopw [7, 8] (fun o x wr => ∃ (i : Nat) (vs : List Value) (xss : List (List Int)), i ≤ s ∧ x = .int .i64 i ∧ Own wr w.heap.size tL o vs ∧ Hid (RR wr w.heap.size vs xss ∧ vs.Pairwise Apart ∧ Sqm i s xss) ∧ Below w.heap.size w wr) (fun _ x _ => s - (intOf x).toNat)
  case atStart => exact ⟨0, [], [], Nat.zero_le _, rfl, OL.out, ⟨RR.nil _ _, List.Pairwise.nil, Sqm.nil _⟩, below1 w _⟩
  case round =>
    obtain ⟨i, vs, xss, hi, rfl, ho, HU, hb⟩ := hrel
    rename World => wq
    clear OL
    have HO := Lib.hid ho
    have HB := Lib.hid hb
    have hvl : vs.length = i := HU.out.1.1.trans HU.out.2.2.1
    obtain ⟨Ao, co, heo, -, -⟩ := ho.cells.open_
    rw [hvl] at heo
    subst heo
    have HVL := Lib.hid hvl
    clear ho hb hvl
    by_cases hlt : i < s
    · have hii : (i : Int) < (s : Int) := by omega
      have OL1 := Lib.hid (show Own (wq.alloc (.cells #[] tI)) wq.heap.size tI (.slice (some ⟨wq.heap.size, 0, none⟩) 0 0) (ints []) from own_lit wq tI [] (by simp [maxLen]))
      have hmul : wrap64 ((i : Int) * (s : Int)) = ((i * s : Nat) : Int) := by
        have h5 : i * s ≤ 10 * 10 := Nat.mul_le_mul (by omega) hs
        rw [show ((i : Int) * (s : Int)) = ((i * s : Nat) : Int) by simp]
        exact w64_dr _ (by omega)
      have hmul2 : IntKind.i64.wrap ((i : Int) * (s : Int)) = ((i * s : Nat) : Int) := by
        have h5 : i * s ≤ 10 * 10 := Nat.mul_le_mul (by omega) hs
        rw [show ((i : Int) * (s : Int)) = ((i * s : Nat) : Int) by simp]
        exact wrap_i64 _ (by omega)
      have HIS := Lib.hid (show i * s + s ≤ N from by
        have h5 : (i + 1) * s ≤ s * s := Nat.mul_le_mul (by omega) (Nat.le_refl _)
        rw [Nat.succ_mul] at h5
        have := HNS.out
        omega)
      have h100 : i * s ≤ 100 := (show i * s ≤ 10 * 10 from Nat.mul_le_mul (by omega) hs)
      generalize i * s = I at hmul hmul2 HIS h100
      go_wp2_with fail
      go_loopw [9, 10] (fun o x wr => ∃ (k : Nat) (us : List Int), k ≤ s ∧ x = .int .i64 k ∧ Own wr wq.heap.size tI o (ints us) ∧ Hid (Nl k us) ∧ Below wq.heap.size wq wr) (fun _ x _ => s - (intOf x).toNat)
      case atStart => exact ⟨0, [], Nat.zero_le _, rfl, OL1.out, Nl.nil, below1 _ _⟩
      case round =>
        obtain ⟨k, us, hk, rfl, ho, HU1, hb⟩ := hrel
        rename World => wp
        clear OL1
        have HO1 := Lib.hid ho
        have HB1 := Lib.hid hb
        obtain ⟨Ap, cp, hep, -, -⟩ := ho.cells.open_
        rw [ints_len, HU1.out.1] at hep
        subst hep
        clear ho hb
        by_cases hlk : k < s
        · have hkk : (k : Int) < (s : Int) := by omega
          have hIN : I + k < N := by have := HIS.out; omega
          obtain ⟨ad, z, rfl, hz, hz2, hc⟩ := H3.out (I + k) hIN
          have hcw := keepCellD (HB.out.trans (HB1.out.mono HB.out.size)) hc
          have hsum : wrap64 ((I : Int) + (k : Int)) = ((I + k : Nat) : Int) := by rw [show ((I : Int) + (k : Int)) = ((I + k : Nat) : Int) by simp]; exact w64_dr _ (by omega)
          obtain ⟨b0, b1⟩ := HZ.out z (List.mem_of_getElem? hz)
          clear hz hz2 hc
          go_wp2_with (first
            | (go_at_call 119; go_loud ((with_reducible refine (s_l01FracZ _ _ _ b0 b1 h0 h1).mono ?_); rintro e w5 ⟨x5, rfl, hx, rfl⟩; have HX5 := Lib.hid hx; clear hx))
            | (at_builtin; go_loud (refine wpList_app1 T_int HO1.out (by rw [ints_len, HU1.out.1]; omega) HB1.out.size (by rfl) rfl (by rfl) (by rfl) (by rfl) ?_; intro v7 w7 hown7 hgr7; have HN7 := Lib.hid hown7; have HR7 := Lib.hid hgr7; clear hown7 hgr7)))
          go_roundw
          case rel => exact ⟨k + 1, us ++ [x5], by omega, by go_num, by simpa [ints] using HN7.out, HU1.out.snoc HX5.out, HR7.out.below HB1.out HB1.out.size HO1.out.ge⟩
          case measure => simp [intOf]; omega
        · have hkk : ¬ ((k : Int) < (s : Int)) := by omega
          have hks : k = s := by omega
          subst hks
          have HO5 := Lib.hid (HO.out.below HB1.out)
          have HB5 := Lib.hid (HB.out.trans (HB1.out.mono HB.out.size))
          go_wp2_with (at_builtin; go_loud (refine wpList_app1 T_row HO5.out (by rw [HVL.out]; omega) HB5.out.size (by rfl) rfl (by rfl) (by rfl) (by rfl) ?_; intro v7 w7 hown7 hgr7; have HN7 := Lib.hid hown7; have HR7 := Lib.hid hgr7; clear hown7 hgr7))
          go_roundw
          case rel =>
            obtain ⟨p1, p2⟩ := LA.push HO.out HU.out.1 HU.out.2.1 HB1.out (ownNl HU1.out HO1.out) HB.out.size HN7.out HR7.out.1
            exact ⟨i + 1, _, _, by omega, by go_num, HN7.out, ⟨p1, p2, HU.out.2.2.snoc HU1.out⟩, HR7.out.below HB5.out HB5.out.size HO5.out.ge⟩
          case measure => simp [intOf]; omega
    · have hii : ¬ ((i : Int) < (s : Int)) := by omega
      have his : i = s := by omega
      subst his
      go_wp2_with fail
      go_ret
      exact ⟨_, rfl, xss, ⟨vs, HO.out, HU.out.1, HU.out.2.1⟩, HU.out.2.2, HB.out⟩
end Go.Proofs.YtofabikjjkapmaaGreat

