/- Walk of the reference: DrawParseField. | Walks of helpers of the laws: likeInts, whole9, big. | Walk of a helper of the laws: likeField5 at two fields that are alike. -/
import Derived.Test.YtnnfjjadehgmeaaGreatDoorFt12
import Derived.Test.YtnnfjjadehgmeaaGreatDoorFt15
import Derived.Test.YtnnfjjadehgmeaaGreatDoorFt5
import Derived.Test.YtnnfjjadehgmeaaGreatDoorFt2
import Derived.Test.YtnnfjjadehgmeaaGreatDoorFt8
import Derived.Test.YtnnfjjadehgmeaaGreatDoorFt10
set_option maxRecDepth 100000
set_option linter.unusedVariables false
set_option linter.unusedSimpArgs false
namespace Go.Proofs.YtnnfjjadehgmeaaGreatDoor
open Go.RowKit

theorem joinTail_lenM (L : Nat) (b : UInt8) : ∀ ls : List (List UInt8), (∀ x ∈ ls, x.length ≤ L) → (Lib.joinTail [b] ls).length ≤ ls.length * (L + 1)
  | [], _ => by simp [Lib.joinTail]
  | x :: r, h => by
    have h1 := h x (by simp)
    have h2 := joinTail_lenM L b r fun y hy => h y (by simp [hy])
    simp only [Lib.joinTail, List.map_cons, List.flatten_cons, List.length_append, List.length_cons, List.length_nil] at h2 ⊢
    rw [Nat.add_mul]
    omega
theorem join_lenM (L : Nat) (b : UInt8) (ls : List (List UInt8)) (h : ∀ x ∈ ls, x.length ≤ L) : (Lib.join ls [b]).length ≤ ls.length * (L + 1) := by
  cases ls with
  | nil => simp [Lib.join_nil]
  | cons x r =>
    have h1 := h x (by simp)
    have h2 := joinTail_lenM L b r fun y hy => h y (by simp [hy])
    rw [Lib.join_cons, List.length_append, List.length_cons, Nat.add_mul]
    omega
theorem fld_small {n : Nat} {pss : List (List Mono)} (hn : n ≤ 3) (hl : pss.length = n) (h : ∀ ms ∈ pss, ms.length ≤ 3 ∧ ∀ m ∈ ms, MB n m) : (fldTx pss).length ≤ 100000 := by
  have hp : ∀ ms ∈ pss, (parTx ms).length ≤ 30315 := fun ms hms => by
    obtain ⟨h1, h2⟩ := h ms hms
    unfold parTx
    split
    · simp
    · have h3 := join_lenM 10104 43 (ms.map mTx) fun x hx => by
        obtain ⟨m, hm, rfl⟩ := List.mem_map.1 hx
        obtain ⟨a, b, c⟩ := h2 m hm
        exact mTx_len a.1 a.2 (by omega)
      rw [List.length_map] at h3
      have : ms.length * 10105 ≤ 3 * 10105 := Nat.mul_le_mul_right _ h1
      omega
  unfold fldTx
  have h3 := join_lenM 30315 59 (pss.map parTx) fun x hx => by
    obtain ⟨ms, hm, rfl⟩ := List.mem_map.1 hx
    exact hp ms hm
  rw [List.length_map] at h3
  have : pss.length * 30316 ≤ 3 * 30316 := Nat.mul_le_mul_right _ (by omega)
  omega
/-- what falls with each round of the loop -/
noncomputable def msW (p : Nat) (w : World) : Nat :=
  match w.heap[p]? with
  | some (.cells cs _ _) => (match (cs[0]? : Option Value), (cs[1]? : Option Value), (cs[2]? : Option Value) with
    | some (Value.slice _ n _), some (Value.int _ k), some (Value.int _ h) => ms h.toNat (n - k.toNat)
    | _, _, _ => 0)
  | _ => 0
theorem SrcX.ms_ {w : World} {B p h r : Nat} {t : TypeId} (s : SrcX w B t p h r) : msW p w = ms h r := by
  obtain ⟨A, n, c, k, hk, h1, h2, h3, h4, h5, h6⟩ := s
  have hk' : w.heap[p]? = some (.cells #[.slice A n c, .int .i64 k, .int .u64 (h : Nat)] t (0, 0)) := hk
  have e : n - k = r := by omega
  unfold msW
  rw [hk']
  simp [e]
theorem yt_eq (h : Nat) : yt h = yb (nx h) := by unfold yt; exact Eq.refl _
theorem u2_nx (h : Nat) : u2 h = nx (nx h) := by unfold u2; exact Eq.refl _
/-- one round -/
theorem rnd_ok {h r n n' h' r' z : Nat} (hl : LenI h r n) (hz0 : r = 0 → z = 0) (hk : (yb (nx h) + z) % 3 = 0) (hcase : (n' = 1 ∧ h' = nx (nx h) ∧ r' = r - 1 - 1) ∨ (n' ≤ n + 1 ∧ h' = nx (nx (nx (nx h))) ∧ r' = r - 1 - 1 - 1 - 1)) : LenI h' r' n' ∧ ms h' r' < ms h r := by
  by_cases hr : r = 0
  · have hy : yt h % 3 = 0 := by rw [yt_eq]; rw [hz0 hr, Nat.add_zero] at hk; exact hk
    subst hr
    rcases hcase with ⟨h1, h2, h3⟩ | ⟨h1, h2, h3⟩
    · have e : r' = 0 := by omega
      subst e
      rw [h2, ← u2_nx, h1]
      exact ⟨LenI.small _ _ (by omega), ms_u hy⟩
    · have e : r' = 0 := by omega
      subst e
      rw [h2, ← u2_nx (nx (nx h)), ← u2_nx h]
      exact ⟨hl.four hy h1, ms_uu hy⟩
  · rcases hcase with ⟨h1, h2, h3⟩ | ⟨h1, h2, h3⟩
    · exact ⟨hl.bytes hr (by omega) (by omega), ms_pos hr (by omega)⟩
    · exact ⟨hl.bytes hr (by omega) h1, ms_pos hr (by omega)⟩
set_option maxHeartbeats 8000000 in
theorem s_DrawParseField (w : World) (A : Option Addr) (N c : Nat) (hb : ByB w w.heap.size A N) (hN : N ≤ 4096) :
    Calls Tryz.prog 16 #[.slice A N c] w fun e w' => ∃ l : List UInt8, e = .returned (strB l) ∧ l.length ≤ 2150270080 ∧ Below w.heap.size w w' := by
  have HFR := Lib.hid (s_l01From w A N c hb hN)
  clear hb
  go_enter Tryz.func16, Tryz.ntmps16
  go_upto_region 3 with (first
    | (go_at_call 29; go_loud (refine HFR.out.mono ?_; rintro e w1 ⟨p, rfl, hs1, hb1⟩; have HS1 := Lib.hid hs1; have HB1 := Lib.hid hb1; have hpl := hs1.lt; have hpg := hs1.ge; clear hs1 hb1))
    | (go_at_call 35; go_loud (refine (s_l13Draw w1 _ p HS1.out).mono ?_; rintro e w2 ⟨u, n, pss, rfl, hn1, hn3, hpl3, hps, hfd, hg2, hs2⟩; have HFA := Lib.hid (show FieldArg w2 (.agg #[.int .i64 ((n : Nat) : Int), u]) ((n : Nat) : Int) pss from ⟨_, rfl, by unfold In64; omega, hfd.mrows⟩); have HPS := Lib.hid hps; have HLN := Lib.hid (fld_small hn3 hpl3 hps); have HG2 := Lib.hid hg2; have HS2 := Lib.hid hs2; clear hfd hg2 hs2 hps))
    | (go_at_call 20; go_loud (refine (s_l13TextM w2 _ _ pss HFA.out (by omega) (fun ms h1 m h2 => by obtain ⟨-, h3⟩ := HPS.out ms h1; obtain ⟨a, b, c⟩ := h3 m h2; exact ⟨a.1, a.2, by omega, c⟩) (fun ms h1 => by have := (HPS.out ms h1).1; omega)).mono ?_; rintro e w3 ⟨rfl, hb3⟩; have HB3 := Lib.hid hb3; clear hb3)))
  obtain ⟨h0, r0, hr0, hsx⟩ := (HS2.out.below HB3.out).srcX
  have HX := Lib.hid hsx
  have HGW := Lib.hid (show Below w.heap.size w w3 from (HB1.out.grown HG2.out HB1.out.size (fun k e => by injection e with e; omega)).trans (HB3.out.mono (Nat.le_trans HB1.out.size HG2.out.size)))
  have HL0 := Lib.hid (show LenI h0 r0 (fldTx pss).length from .inl (by have := HLN.out; omega))
  clear hsx hpl3 hn1 hn3 HFA HPS HLN
  generalize fldTx pss = l0 at HL0 ⊢
  go_loopw [4] (fun t wr => ∃ (l : List UInt8) (h r : Nat), t = strB l ∧ Hid (SrcX wr w.heap.size tSc p h r) ∧ Hid (LenI h r l.length) ∧ Hid (Below w.heap.size w wr)) (fun _ wr => msW p wr)
  case atStart => exact ⟨l0, h0, r0, rfl, HX, HL0, HGW⟩
  case round =>
    obtain ⟨l, h, r, rfl, HXR, HLR, HBR⟩ := hrel
    rename World => wq
    clear HX HL0 HGW
    have hll := HLR.out.le
    have HMS := Lib.hid HXR.out.ms_
    have HN := Lib.hid (s_l01NextX wq w.heap.size p 3 h r HXR.out (by omega) (by omega))
    go_upto_if 12 with (go_at_call 36; go_loud (refine HN.out.mono ?_; rintro e w4 ⟨z, rfl, hz0, -, hg, hs1⟩; obtain ⟨k, hk, hk3⟩ := pick3 (yb (nx h) + z); (rw [hk]); have HG1 := Lib.hid hg; have HS1 := Lib.hid hs1; have HZ0 := Lib.hid hz0; have HK := Lib.hid hk; clear hg hs1 hk hz0))
    obtain ⟨h1, hh1⟩ : ∃ h1, h1 = nx h := ⟨_, rfl⟩
    rw [← hh1] at HS1 HK
    have HH1 := Lib.hid hh1
    clear hh1 HN
    by_cases k0 : k = 0
    · have hd : ((k : Int) == 0) = true := by simp [k0]
      have HDM := Lib.hid (s_l01Damage w4 w.heap.size p h1 (r - 1) l HS1.out (by omega))
      have HKN := Lib.hid (show (yb (nx h) + z) % 3 = 0 by have e := HK.out; rw [k0, HH1.out] at e; omega)
      clear k0
      go_wp2_with (go_at_call 37; go_loud (refine HDM.out.mono ?_; rintro e w5 ⟨l', rfl, hg, hcase⟩; have HG5 := Lib.hid (gtrans HG1.out hg); have HC := Lib.hid hcase; clear hg hcase))
      have hcs : ∃ h' r', SrcX w5 w.heap.size tSc p h' r' ∧ ((l'.length = 1 ∧ h' = nx (nx h) ∧ r' = r - 1 - 1) ∨ (l'.length ≤ l.length + 1 ∧ h' = nx (nx (nx (nx h))) ∧ r' = r - 1 - 1 - 1 - 1)) := by
        rcases HC.out with ⟨-, a, b⟩ | ⟨-, a, b⟩
        · rw [HH1.out] at b; exact ⟨_, _, b, .inl ⟨a, rfl, rfl⟩⟩
        · rw [HH1.out] at b; exact ⟨_, _, b, .inr ⟨a, rfl, rfl⟩⟩
      obtain ⟨h', r', hx', hcs⟩ := hcs
      obtain ⟨g1, g2⟩ := rnd_ok HLR.out HZ0.out HKN.out hcs
      have HX5 := Lib.hid hx'
      have HL5 := Lib.hid g1
      have HM5 := Lib.hid (show msW p w5 < msW p wq by rw [hx'.ms_, HMS.out]; exact g2)
      clear hx' hcs g1 g2
      go_roundw
      case rel => exact ⟨l', h', r', rfl, HX5, HL5, Lib.hid (HBR.out.grown HG5.out HBR.out.size (fun k e => by injection e with e; omega))⟩
      case measure => exact HM5.out
    · have hd : ((k : Int) == 0) = false := by simp; exact k0
      clear k0
      go_wp2_with fail
      go_ret
      exact ⟨l, rfl, hll, HBR.out.grown HG1.out HBR.out.size (fun k e => by injection e with e; omega)⟩
end Go.Proofs.YtnnfjjadehgmeaaGreatDoor

set_option maxRecDepth 100000
set_option linter.unusedVariables false
set_option linter.unusedSimpArgs false
namespace Go.Proofs.YtnnfjjadehgmeaaGreatDoor
open Go.RowKit

set_option maxHeartbeats 400000 in
theorem l_likeInts (w : World) (a b : Value) (xs ys : List Int) (ha : Ints w a xs) (hb : Ints w b ys) :
    Calls Tryz.prog 34 #[a, b] w fun e w' => e = .returned (.bool (decide (xs = ys))) ∧ ∃ n, w' = w.drewN n := by
  obtain ⟨A, c, rfl, h1, h2, h3⟩ := ha.open_
  obtain ⟨B, d, rfl, g1, g2, g3⟩ := hb.open_
  clear ha hb
  have H3 := Lib.hid h3
  have G3 := Lib.hid g3
  clear h3 g3
  by_cases hl : xs.length = ys.length
  · have hl' : (((xs.length : Nat) : Int) != ((ys.length : Nat) : Int)) = false := by simp [hl]
    have HL := Lib.hid hl
    clear hl
    have g4 : ys.length ≤ xs.length := by rw [HL.out]; omega
    have g5 : xs.length ≤ ys.length := by rw [HL.out]; omega
    go_enter Tryz.func34, Tryz.ntmps34
    go_wp2
    go_loopw [5] (fun i wr => ∃ k n : Nat, k ≤ xs.length ∧ i = .int .i64 k ∧ xs.take k = ys.take k ∧ wr = w.drewN n) (fun i _ => xs.length - (intOf i).toNat)
    case atStart => exact ⟨0, 0, Nat.zero_le _, rfl, rfl, rfl⟩
    case round =>
      obtain ⟨k, n, hk, rfl, ht, rfl⟩ := hrel
      have HT := Lib.hid ht
      clear ht
      by_cases hlt : k < xs.length
      · obtain ⟨ad, z, rfl, hz, hz2, hc⟩ := H3.out k hlt
        obtain ⟨ad', y, rfl, hy, hy2, hc'⟩ := G3.out k (by omega)
        have HZ := Lib.hid hz
        have HY := Lib.hid hy
        clear hz hy hz2 hy2
        go_wp2
        go_quiet (fail)
        go_wp2
        · have hne : (z != y) = true := by assumption
          go_ret
          refine ⟨ret_bool ?_, _, World.drewN_drewN _ _ _⟩
          symm
          simp only [decide_eq_false_iff_not]
          rintro rfl
          have := HZ.out.symm.trans HY.out
          simp at this hne
          exact hne this
        · have hne : (z != y) = false := by assumption
          go_roundw
          case rel => exact ⟨k + 1, _, by omega, by go_num, take_eq_succ HT.out HZ.out HY.out (by simpa using hne), rfl⟩
          case measure => simp [intOf]; omega
      · have : k = xs.length := by omega
        subst this
        go_wp2
        go_ret
        refine ⟨ret_bool ?_, _, rfl⟩
        have e := HT.out
        rw [List.take_length, List.take_of_length_le (by omega)] at e
        simp [e]
  · have hl' : (((xs.length : Nat) : Int) != ((ys.length : Nat) : Int)) = true := by simp; omega
    have HL := Lib.hid hl
    clear hl
    go_enter Tryz.func34, Tryz.ntmps34
    go_wp2
    go_ret
    refine ⟨ret_bool ?_, 0, rfl⟩
    have := HL.out
    symm
    simp only [decide_eq_false_iff_not]
    rintro rfl
    exact this rfl

set_option maxHeartbeats 400000 in
theorem l_big (w : World) (A : Option Addr) (n c : Nat) :
    Calls Tryz.prog 10 #[.slice A n c] w fun e w' => e = .returned (.bool (decide (4096 < n))) ∧ w = w' := by
  by_cases h : 4096 < n
  · have hd : (4096 : Int) < (n : Int) := by omega
    have HD := Lib.hid (show decide (4096 < n) = true by simp [h])
    clear h
    go_enter Tryz.func10, Tryz.ntmps10
    go_wp2_with fail
    go_ret
    exact ⟨ret_bool HD.out.symm, rfl⟩
  · have hd : ¬ ((4096 : Int) < (n : Int)) := by omega
    have HD := Lib.hid (show decide (4096 < n) = false by simp [h])
    clear h
    go_enter Tryz.func10, Tryz.ntmps10
    go_wp2_with fail
    go_ret
    exact ⟨ret_bool HD.out.symm, rfl⟩
end Go.Proofs.YtnnfjjadehgmeaaGreatDoor

set_option maxRecDepth 100000
set_option linter.unusedVariables false
set_option linter.unusedSimpArgs false
namespace Go.Proofs.YtnnfjjadehgmeaaGreatDoor
open Go.RowKit

set_option maxHeartbeats 8000000 in
theorem l_likeField5 (w : World) (v v' : Value) (n : Int) (pss : List (List Mono)) (ha : FieldArg w v n pss) (hb : FieldArg w v' n pss) :
    Calls Tryz.prog 15 #[v, v'] w fun e w' => e = .returned (.bool true) ∧ Below w.heap.size w w' := by
  obtain ⟨vp, rfl, hn64, hP⟩ := ha
  obtain ⟨vq, rfl, -, hQ⟩ := hb
  obtain ⟨A, c, rfl, hA1, hA2, h3⟩ := hP.open_
  obtain ⟨A', c', rfl, -, -, g3⟩ := hQ.open_
  have H3 := Lib.hid h3
  have G3 := Lib.hid g3
  clear h3 g3 hP hQ hn64
  obtain ⟨W, hW⟩ : ∃ W, W = (w.alloc (.cells #[.int .i64 n, .slice A pss.length c] tFq)).alloc (.cells #[.int .i64 n, .slice A' pss.length c'] tFq) := ⟨_, rfl⟩
  obtain ⟨p1, hp1⟩ : ∃ p1, p1 = w.heap.size := ⟨_, rfl⟩
  obtain ⟨p2, hp2⟩ : ∃ p2, p2 = w.heap.size + 1 := ⟨_, rfl⟩
  have hs1 : (w.alloc (.cells #[.int .i64 n, .slice A pss.length c] tFq)).heap.size = w.heap.size + 1 := by simp
  have K1 : Blk W p1 tFq #[.int .i64 n, .slice A pss.length c] := by rw [hW, hp1]; exact (Blk.new w _ _).alloc _
  have K2 : Blk W p2 tFq #[.int .i64 n, .slice A' pss.length c'] := by rw [hW, hp2, ← hs1]; exact Blk.new _ _ _
  have HB := Lib.hid (show Below w.heap.size w W by rw [hW]; exact (below1 w _).alloc (by simp) _)
  go_enter Tryz.func15, Tryz.ntmps15
  go_upto_region 1 with fail
  first | rw [← hW] | skip
  first | rw [← hp2] | skip
  first | rw [← hp1] | skip
  clear hW hs1
  have a0 : W.cell? ⟨p1, 0, none⟩ = some (.int .i64 n) := K1.cell 0
  have a1 : W.cell? ⟨p1, 1, none⟩ = some (.slice A pss.length c) := K1.cell 1
  have b0 : W.cell? ⟨p2, 0, none⟩ = some (.int .i64 n) := K2.cell 0
  have b1 : W.cell? ⟨p2, 1, none⟩ = some (.slice A' pss.length c') := K2.cell 1
  clear K1 K2 hp1 hp2
  have hw1 : W.heap.size = W.heap.size := rfl
  go_wp2_with fail
  go_loopw [5] (fun i wr => ∃ k m : Nat, k ≤ pss.length ∧ i = .int .i64 k ∧ wr = W.drewN m) (fun i _ => pss.length - (intOf i).toNat)
  case atStart => exact ⟨0, 0, Nat.zero_le _, rfl, rfl⟩
  case round =>
    obtain ⟨k, m, hk, rfl, rfl⟩ := hrel
    by_cases hlt : k < pss.length
    · obtain ⟨ad, u, ms, rfl, hms, hu, hc⟩ := H3.out k hlt
      obtain ⟨ad', u', ms', rfl, hms', hu', hc'⟩ := G3.out k hlt
      have e : ms' = ms := Option.some.inj (hms'.symm.trans hms)
      subst e
      have cw : W.cell? (ad.add k) = some u := (HB.out.cell (World.block_lt_of_cell? w _ hc)).trans hc
      have cw' : W.cell? (ad'.add k) = some u' := (HB.out.cell (World.block_lt_of_cell? w _ hc')).trans hc'
      obtain ⟨Au, cu, rfl, hU1, hU2, hm3⟩ := hu.open_
      obtain ⟨Au', cu', rfl, -, -, hm3'⟩ := hu'.open_
      have HM := Lib.hid hm3
      have HM' := Lib.hid hm3'
      have hki : (k : Int) < (pss.length : Int) := by omega
      have hwk : wrap64 ((k : Int) + 1) = (k : Int) + 1 := w64_dr _ (by omega)
      clear hms hms' hu hu' hc hc' hm3 hm3'
      go_upto_region 6 with fail
      go_quiet (fail)
      go_wp2_with fail
      go_loopw [6] (fun i wr => ∃ j m : Nat, j ≤ ms'.length ∧ i = .int .i64 j ∧ wr = W.drewN m) (fun i _ => ms'.length - (intOf i).toNat)
      case atStart => exact ⟨0, _, Nat.zero_le _, rfl, by first | rfl | exact World.drewN_drewN _ _ _ | simp⟩
      case round =>
        obtain ⟨j, m2, hj, rfl, rfl⟩ := hrel
        by_cases hlj : j < ms'.length
        · obtain ⟨b, o, x, y, hA, hx, hxi, hy, hc0, hc1⟩ := HM.out j hlj
          obtain ⟨b', o', x', y', hA', hx', hxi', hy', hc0', hc1'⟩ := HM'.out j hlj
          have e : x' = x := Option.some.inj (hx'.symm.trans hx)
          subst e
          subst hA hA'
          have d0 : W.cell? ⟨b, o + j * 2, none⟩ = some (.int .i64 x'.1) := (HB.out.cell (World.block_lt_of_cell? w _ hc0)).trans hc0
          have d1 : W.cell? ⟨b, o + j * 2 + 1, none⟩ = some y := (HB.out.cell (World.block_lt_of_cell? w _ hc1)).trans hc1
          have e0 : W.cell? ⟨b', o' + j * 2, none⟩ = some (.int .i64 x'.1) := (HB.out.cell (World.block_lt_of_cell? w _ hc0')).trans hc0'
          have e1 : W.cell? ⟨b', o' + j * 2 + 1, none⟩ = some y' := (HB.out.cell (World.block_lt_of_cell? w _ hc1')).trans hc1'
          have HLI := Lib.hid (fun m => l_likeInts (W.drewN m) y y' x'.2 x'.2 ((hy.below HB.out).drewN m) ((hy'.below HB.out).drewN m))
          simp only [show decide (x'.2 = x'.2) = true from decide_eq_true rfl] at HLI
          have hji : (j : Int) < (ms'.length : Int) := by omega
          have hwj : wrap64 ((j : Int) + 1) = (j : Int) + 1 := w64_dr _ (by omega)
          clear hx hx' hxi hxi' hy hy' hc0 hc1 hc0' hc1'
          go_upto_region 11 with fail
          go_quiet (first
            | (go_at_call 34; exact quiet_more (HLI.out _)))
          go_wp2_with fail
          go_roundw
          case rel => exact ⟨j + 1, _, by omega, by go_num, rfl⟩
          case measure => simp [intOf]; omega
        · have : j = ms'.length := by omega
          subst this
          go_wp2_with fail
          go_roundw
          case rel => exact ⟨k + 1, _, by omega, by go_num, rfl⟩
          case measure => simp [intOf]; omega
    · have : k = pss.length := by omega
      subst this
      go_wp2_with fail
      go_ret
      exact ⟨rfl, below_drewN HB.out _⟩
end Go.Proofs.YtnnfjjadehgmeaaGreatDoor

