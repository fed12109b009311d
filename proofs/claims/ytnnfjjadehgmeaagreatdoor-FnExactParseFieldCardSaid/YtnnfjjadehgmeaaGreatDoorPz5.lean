/- Walk of the reference: l13Text. | Plain: fields read from texts. No walk. | Contracts of the library, laid: strconv.FormatInt at base 10, strings.Join. | Walk of the program: numberText. | Contracts of the library, laid: strconv.ParseInt, strings.Split, Cut, CutPrefix. -/
import Derived.Test.YtnnfjjadehgmeaaGreatDoorPz4
import Derived.Test.YtnnfjjadehgmeaaGreatDoorPz3
import Derived.Deep.CutRange
import Derived.Shelf.Strconv.Itoa4
import Derived.Shelf.Strings.OnBuilder
import Derived.Lib.LaidTab
import Derived.Test.YtnnfjjadehgmeaaGreatDoorPz2
import Derived.Deep.CutBlock
import Derived.Shelf.Strings.Split
import Derived.Shelf.Strings.Cut
import Derived.Shelf.Small.Wraps
import Derived.Shelf.Strconv.ErrVarParseInt
set_option maxRecDepth 100000
set_option linter.unusedVariables false
set_option linter.unusedSimpArgs false
namespace Go.Proofs.YtnnfjjadehgmeaaGreatDoor
open Go.RowKit

theorem monoB_bd {n : Int} {m : Mono} (hn : n ≤ 3) (h : monoB n m = true) : 1 ≤ m.1 ∧ m.1 ≤ 10006 ∧ m.2.length ≤ 3 ∧ ∀ e ∈ m.2, 0 ≤ e ∧ e ≤ 3 := by
  unfold monoB at h
  simp only [Bool.and_eq_true, Bool.not_eq_true', decide_eq_false_iff_not, decide_eq_true_eq] at h
  obtain ⟨h1, h2, h3, h4⟩ := h
  unfold isNum at h3
  have h3' := inR_iff.1 h3
  unfold degOk powOk at h1
  simp only [Bool.and_eq_true, List.all_eq_true] at h1
  refine ⟨by omega, by omega, by omega, fun e he => inR_iff.1 (h1.1 e he)⟩
theorem fieldB_mono {n : Int} {pss : List (List Mono)} (h : fieldB n pss = true) : 1 ≤ pss.length ∧ pss.length ≤ 3 ∧ ∀ ms ∈ pss, ∀ m ∈ ms, 1 ≤ m.1 ∧ m.1 ≤ 10006 ∧ m.2.length ≤ 3 ∧ ∀ e ∈ m.2, 0 ≤ e ∧ e ≤ 3 := by
  unfold fieldB at h
  simp only [Bool.and_eq_true, decide_eq_true_eq, List.all_eq_true] at h
  obtain ⟨h1, h2, h3⟩ := h
  have h1' := inR_iff.1 h1
  refine ⟨by omega, by omega, fun ms hms m hm => monoB_bd h1'.2 ?_⟩
  have h4 := h3 ms hms
  unfold partB at h4
  simp only [List.all_eq_true] at h4
  obtain ⟨k, hk, rfl⟩ := List.getElem_of_mem hm
  have h5 := h4 k (List.mem_range.2 hk)
  unfold badAt at h5
  simp only [List.getD, List.getElem?_eq_getElem hk, Option.getD_some] at h5
  cases hb : monoB n ms[k] with
  | true => rfl
  | false => rw [hb] at h5; simp at h5
theorem len1 (a : List UInt8) (x : UInt8) : (a ++ [x]).length = a.length + 1 := by simp
theorem bd1 {a J k q : Nat} (h : a ≤ J + 2 + k * 10110 + 10102 + q) (hq : q ≤ 3) : a ≤ J + 2 + (k + 1) * 10110 := by omega
theorem s_l01Dec_digit (e : Int) (W : World) (h0 : 0 ≤ e) (h1 : e ≤ 3) : Calls Tryz.prog 44 #[.int .i64 e] W fun x w' => x = .returned (strB [digB e]) ∧ Below W.heap.size W w' := by
  have h := s_l01Dec_small e.toNat W (by omega)
  rw [show ((e.toNat : Nat) : Int) = e by omega] at h
  refine h.mono fun x w' ⟨hx, hb⟩ => ⟨?_, hb⟩
  rw [hx, Lib.decDigits, dif_pos (by omega)]
  rfl
theorem l13_fin {pss : List (List Mono)} {j : Nat} {ms : List Mono} {T T2 T3 X : List UInt8} (hm : pss[j]? = some ms) (hT : T = fldTx (pss.take j)) (hT2 : T2 = if j = 0 then T else T ++ [59]) (hT3 : T3 = if ms.length = 0 then T2 ++ [48] else T2) (hX : X = T3 ++ Lib.join ((ms.take ms.length).map mTx) [43]) : X = fldTx (pss.take (j + 1)) := by
  rw [fldTx_take hm, hX, hT3, hT2, hT, List.take_length]
  unfold parTx
  by_cases h0 : j = 0
  · subst h0
    by_cases hm0 : ms = []
    · subst hm0; simp [Lib.join_nil, fldTx]
    · have hl : ms.length ≠ 0 := fun h => hm0 (List.eq_nil_of_length_eq_zero h)
      simp [hm0, hl, Lib.join_nil, fldTx]
  · by_cases hm0 : ms = []
    · subst hm0; simp [h0, Lib.join_nil]
    · have hl : ms.length ≠ 0 := fun h => hm0 (List.eq_nil_of_length_eq_zero h)
      simp [hm0, hl, h0]
theorem l13_mono {ms : List Mono} {k : Nat} {f : Int} {ps : List Int} {T3 X X2 X3 Y : List UInt8} (hm : ms[k]? = some (f, ps)) (hX : X = T3 ++ Lib.join ((ms.take k).map mTx) [43]) (hX2 : X2 = if k = 0 then X else X ++ [43]) (hX3 : X3 = X2 ++ numTx f ++ [58]) (hY : Y = X3 ++ (ps.take ps.length).map digB) : Y = T3 ++ Lib.join ((ms.take (k + 1)).map mTx) [43] := by
  rw [parTx_take hm, hY, hX3, hX2, hX, List.take_length]
  unfold mTx
  by_cases h0 : k = 0
  · subst h0; simp [Lib.join_nil]
  · simp [h0]
set_option maxHeartbeats 8000000 in
theorem s_l13Text (w : World) (v : Value) (n : Int) (pss : List (List Mono)) (ha : FieldArg w v n pss) (hF : fieldB n pss = true) (hs : ∀ ms ∈ pss, ms.length ≤ 4294967296) :
    Calls Tryz.prog 20 #[v] w fun e w' => e = .returned (strB (fldTx pss)) ∧ Below w.heap.size w w' := by
  obtain ⟨-, hpl, hmon⟩ := fieldB_mono hF
  obtain ⟨vp, rfl, hn64, hP⟩ := ha
  obtain ⟨A, c, rfl, l1, l2, h3⟩ := hP.open_
  have H3 := Lib.hid h3
  have HS := Lib.hid hs
  have HMN := Lib.hid hmon
  clear hP h3 hs hmon hF hn64
  have B0 := Lib.hid (below1 w (.cells #[.int .i64 n, .slice A pss.length c] 24))
  have K0 := Lib.hid (Blk.new w #[.int .i64 n, .slice A pss.length c] 24)
  go_enter Tryz.func20, Tryz.ntmps20
  go_wp2_with fail
  generalize (w.alloc (.cells #[.int .i64 n, .slice A pss.length c] 24)) = w1 at B0 K0 ⊢
  go_loopw [3, 4] (fun t i wr => ∃ (j : Nat) (T : List UInt8), j ≤ pss.length ∧ i = .int .i64 j ∧ t = strB T ∧ Hid (T = fldTx (pss.take j)) ∧ T.length ≤ j * 60000000000000 ∧ Blk wr w.heap.size 24 #[.int .i64 n, .slice A pss.length c] ∧ Below w.heap.size w wr) (fun _ i _ => pss.length - (intOf i).toNat)
  case atStart => exact ⟨0, [], Nat.zero_le _, rfl, rfl, Lib.hid rfl, by simp, K0.out, B0.out⟩
  case round =>
    obtain ⟨j, T, hj, rfl, rfl, hT, hTl, hk0, hb⟩ := hrel
    clear K0 B0
    have KW := Lib.hid hk0
    have BW := Lib.hid hb
    clear hk0 hb
    have g1 : wr.cell? ⟨w.heap.size, 1, none⟩ = some (.slice A pss.length c) := KW.out.cell 1
    by_cases hlt : j < pss.length
    · obtain ⟨ad, u, ms, rfl, hm, hu, hc0⟩ := H3.out j hlt
      obtain ⟨A5, c5, rfl, p1, p2, hu3⟩ := hu.open_
      have HU := Lib.hid hu3
      have HM := Lib.hid hm
      have HSM := Lib.hid (HMN.out ms (List.mem_of_getElem? hm))
      have hms := HS.out ms (List.mem_of_getElem? hm)
      have HCJ := Lib.hid (show ∀ W : World, Below w.heap.size w W → W.cell? (ad.add j) = some (.slice A5 ms.length c5) from fun W hW => by rw [hW.cell (by rw [block_add]; have := World.block_lt_of_cell? w _ hc0; rwa [block_add] at this)]; exact hc0)
      have hji : (j : Int) < (pss.length : Int) := by omega
      clear hm hu hc0 hu3
      have hb1 : ¬ (9223372036854775807 < T.length + 1) := by omega
      obtain ⟨T2, hT2⟩ : ∃ T2, T2 = if j = 0 then T else T ++ [59] := ⟨_, rfl⟩
      have hT2l : T2.length ≤ j * 60000000000000 + 1 := by rw [hT2]; split <;> (first | exact Nat.le_succ_of_le hTl | (rw [len1]; exact Nat.succ_le_succ hTl))
      have HT2 := Lib.hid hT2
      clear hT2
      go_upto_if 15 with fail
      go_cut [3] from 7 to 82 (fun x wx => x = strB T2 ∧ Blk wx w.heap.size 24 #[.int .i64 n, .slice (some ad) pss.length c] ∧ Below w.heap.size w wx)
      case first =>
        by_cases hj0 : j = 0
        · have HE := Lib.hid (show T2 = T by rw [HT2.out, if_pos hj0])
          have hjn : ¬ (0 : Int) < (j : Int) := by omega
          clear hj0
          go_wp2_with fail
          go_meet
          exact ⟨by rw [HE.out], KW.out, BW.out⟩
        · have HE := Lib.hid (show T2 = T ++ [59] by rw [HT2.out, if_neg hj0])
          have hjp : (0 : Int) < (j : Int) := by omega
          clear hj0
          go_wp2_with fail
          go_meet
          exact ⟨by rw [HE.out, str_cat2], KW.out, BW.out⟩
      case rest =>
        obtain ⟨rfl, hk1, hb1'⟩ := hcut
        rename World => wz
        clear g1 hb1
        have KW2 := Lib.hid hk1
        have BW2 := Lib.hid hb1'
        clear hk1 hb1' KW BW
        have g1 : wz.cell? ⟨w.heap.size, 1, none⟩ = some (.slice (some ad) pss.length c) := KW2.out.cell 1
        have gj : wz.cell? (ad.add j) = some (.slice A5 ms.length c5) := HCJ.out wz BW2.out
        have hb2 : ¬ (9223372036854775807 < T2.length + 1) := by omega
        obtain ⟨T3, hT3⟩ : ∃ T3, T3 = if ms.length = 0 then T2 ++ [48] else T2 := ⟨_, rfl⟩
        have hT3l : T3.length ≤ j * 60000000000000 + 2 := by rw [hT3]; split <;> (first | exact Nat.le_succ_of_le hT2l | (rw [len1]; exact Nat.succ_le_succ hT2l))
        have HT3 := Lib.hid hT3
        clear hT3
        go_upto_if 24 with fail
        go_cut [3] from 7 to 82 (fun x wx => x = strB T3 ∧ Blk wx w.heap.size 24 #[.int .i64 n, .slice (some ad) pss.length c] ∧ Below w.heap.size w wx)
        case first =>
          by_cases hm0 : ms.length = 0
          · have HE := Lib.hid (show T3 = T2 ++ [48] by rw [HT3.out, if_pos hm0])
            have hmb : ((ms.length : Int) == 0) = true := by simp [hm0]
            clear hm0
            go_wp2_with fail
            go_meet
            exact ⟨by rw [HE.out, str_cat2], KW2.out, BW2.out⟩
          · have HE := Lib.hid (show T3 = T2 by rw [HT3.out, if_neg hm0])
            have hmb : ((ms.length : Int) == 0) = false := by rw [beq_eq_false_iff_ne]; omega
            clear hm0
            go_wp2_with fail
            go_meet
            exact ⟨by rw [HE.out], KW2.out, BW2.out⟩
        case rest =>
          obtain ⟨rfl, hk1, hb1'⟩ := hcut
          rename World => wy
          clear g1 gj hb2
          have KW3 := Lib.hid hk1
          have BW3 := Lib.hid hb1'
          clear hk1 hb1' KW2 BW2
          go_wp2_with fail
          go_loopw [3, 5] (fun t i wi => ∃ (k : Nat) (X : List UInt8), k ≤ ms.length ∧ i = .int .i64 k ∧ t = strB X ∧ Hid (X = T3 ++ Lib.join ((ms.take k).map mTx) [43]) ∧ X.length ≤ j * 60000000000000 + 2 + k * 10110 ∧ Blk wi w.heap.size 24 #[.int .i64 n, .slice (some ad) pss.length c] ∧ Below w.heap.size w wi) (fun _ i _ => ms.length - (intOf i).toNat)
          case atStart => exact ⟨0, T3, Nat.zero_le _, rfl, rfl, Lib.hid (by simp [Lib.join_nil]), by omega, KW3.out, BW3.out⟩
          case round =>
            obtain ⟨k, X, hk, rfl, rfl, hX, hXl, hk0, hb⟩ := hrel
            rename World => wv
            clear KW3 BW3
            have KW := Lib.hid hk0
            have BW := Lib.hid hb
            clear hk0 hb
            have g1 : wv.cell? ⟨w.heap.size, 1, none⟩ = some (.slice (some ad) pss.length c) := KW.out.cell 1
            have gj : wv.cell? (ad.add j) = some (.slice A5 ms.length c5) := HCJ.out wv BW.out
            by_cases hlt2 : k < ms.length
            · obtain ⟨bm, om, m, um, rfl, hmk, hf64, hum, hcf, hcu⟩ := HU.out k hlt2
              obtain ⟨f, ps⟩ := m
              have hab : bm < w.heap.size := World.block_lt_of_cell? w _ hcf
              obtain ⟨Ap, cp, rfl, hp1, hp2, hup⟩ := hum.open_
              simp only at hcu hcf hum hp1 hup
              have HQ0 := Lib.hid (show ∀ W : World, Below w.heap.size w W → W.cell? ⟨bm, om + k * 2, none⟩ = some (.int .i64 f) from fun W hW => by rw [hW.cell (by exact hab)]; exact hcf)
              have HQ1 := Lib.hid (show ∀ W : World, Below w.heap.size w W → W.cell? ⟨bm, om + k * 2 + 1, none⟩ = some (.slice Ap ps.length cp) from fun W hW => by rw [hW.cell (by exact hab)]; exact hcu)
              have HUP := Lib.hid hup
              have HMK := Lib.hid hmk
              obtain ⟨hf1, hf2, hpl3, hpe⟩ := HSM.out (f, ps) (List.mem_of_getElem? hmk)
              simp only at hf1 hf2 hpl3 hpe
              have HPE := Lib.hid hpe
              have hki : (k : Int) < (ms.length : Int) := by omega
              clear hmk hf64 hum hcf hcu hup hpe
              have hb1 : ¬ (9223372036854775807 < X.length + 1) := by omega
              obtain ⟨X2, hX2⟩ : ∃ X2, X2 = if k = 0 then X else X ++ [43] := ⟨_, rfl⟩
              have hX2l : X2.length ≤ j * 60000000000000 + 2 + k * 10110 + 1 := by rw [hX2]; split <;> (first | exact Nat.le_succ_of_le hXl | (rw [len1]; exact Nat.succ_le_succ hXl))
              have HX2 := Lib.hid hX2
              clear hX2
              go_upto_if 38 with fail
              go_cut [3] from 27 to 82 (fun x wx => x = strB X2 ∧ Blk wx w.heap.size 24 #[.int .i64 n, .slice (some ad) pss.length c] ∧ Below w.heap.size w wx)
              case first =>
                by_cases hk0 : k = 0
                · have HE := Lib.hid (show X2 = X by rw [HX2.out, if_pos hk0])
                  have hkn : ¬ (0 : Int) < (k : Int) := by omega
                  clear hk0
                  go_wp2_with fail
                  go_meet
                  exact ⟨by rw [HE.out], KW.out, BW.out⟩
                · have HE := Lib.hid (show X2 = X ++ [43] by rw [HX2.out, if_neg hk0])
                  have hkp : (0 : Int) < (k : Int) := by omega
                  have hkp2 : 0 < k := by omega
                  clear hk0
                  go_wp2_with fail
                  go_meet
                  exact ⟨by rw [HE.out, str_cat2], KW.out, BW.out⟩
              case rest =>
                obtain ⟨rfl, hk1, hb1'⟩ := hcut
                rename World => ws
                clear g1 gj hb1
                have KS := Lib.hid hk1
                have BS := Lib.hid hb1'
                clear hk1 hb1' KW BW
                have g1 : ws.cell? ⟨w.heap.size, 1, none⟩ = some (.slice (some ad) pss.length c) := KS.out.cell 1
                have gj : ws.cell? (ad.add j) = some (.slice (some ⟨bm, om, none⟩) ms.length c5) := HCJ.out ws BS.out
                have gk : ws.cell? ⟨bm, om + k * 2, none⟩ = some (.int .i64 f) := HQ0.out ws BS.out
                have hNl := numTx_len (a := f) (by omega) hf2
                have HLT := Lib.hid (fun W => s_l01Text f W (by omega) hf2)
                obtain ⟨NT, hNT⟩ : ∃ NT, NT = numTx f := ⟨_, rfl⟩
                rw [← hNT] at hNl HLT
                have HNT := Lib.hid hNT
                clear hNT
                have hb3 : ¬ (9223372036854775807 < X2.length + NT.length) := by omega
                have hb4 : ¬ (9223372036854775807 < X2.length + NT.length + 1) := by omega
                go_wp2_with (go_at_call 43; refine (HLT.out _).mono ?_; rintro e w2 ⟨rfl, hb2⟩; have B2 := Lib.hid (BS.out.trans (hb2.mono BS.out.size)); have K2 := Lib.hid (KS.out.below hb2 KS.out.lt); clear hb2)
                clear g1 gj gk
                obtain ⟨X3, hX3⟩ : ∃ X3, X3 = X2 ++ NT ++ [58] := ⟨_, rfl⟩
                have hX3l : X3.length ≤ j * 60000000000000 + 2 + k * 10110 + 10102 := by rw [hX3]; simp; omega
                have hX3s : Value.string ((⟨X2.toArray⟩ : ByteArray) ++ ⟨NT.toArray⟩ ++ ⟨#[58]⟩) = strB X3 := by rw [hX3, str_cat X2 NT, str_cat2]
                first | rw [hX3s] | skip
                have HX3 := Lib.hid hX3
                clear hX3
                go_loopw [3, 6] (fun t i wx => ∃ (q : Nat) (Y : List UInt8), q ≤ ps.length ∧ i = .int .i64 q ∧ t = strB Y ∧ Hid (Y = X3 ++ (ps.take q).map digB) ∧ Y.length ≤ j * 60000000000000 + 2 + k * 10110 + 10102 + q ∧ Blk wx w.heap.size 24 #[.int .i64 n, .slice (some ad) pss.length c] ∧ Below w.heap.size w wx) (fun _ i _ => ps.length - (intOf i).toNat)
                case atStart => exact ⟨0, X3, Nat.zero_le _, rfl, by first | rfl | exact hX3s, Lib.hid (by simp), by omega, K2.out, B2.out⟩
                case round =>
                  obtain ⟨q, Y, hq, rfl, rfl, hY, hYl, hk0, hb⟩ := hrel
                  rename World => wu
                  clear K2 B2 hX3s
                  have KU := Lib.hid hk0
                  have BU := Lib.hid hb
                  clear hk0 hb
                  have g1 : wu.cell? ⟨w.heap.size, 1, none⟩ = some (.slice (some ad) pss.length c) := KU.out.cell 1
                  have gj : wu.cell? (ad.add j) = some (.slice (some ⟨bm, om, none⟩) ms.length c5) := HCJ.out wu BU.out
                  have gk : wu.cell? ⟨bm, om + k * 2 + 1, none⟩ = some (.slice Ap ps.length cp) := HQ1.out wu BU.out
                  by_cases hlt3 : q < ps.length
                  · obtain ⟨ap, e, rfl, he, he64, hce⟩ := HUP.out q hlt3
                    have hce2 : wu.cell? (ap.add q) = some (.int .i64 e) := by
                      rw [BU.out.cell (by rw [block_add]; have := World.block_lt_of_cell? w _ hce; rwa [block_add] at this)]; exact hce
                    have hqi : (q : Int) < (ps.length : Int) := by omega
                    have hee := HPE.out e (List.mem_of_getElem? he)
                    have HLD := Lib.hid (fun W => s_l01Dec_digit e W hee.1 hee.2)
                    have HTK := Lib.hid (show (ps.take (q + 1)).map digB = (ps.take q).map digB ++ [digB e] by rw [List.take_add_one, he]; simp)
                    clear he he64 hce hee
                    have hb5 : ¬ (9223372036854775807 < Y.length + 1) := by omega
                    go_wp2_with (go_at_call 44; refine (HLD.out _).mono ?_; rintro e w2 ⟨rfl, hb2⟩)
                    clear g1 gj gk hce2
                    go_roundw
                    case rel => exact ⟨q + 1, Y ++ [digB e], by omega, by go_num, congrArg Value.string (str_cat Y [digB e]), Lib.hid (by rw [hY.out, HTK.out, List.append_assoc]), by rw [len1, ← Nat.add_assoc]; exact Nat.succ_le_succ hYl, KU.out.below hb2 KU.out.lt, BU.out.trans (hb2.mono BU.out.size)⟩
                    case measure => simp [intOf]; omega
                  · have hqe : q = ps.length := by omega
                    subst hqe
                    have HFN := Lib.hid (l13_mono HMK.out hX.out HX2.out (by rw [HX3.out, HNT.out]) hY.out)
                    go_wp2_with fail
                    clear g1 gj gk
                    go_roundw
                    case rel => exact ⟨k + 1, Y, by omega, by go_num, rfl, HFN, bd1 hYl hpl3, KU.out, BU.out⟩
                    case measure => simp [intOf]; omega
            · have hke : k = ms.length := by omega
              subst hke
              have HFN := Lib.hid (l13_fin HM.out hT.out HT2.out HT3.out hX.out)
              go_wp2_with fail
              clear g1 gj
              go_roundw
              case rel => exact ⟨j + 1, X, by omega, by go_num, rfl, HFN, by omega, KW.out, BW.out⟩
              case measure => simp [intOf]; omega
    · have hje : j = pss.length := by omega
      subst hje
      have HFN := Lib.hid (show T = fldTx pss by rw [hT.out, List.take_length])
      go_wp2_with fail
      go_ret
      exact ⟨by rw [HFN.out]; rfl, BW.out⟩
end Go.Proofs.YtnnfjjadehgmeaaGreatDoor

set_option maxRecDepth 100000
set_option linter.unusedVariables false
set_option linter.unusedSimpArgs false
namespace Go.Proofs.YtnnfjjadehgmeaaGreatDoor
open Go.RowKit

/-- each read, or none -/
def optL {α β : Type} (M : α → Option β) : List α → Option (List β)
  | [] => some []
  | t :: r => match M t with
    | none => none
    | some m => match optL M r with
      | none => none
      | some ms => some (m :: ms)
theorem optL_snoc {α β : Type} {M : α → Option β} : ∀ {xs : List α} {ms : List β} {t : α} {m : β}, optL M xs = some ms → M t = some m → optL M (xs ++ [t]) = some (ms ++ [m])
  | [], ms, t, m, h, ht => by
    rw [optL] at h
    injection h with h
    subst h
    simp [optL, ht]
  | x :: r, ms, t, m, h, ht => by
    rw [optL] at h
    rw [List.cons_append, optL]
    cases hx : M x with
    | none => rw [hx] at h; cases h
    | some y =>
      rw [hx] at h
      simp only at h ⊢
      cases hr : optL M r with
      | none => rw [hr] at h; cases h
      | some ys =>
        rw [hr] at h
        injection h with h
        subst h
        rw [optL_snoc hr ht]
        rfl
theorem optL_none {α β : Type} {M : α → Option β} : ∀ {xs : List α} {t : α}, t ∈ xs → M t = none → optL M xs = none
  | x :: r, t, h, ht => by
    rw [optL]
    rcases List.mem_cons.1 h with rfl | h
    · rw [ht]
    · cases M x with
      | none => rfl
      | some y => simp only; rw [optL_none h ht]
theorem optL_take {α β : Type} {M : α → Option β} {xs : List α} {k : Nat} {t : α} {ms : List β} {m : β} (h : optL M (xs.take k) = some ms) (hk : xs[k]? = some t) (ht : M t = some m) : optL M (xs.take (k + 1)) = some (ms ++ [m]) := by
  rw [List.take_add_one, hk]
  exact optL_snoc h ht
theorem optL_map {α β : Type} {M : α → Option β} {f : β → α} : ∀ {ms : List β}, (∀ m ∈ ms, M (f m) = some m) → optL M (ms.map f) = some ms
  | [], _ => rfl
  | m :: r, h => by
    rw [List.map_cons, optL, h m (by simp), optL_map fun x hx => h x (by simp [hx])]
theorem optL_len {α β : Type} {M : α → Option β} : ∀ {xs : List α} {ms : List β}, optL M xs = some ms → ms.length = xs.length
  | [], ms, h => by rw [optL] at h; injection h with h; subst h; rfl
  | x :: r, ms, h => by
    rw [optL] at h
    cases hx : M x with
    | none => rw [hx] at h; cases h
    | some y =>
      rw [hx] at h
      simp only at h
      cases hr : optL M r with
      | none => rw [hr] at h; cases h
      | some ys =>
        rw [hr] at h
        injection h with h
        subst h
        rw [List.length_cons, List.length_cons, optL_len hr]

def pwB (l : List UInt8) : List Int := l.map fun b => (b.toNat : Int) - 48
/-- a monomial, as the program reads it -/
def rdMF (t : List UInt8) : Option Mono :=
  if (cutB 58 t).2.2 = false ∨ (pnF (cutB 58 t).1).2 ≠ 0 ∨ 3 < (cutB 58 t).2.1.length then none else some ((pnF (cutB 58 t).1).1, pwB (cutB 58 t).2.1)
/-- .. as the reference reads it -/
def rdMR (t : List UInt8) : Option Mono :=
  if (pnR ((splB 58 t).headD [])).2 ≠ 0 ∨ (splB 58 t).length ≠ 2 then none else some ((pnR ((splB 58 t).headD [])).1, pwB ((splB 58 t).getD 1 []))
def rdP (M : List UInt8 → Option Mono) (t : List UInt8) : Option (List Mono) := if t = [48] then some [] else optL M (splB 43 t)
def rdF (M : List UInt8 → Option Mono) (t : List UInt8) : Option (List (List Mono)) := optL (rdP M) (splB 59 t)
/-- the field that is read -/
def pfX (M : List UInt8 → Option Mono) (t : List UInt8) : Option (List (List Mono)) := match rdF M t with
  | none => none
  | some pss => if fieldB pss.length pss = true ∧ fldTx pss = t then some pss else none

theorem numTx_not {a : Int} (ha : 0 ≤ a) (ha' : a ≤ 10006) {b : UInt8} (hb : b.toNat < 48 ∨ 57 < b.toNat) (h1 : b ≠ 45) (h2 : b ≠ 47) : ∀ x ∈ numTx a, x ≠ b := by
  obtain ⟨neg, P, Q, e, -⟩ := numTx_form ha ha'
  rw [e]
  unfold numForm
  intro x hx
  rcases List.mem_append.1 hx with hx | hx
  · cases neg with
    | true => simp at hx; subst hx; exact fun e => h1 e.symm
    | false => simp at hx
  · rcases List.mem_append.1 hx with hx | hx
    · exact dig_not hb x hx
    · split at hx
      · simp at hx
      · rcases List.mem_cons.1 hx with rfl | hx
        · exact fun e => h2 e.symm
        · exact dig_not hb x hx
theorem digB_nat {e : Int} (h0 : 0 ≤ e) (h1 : e ≤ 3) : (digB e).toNat = 48 + e.toNat := by
  unfold digB
  exact ofNat_toNat (by omega)
/-- what is known of a monomial of a field -/
def MOk (m : Mono) : Prop := 1 ≤ m.1 ∧ m.1 ≤ 10006 ∧ m.2.length ≤ 3 ∧ ∀ e ∈ m.2, 0 ≤ e ∧ e ≤ 3
theorem pow_not {ps : List Int} (h : ∀ e ∈ ps, 0 ≤ e ∧ e ≤ 3) {b : UInt8} (hb : b.toNat < 48 ∨ 57 < b.toNat) : ∀ x ∈ ps.map digB, x ≠ b := fun x hx e => by
  obtain ⟨p, hp, rfl⟩ := List.mem_map.1 hx
  have := digB_nat (h p hp).1 (h p hp).2
  have := h p hp
  rw [e] at *
  omega
theorem mTx_not {m : Mono} (h : MOk m) {b : UInt8} (hb : b.toNat < 48 ∨ 57 < b.toNat) (h1 : b ≠ 45) (h2 : b ≠ 47) (h3 : b ≠ 58) : ∀ x ∈ mTx m, x ≠ b := by
  obtain ⟨g1, g2, g3, g4⟩ := h
  unfold mTx
  intro x hx
  rcases List.mem_append.1 hx with hx | hx
  · exact numTx_not (by omega) g2 hb h1 h2 x hx
  · rcases List.mem_cons.1 hx with rfl | hx
    · exact fun e => h3 e.symm
    · exact pow_not g4 hb x hx
theorem pwB_dig {ps : List Int} (h : ∀ e ∈ ps, 0 ≤ e ∧ e ≤ 3) : pwB (ps.map digB) = ps := by
  unfold pwB
  rw [List.map_map]
  refine (List.map_congr_left (g := id) fun e he => ?_).trans (List.map_id ps)
  have h1 := h e he
  simp only [Function.comp, digB_nat h1.1 h1.2, id_eq]
  omega
theorem rdMF_m {m : Mono} (h : MOk m) : rdMF (mTx m) = some m := by
  obtain ⟨g1, g2, g3, g4⟩ := h
  have hn := numTx_not (a := m.1) (by omega) g2 (b := 58) (by decide) (by decide) (by decide)
  have hc : cutB 58 (mTx m) = (numTx m.1, m.2.map digB, true) := by unfold mTx; exact cutB_hit hn
  unfold rdMF
  rw [hc]
  simp only
  rw [pnF_num (by omega) g2, if_neg, pwB_dig g4]
  rintro (h | h | h)
  · cases h
  · exact h rfl
  · rw [List.length_map] at h; omega
theorem rdMR_m {m : Mono} (h : MOk m) : rdMR (mTx m) = some m := by
  obtain ⟨g1, g2, g3, g4⟩ := h
  have hn := numTx_not (a := m.1) (by omega) g2 (b := 58) (by decide) (by decide) (by decide)
  have hs : splB 58 (mTx m) = [numTx m.1, m.2.map digB] := by
    unfold mTx
    rw [splB_cons hn, splB_one (pow_not g4 (by decide))]
  have hp := pnR_num (a := m.1) (by omega) g2
  unfold rdMR
  rw [hs, if_neg]
  · show some ((pnR (numTx m.1)).1, pwB (m.2.map digB)) = some m
    rw [hp, pwB_dig g4]
  · rintro (h | h)
    · exact h (by show (pnR (numTx m.1)).2 = 0; rw [hp])
    · exact h rfl
theorem rdP_part {M : List UInt8 → Option Mono} (hM : ∀ m, MOk m → M (mTx m) = some m) {ms : List Mono} (h : ∀ m ∈ ms, MOk m) : rdP M (parTx ms) = some ms := by
  unfold rdP parTx
  by_cases h0 : ms = []
  · subst h0; simp
  · rw [if_neg h0]
    have hsp : splB 43 (Lib.join (ms.map mTx) [43]) = ms.map mTx := splB_join (by simpa using h0) fun x hx => by
      obtain ⟨m, hm, rfl⟩ := List.mem_map.1 hx
      exact mTx_not (h m hm) (by decide) (by decide) (by decide) (by decide)
    rw [hsp, optL_map fun m hm => hM m (h m hm), if_neg]
    intro e
    rw [e] at hsp
    obtain ⟨m, r, rfl⟩ : ∃ m r, ms = m :: r := by
      cases ms with
      | nil => exact absurd rfl h0
      | cons m r => exact ⟨m, r, rfl⟩
    have h1 : mTx m = [48] := by
      have := congrArg List.head? hsp
      simpa [splB] using this.symm
    have h2 : (58 : UInt8) ∈ mTx m := by unfold mTx; simp
    rw [h1] at h2
    simp at h2
theorem parTx_not {ms : List Mono} (h : ∀ m ∈ ms, MOk m) : ∀ x ∈ parTx ms, x ≠ 59 := by
  unfold parTx
  split
  · intro x hx; simp at hx; subst hx; decide
  · have hj : ∀ (xs : List (List UInt8)), (∀ x ∈ xs, ∀ c ∈ x, c ≠ (59 : UInt8)) → ∀ c ∈ Lib.join xs [43], c ≠ 59 := by
      intro xs
      cases xs with
      | nil => intro _ c hc; simp [Lib.join_nil] at hc
      | cons x r =>
        intro hx c hc
        rw [Lib.join_cons] at hc
        rcases List.mem_append.1 hc with hc | hc
        · exact hx x (by simp) c hc
        · unfold Lib.joinTail at hc
          simp only [List.mem_flatten, List.mem_map] at hc
          obtain ⟨l, ⟨y, hy, rfl⟩, hcl⟩ := hc
          rcases List.mem_append.1 hcl with hcl | hcl
          · simp at hcl; subst hcl; decide
          · exact hx y (by simp [hy]) c hcl
    refine hj _ fun x hx => ?_
    obtain ⟨m, hm, rfl⟩ := List.mem_map.1 hx
    exact mTx_not (h m hm) (by decide) (by decide) (by decide) (by decide)
theorem rdF_field {M : List UInt8 → Option Mono} (hM : ∀ m, MOk m → M (mTx m) = some m) {n : Int} {pss : List (List Mono)} (h : fieldB n pss = true) : rdF M (fldTx pss) = some pss := by
  obtain ⟨h1, -, hm⟩ := fieldB_mono h
  unfold rdF fldTx
  rw [splB_join]
  · exact optL_map fun ms hms => rdP_part hM fun m hmm => hm ms hms m hmm
  · intro e
    have := congrArg List.length e
    rw [List.length_map, List.length_nil] at this
    omega
  · intro x hx
    obtain ⟨ms, hms, rfl⟩ := List.mem_map.1 hx
    exact parTx_not fun m hmm => hm ms hms m hmm
theorem pfX_sound {M : List UInt8 → Option Mono} {t : List UInt8} {pss : List (List Mono)} (h : pfX M t = some pss) : fieldB pss.length pss = true ∧ fldTx pss = t := by
  unfold pfX at h
  split at h
  · cases h
  · split at h
    · rename_i hh
      injection h with h
      subst h
      exact hh
    · cases h
theorem pfX_full {M : List UInt8 → Option Mono} (hM : ∀ m, MOk m → M (mTx m) = some m) {pss : List (List Mono)} (h : fieldB pss.length pss = true) : pfX M (fldTx pss) = some pss := by
  unfold pfX
  rw [rdF_field hM h]
  simp only
  rw [if_pos ⟨h, trivial⟩]
/-- both read alike -/
theorem pf_eq (t : List UInt8) : pfX rdMF t = pfX rdMR t := by
  cases hF : pfX rdMF t with
  | some pss =>
    obtain ⟨h1, h2⟩ := pfX_sound hF
    rw [← h2, pfX_full (fun m hm => rdMR_m hm) h1]
  | none =>
    cases hR : pfX rdMR t with
    | none => rfl
    | some pss =>
      obtain ⟨h1, h2⟩ := pfX_sound hR
      rw [← h2, pfX_full (fun m hm => rdMF_m hm) h1] at hF
      cases hF
end Go.Proofs.YtnnfjjadehgmeaaGreatDoor

set_option maxRecDepth 100000
namespace Go.Proofs
open Go.Shelf Go.RowKit Go.Lib Go.Sort
def Tryz.laysM173_ren : Go.Shelf.Ren := ⟨fun | 173 => 73 | 246 => 92 | 283 => 105 | 284 => 106 | 285 => 107 | 286 => 108 | 129 => 119 | 317 => 118 | 318 => 120 | 319 => 121 | 320 => 122 | 337 => 128 | 338 => 129 | n => n, fun | 2 => 2 | 3 => 3 | 9 => 9 | 4 => 4 | 171 => 114 | 0 => 0 | 53 => 74 | 37 => 30 | 5 => 5 | 173 => 117 | 212 => 136 | 51 => 126 | 20 => 20 | 213 => 137 | 46 => 81 | 232 => 149 | 233 => 150 | n => n, fun | 17 => 3 | 18 => 6 | 19 => 7 | n => n⟩
theorem Tryz.laysM173 : Go.Proofs.LaysM.n173 Tryz.prog Tryz.laysM173_ren := {
  mixed := by kernel_rfl
  f129 := Tryz.func119.trans (congrArg some (by kernel_rfl))
  f173 := Tryz.func73.trans (congrArg some (by kernel_rfl))
  f246 := Tryz.func92.trans (congrArg some (by kernel_rfl))
  f283 := Tryz.func105.trans (congrArg some (by kernel_rfl))
  f284 := Tryz.func106.trans (congrArg some (by kernel_rfl))
  f285 := Tryz.func107.trans (congrArg some (by kernel_rfl))
  f286 := Tryz.func108.trans (congrArg some (by kernel_rfl))
  f317 := Tryz.func118.trans (congrArg some (by kernel_rfl))
  f318 := Tryz.func120.trans (congrArg some (by kernel_rfl))
  f319 := Tryz.func121.trans (congrArg some (by kernel_rfl))
  f320 := Tryz.func122.trans (congrArg some (by kernel_rfl))
  f337 := Tryz.func128.trans (congrArg some (by kernel_rfl))
  f338 := Tryz.func129.trans (congrArg some (by kernel_rfl))
  t0 := Tryz.underlying0
  a0 := Tryz.isAgg0
  z0 := Tryz.sizeOf0
  v0 := Tryz.zeroValue0
  t2 := Tryz.underlying2
  a2 := Tryz.isAgg2
  z2 := Tryz.sizeOf2
  v2 := Tryz.zeroValue2
  t3 := Tryz.underlying3
  a3 := Tryz.isAgg3
  z3 := Tryz.sizeOf3
  v3 := Tryz.zeroValue3
  t4 := Tryz.underlying4
  a4 := Tryz.isAgg4
  z4 := Tryz.sizeOf4
  v4 := Tryz.zeroValue4
  t5 := Tryz.underlying5
  a5 := Tryz.isAgg5
  z5 := Tryz.sizeOf5
  v5 := Tryz.zeroValue5
  t9 := Tryz.underlying9
  a9 := Tryz.isAgg9
  z9 := Tryz.sizeOf9
  v9 := Tryz.zeroValue9
  t20 := Tryz.underlying20
  a20 := Tryz.isAgg20
  z20 := Tryz.sizeOf20
  v20 := Tryz.zeroValue20
  t37 := Tryz.underlying30
  a37 := Tryz.isAgg30
  z37 := Tryz.sizeOf30
  v37 := Tryz.zeroValue30
  t46 := Tryz.underlying81
  a46 := Tryz.isAgg81
  z46 := Tryz.sizeOf81
  v46 := Tryz.zeroValue81
  t51 := Tryz.underlying126
  a51 := Tryz.isAgg126
  z51 := Tryz.sizeOf126
  v51 := Tryz.zeroValue126
  t53 := Tryz.underlying74
  a53 := Tryz.isAgg74
  z53 := Tryz.sizeOf74
  v53 := Tryz.zeroValue74
  t171 := Tryz.underlying114
  a171 := Tryz.isAgg114
  z171 := Tryz.sizeOf114
  v171 := Tryz.zeroValue114
  t173 := Tryz.underlying117
  a173 := Tryz.isAgg117
  z173 := Tryz.sizeOf117
  v173 := Tryz.zeroValue117
  t212 := Tryz.underlying136
  a212 := Tryz.isAgg136
  z212 := Tryz.sizeOf136
  v212 := Tryz.zeroValue136
  t213 := Tryz.underlying137
  a213 := Tryz.isAgg137
  z213 := Tryz.sizeOf137
  t232 := Tryz.underlying149
  a232 := Tryz.isAgg149
  z232 := Tryz.sizeOf149
  v232 := Tryz.zeroValue149
  t233 := Tryz.underlying150
  a233 := Tryz.isAgg150
  z233 := Tryz.sizeOf150
  v233 := Tryz.zeroValue150
  g17 := by kernel_rfl
  g18 := by kernel_rfl
  g19 := by kernel_rfl
  i0 := by kernel_rfl
  i2 := by kernel_rfl
  i3 := by kernel_rfl
  i4 := by kernel_rfl
  i5 := by kernel_rfl
  i9 := by kernel_rfl
  i20 := by kernel_rfl
  i37 := by kernel_rfl
  i46 := by kernel_rfl
  i51 := by kernel_rfl
  i53 := by kernel_rfl
  i171 := by kernel_rfl
  i173 := by kernel_rfl
  i212 := by kernel_rfl
  i232 := by kernel_rfl
  i233 := by kernel_rfl
  m17 := by kernel_rfl
  m18 := by kernel_rfl
  m19 := by kernel_rfl }
def Tryz.lays156_ren : Go.Shelf.Ren := ⟨fun | 156 => 49 | 165 => 74 | 166 => 75 | 169 => 76 | 240 => 93 | 241 => 94 | 276 => 109 | 277 => 110 | n => n, fun | 31 => 37 | 9 => 9 | 3 => 3 | 4 => 4 | 0 => 0 | 20 => 20 | 72 => 93 | 76 => 97 | 70 => 91 | 37 => 30 | 75 => 96 | 127 => 109 | 164 => 119 | 5 => 5 | 80 => 99 | n => n, fun | n => n⟩
theorem Tryz.lays156 : Go.Proofs.Lays.n156 Tryz.prog Tryz.lays156_ren := {
  mixed := by kernel_rfl
  f156 := Tryz.func49.trans (congrArg some (by kernel_rfl))
  f165 := Tryz.func74.trans (congrArg some (by kernel_rfl))
  f166 := Tryz.func75.trans (congrArg some (by kernel_rfl))
  f169 := Tryz.func76.trans (congrArg some (by kernel_rfl))
  f240 := Tryz.func93.trans (congrArg some (by kernel_rfl))
  f241 := Tryz.func94.trans (congrArg some (by kernel_rfl))
  f276 := Tryz.func109.trans (congrArg some (by kernel_rfl))
  f277 := Tryz.func110.trans (congrArg some (by kernel_rfl))
  t0 := Tryz.underlying0
  a0 := Tryz.isAgg0
  z0 := Tryz.sizeOf0
  v0 := Tryz.zeroValue0
  t3 := Tryz.underlying3
  a3 := Tryz.isAgg3
  z3 := Tryz.sizeOf3
  v3 := Tryz.zeroValue3
  t4 := Tryz.underlying4
  a4 := Tryz.isAgg4
  z4 := Tryz.sizeOf4
  v4 := Tryz.zeroValue4
  t9 := Tryz.underlying9
  a9 := Tryz.isAgg9
  z9 := Tryz.sizeOf9
  v9 := Tryz.zeroValue9
  t20 := Tryz.underlying20
  a20 := Tryz.isAgg20
  z20 := Tryz.sizeOf20
  v20 := Tryz.zeroValue20
  t31 := Tryz.underlying37
  a31 := Tryz.isAgg37
  z31 := Tryz.sizeOf37
  v31 := Tryz.zeroValue37
  t37 := Tryz.underlying30
  a37 := Tryz.isAgg30
  z37 := Tryz.sizeOf30
  v37 := Tryz.zeroValue30
  t70 := Tryz.underlying91
  a70 := Tryz.isAgg91
  z70 := Tryz.sizeOf91
  v70 := Tryz.zeroValue91
  t72 := Tryz.underlying93
  a72 := Tryz.isAgg93
  z72 := Tryz.sizeOf93
  v72 := Tryz.zeroValue93
  t75 := Tryz.underlying96
  a75 := Tryz.isAgg96
  z75 := Tryz.sizeOf96
  v75 := Tryz.zeroValue96
  t76 := Tryz.underlying97
  a76 := Tryz.isAgg97
  z76 := Tryz.sizeOf97
  v76 := Tryz.zeroValue97
  t127 := Tryz.underlying109
  a127 := Tryz.isAgg109
  z127 := Tryz.sizeOf109
  v127 := Tryz.zeroValue109
  t164 := Tryz.underlying119
  a164 := Tryz.isAgg119
  z164 := Tryz.sizeOf119
  v164 := Tryz.zeroValue119 }
theorem Tryz.Builder_Extra_156 : Builder.Extra Tryz.prog Tryz.lays156_ren where
  sizeBuilder := by kernel_rfl
  liesBuilder := by kernel_rfl
  t5 := Tryz.underlying5
  a5 := Tryz.isAgg5
  z5 := Tryz.sizeOf5
  v5 := Tryz.zeroValue5
  infoByte := by kernel_rfl
  cellsByte := by kernel_rfl
  sizeByte := by kernel_rfl
  neB5 := by decide
end Go.Proofs

set_option maxRecDepth 100000
set_option linter.unusedVariables false
set_option linter.unusedSimpArgs false
namespace Go.Proofs.YtnnfjjadehgmeaaGreatDoor
open Go.RowKit

abbrev PowTab (w : World) : Prop := Lib.TabIs Tryz.prog w "internal/strconv.uint64pow10" .u64 Lib.pow10Tab
theorem below_grow (w : World) (k : Nat) (os : Array Obj) : Below w.heap.size w (Go.Sort.grow (w.drewN k) os) :=
  ⟨rfl, rfl, rfl, by show w.heap.size ≤ (w.heap ++ os).size; rw [Array.size_append]; omega, fun j hj => by
    show (w.heap ++ os)[j]? = w.heap[j]?
    simp [Array.getElem?_append, hj]⟩
theorem powTab_below {w w' : World} (h : PowTab w) (hb : Below w.heap.size w w') : PowTab w' := by
  unfold PowTab Lib.TabIs World.var? at h ⊢
  cases hg : Tryz.prog.globalNamed "internal/strconv.uint64pow10" with
  | none => rw [hg] at h; cases h
  | some g =>
    rw [hg] at h
    simp only [Option.bind_some] at h ⊢
    have hlt : g < w.heap.size := by
      rcases Nat.lt_or_ge g w.heap.size with h' | h'
      · exact h'
      · rw [Array.getElem?_eq_none h'] at h; cases h
    rw [hb.block g hlt]
    exact h
theorem lib_FormatInt (x : Int) (w : World) (h0 : -1000000 ≤ x) (h1 : x ≤ 1000000) (ht : PowTab w) :
    Calls Tryz.prog 73 #[.int .i64 x, .int .i64 10] w fun e w' => e = .returned (strB (Lib.itoa x)) ∧ Below w.heap.size w w' :=
  (Any.strconv_FormatInt_10 Tryz.laysM173 x (by omega) (by omega) w ht).mono fun e w' ⟨he, k, os, hw⟩ => ⟨he, hw ▸ below_grow w k os⟩
theorem inR_70 {p : Int} : inR p (-70) 70 = (decide (-70 ≤ p) && decide (p ≤ 70)) := rfl
set_option maxHeartbeats 4000000 in
theorem i_numberText (a : Int) (w : World) (ha : 0 ≤ a) (ha' : a ≤ 10006) (ht : PowTab w) :
    Calls Tryz.prog 48 #[.int .i64 a] w fun e w' => e = .returned (strB (numTx a)) ∧ Below w.heap.size w w' := by
  have HT := Lib.hid ht
  clear ht
  have HFI := Lib.hid (show ∀ (W : World) (x : Int), Below w.heap.size w W → -1000000 ≤ x → x ≤ 1000000 → Calls Tryz.prog 73 #[.int .i64 x, .int .i64 10] W fun e w' => e = .returned (strB (Lib.itoa x)) ∧ Below W.heap.size W w' from fun W x hb x0 x1 => lib_FormatInt x W x0 x1 (powTab_below HT.out hb))
  go_enter Tryz.func48, Tryz.ntmps48
  go_wp2_with fail
  go_loopw [3] (fun y wr => ∃ q : Nat, 1 ≤ q ∧ q ≤ 71 ∧ y = .int .i64 q ∧ Hid (numTx a = numTxF a (71 - q) q) ∧ Below w.heap.size w wr) (fun y _ => 71 - (intOf y).toNat)
  case atStart => exact ⟨1, by omega, by omega, rfl, Lib.hid rfl, Below.refl _ _⟩
  case round =>
    obtain ⟨q, h1, h2, rfl, HN, hb⟩ := hrel
    have HB := Lib.hid hb
    clear hb
    by_cases hq : q ≤ 70
    · have hqi : (q : Int) ≤ 70 := by omega
      have hmul : 0 ≤ a * (q : Int) ∧ a * (q : Int) ≤ 1000000 := ⟨Int.mul_nonneg ha (by omega), by
        have h3 : a * (q : Int) ≤ 10006 * 70 := Int.mul_le_mul ha' hqi (by omega) (by omega)
        omega⟩
      obtain ⟨x, hx⟩ : ∃ x, x = (a * (q : Int)) % 10007 := ⟨_, rfl⟩
      have hx0 : 0 ≤ x := by omega
      have hx1 : x ≤ 10006 := by omega
      have HNM := Lib.hid (fun W => show Calls Tryz.prog 71 #[.int .i64 (a * (q : Int))] W fun e w' => e = .returned (.int .i64 x) ∧ W = w' from by rw [hx]; exact i_num _ W (by omega) (by omega))
      obtain ⟨p, hp⟩ : ∃ p, p = if 5003 < x then x - 10007 else x := ⟨_, rfl⟩
      have HPC := Lib.hid (show p = cenP a q by rw [hp]; unfold cenP; rw [← hx])
      have hpb : -10007 ≤ p ∧ p ≤ 10007 := by rw [hp]; split <;> omega
      have HPX := Lib.hid hp
      have HIR := Lib.hid (fun W => i_inRange p (-70) 70 W)
      have HDV := Lib.hid (fun W => i_divisor p (q : Int) W (by omega) (by omega) (by omega) (by omega))
      clear hx hp
      go_upto_if 14 with (go_at_call 71; refine (HNM.out _).mono ?_; rintro e w2 ⟨rfl, rfl⟩)
      go_cut [4] from 5 to 35 (fun y wx => y = .int .i64 p ∧ Below w.heap.size w wx)
      case first =>
        by_cases hc : 5003 < x
        · have hE : p = x - 10007 := by rw [HPX.out, if_pos hc]
          have HE := Lib.hid hE
          clear hE
          go_wp2_with fail
          go_meet
          exact ⟨by rw [HE.out], HB.out⟩
        · have hE : p = x := by rw [HPX.out, if_neg hc]
          have HE := Lib.hid hE
          clear hE
          go_wp2_with fail
          go_meet
          exact ⟨by rw [HE.out], HB.out⟩
      case rest =>
        obtain ⟨rfl, hcut⟩ := hcut
        rename World => wz
        have HBZ := Lib.hid hcut
        clear hcut
        cases hin : inR p (-70) 70 with
        | false =>
          have hno : okQ a q = false := by
            unfold okQ
            rw [← HPC.out, ← inR_70, hin]
            rfl
          have HNX := Lib.hid (show numTx a = numTxF a (71 - (q + 1)) (q + 1) by
            rw [HN.out, show 71 - q = (71 - (q + 1)) + 1 by omega, numTxF_no hno])
          have hir : ∀ W, Calls Tryz.prog 30 #[.int .i64 p, .int .i64 (-70), .int .i64 70] W fun e w' => e = .returned (.bool false) ∧ W = w' := fun W => by have h := HIR.out W; rwa [hin] at h
          have HIR2 := Lib.hid hir
          clear hno hir hin
          go_wp2_with (go_at_call 30; refine (HIR2.out _).mono ?_; rintro e w2 ⟨rfl, rfl⟩)
          go_roundw
          case rel => exact ⟨q + 1, by omega, by omega, by go_num, HNX, HBZ.out⟩
          case measure => simp [intOf]; omega
        | true =>
          have hpb2 := inR_iff.1 hin
          have hir : ∀ W, Calls Tryz.prog 30 #[.int .i64 p, .int .i64 (-70), .int .i64 70] W fun e w' => e = .returned (.bool true) ∧ W = w' := fun W => by have h := HIR.out W; rwa [hin] at h
          have HIR2 := Lib.hid hir
          have HIN := Lib.hid hin
          clear hir hin
          obtain ⟨g, hg⟩ : ∃ g, g = Int.gcd p (q : Int) := ⟨_, rfl⟩
          rw [← hg] at HDV
          have HGG := Lib.hid hg
          clear hg
          by_cases hg1 : g = 1
          · have hok : okQ a q = true := by
              unfold okQ
              rw [← HPC.out, ← inR_70, HIN.out, ← HGG.out, hg1]
              rfl
            have HTX := Lib.hid (show numTx a = txPQ p q by rw [HN.out, show 71 - q = (70 - q) + 1 by omega, numTxF_yes hok, ← HPC.out])
            have hgb : ((g : Int) != 1) = false := by simp; omega
            clear hok
            have hLp := itoa_len p
            have hLq := itoa_len (q : Int)
            have hl2 : ¬ (9223372036854775807 < (Lib.itoa p).length + 1) := by omega
            have hl3 : ¬ (9223372036854775807 < (Lib.itoa p).length + 1 + (Lib.itoa (q : Int)).length) := by omega
            clear hLp hLq
            by_cases hq1 : q = 1
            · have hqb : ((q : Int) == 1) = true := by simp; omega
              have HQ1 := Lib.hid hq1
              clear hq1
              go_wp2_with (first
                | (go_at_call 30; refine (HIR2.out _).mono ?_; rintro e w2 ⟨rfl, rfl⟩)
                | (go_at_call 72; refine (HDV.out _).mono ?_; rintro e w3 ⟨rfl, n3, rfl⟩)
                | (go_at_call 73; refine (HFI.out _ _ (by exact below_drewN HBZ.out _) (by omega) (by omega)).mono ?_; rintro e w4 ⟨rfl, hb4⟩))
              go_ret
              refine ⟨?_, (below_drewN HBZ.out _).trans (hb4.mono HBZ.out.size)⟩
              rw [HTX.out, HQ1.out]
              unfold txPQ
              rw [if_pos rfl]
              rfl
            · have hqb : ((q : Int) == 1) = false := by simp; omega
              have HQ1 := Lib.hid hq1
              clear hq1
              go_wp2_with (first
                | (go_at_call 30; refine (HIR2.out _).mono ?_; rintro e w2 ⟨rfl, rfl⟩)
                | (go_at_call 72; refine (HDV.out _).mono ?_; rintro e w3 ⟨rfl, n3, rfl⟩)
                | (go_at_call 73; (first
                    | (refine (HFI.out _ p (by exact below_drewN HBZ.out _) (by omega) (by omega)).mono ?_; rintro e w4 ⟨rfl, hb4⟩)
                    | (refine (HFI.out _ (q : Int) (by exact (below_drewN HBZ.out _).trans (hb4.mono HBZ.out.size)) (by omega) (by omega)).mono ?_; rintro e w5 ⟨rfl, hb5⟩))))
              go_ret
              have hz := (below_drewN HBZ.out _).trans (hb4.mono HBZ.out.size)
              refine ⟨?_, hz.trans (hb5.mono hz.size)⟩
              rw [HTX.out, str_cat2, str_cat]
              unfold txPQ
              rw [if_neg HQ1.out, itoa_nn (p := (q : Int)) (by omega)]
              simp [strB]
          · have hno : okQ a q = false := by
              unfold okQ
              rw [← HPC.out, ← HGG.out]
              simp [hg1]
            have HNX := Lib.hid (show numTx a = numTxF a (71 - (q + 1)) (q + 1) by
              rw [HN.out, show 71 - q = (71 - (q + 1)) + 1 by omega, numTxF_no hno])
            have hgb : ((g : Int) != 1) = true := by simp; omega
            clear hno
            go_wp2_with (first
              | (go_at_call 30; refine (HIR2.out _).mono ?_; rintro e w2 ⟨rfl, rfl⟩)
              | (go_at_call 72; refine (HDV.out _).mono ?_; rintro e w3 ⟨rfl, n3, rfl⟩))
            go_roundw
            case rel => exact ⟨q + 1, by omega, by omega, by go_num, HNX, below_drewN HBZ.out _⟩
            case measure => simp [intOf]; omega
    · have hqe : q = 71 := by omega
      subst hqe
      have HFN := Lib.hid (show numTx a = Lib.itoa a by rw [HN.out]; rfl)
      go_wp2_with (go_at_call 73; refine (HFI.out _ _ HB.out (by omega) (by omega)).mono ?_; rintro e w4 ⟨rfl, hb4⟩)
      go_ret
      exact ⟨by rw [HFN.out]; rfl, HB.out.trans (hb4.mono HB.out.size)⟩
end Go.Proofs.YtnnfjjadehgmeaaGreatDoor

set_option maxRecDepth 100000
namespace Go.Proofs
open Go.Shelf Go.RowKit Go.Lib Go.Sort
def Tryz.laysC174_ren : Go.Shelf.Ren := ⟨fun | 174 => 90 | 247 => 102 | 245 => 103 | 287 => 113 | 279 => 114 | 280 => 115 | 281 => 116 | 282 => 117 | 321 => 123 | 322 => 124 | 316 => 125 | 171 => 127 | 205 => 126 | 243 => 130 | 246 => 92 | 283 => 105 | 284 => 106 | 285 => 107 | 286 => 108 | 129 => 119 | 317 => 118 | 318 => 120 | 319 => 121 | 320 => 122 | 337 => 128 | 338 => 129 | n => n, fun | 9 => 9 | 3 => 3 | 2 => 2 | 75 => 96 | 85 => 107 | 4 => 4 | 167 => 129 | 5 => 5 | 53 => 74 | 175 => 130 | 46 => 81 | 168 => 132 | 37 => 30 | 0 => 0 | 210 => 143 | 21 => 21 | 127 => 109 | 145 => 148 | 143 => 146 | 171 => 114 | 173 => 117 | 212 => 136 | 51 => 126 | 20 => 20 | 213 => 137 | 232 => 149 | 233 => 150 | 80 => 99 | n => n, fun | 15 => 4 | 16 => 5 | 17 => 3 | 18 => 6 | 19 => 7 | n => n⟩
theorem Tryz.laysC174 : Go.Proofs.LaysC.n174 Tryz.prog Tryz.laysC174_ren := {
  mixed := by kernel_rfl
  f129 := Tryz.func119.trans (congrArg some (by kernel_rfl))
  f171 := Tryz.func127.trans (congrArg some (by kernel_rfl))
  f174 := Tryz.func90.trans (congrArg some (by kernel_rfl))
  f205 := Tryz.func126.trans (congrArg some (by kernel_rfl))
  f243 := Tryz.func130.trans (congrArg some (by kernel_rfl))
  f245 := Tryz.func103.trans (congrArg some (by kernel_rfl))
  f246 := Tryz.func92.trans (congrArg some (by kernel_rfl))
  f247 := Tryz.func102.trans (congrArg some (by kernel_rfl))
  f279 := Tryz.func114.trans (congrArg some (by kernel_rfl))
  f280 := Tryz.func115.trans (congrArg some (by kernel_rfl))
  f281 := Tryz.func116.trans (congrArg some (by kernel_rfl))
  f282 := Tryz.func117.trans (congrArg some (by kernel_rfl))
  f283 := Tryz.func105.trans (congrArg some (by kernel_rfl))
  f284 := Tryz.func106.trans (congrArg some (by kernel_rfl))
  f285 := Tryz.func107.trans (congrArg some (by kernel_rfl))
  f286 := Tryz.func108.trans (congrArg some (by kernel_rfl))
  f287 := Tryz.func113.trans (congrArg some (by kernel_rfl))
  f316 := Tryz.func125.trans (congrArg some (by kernel_rfl))
  f317 := Tryz.func118.trans (congrArg some (by kernel_rfl))
  f318 := Tryz.func120.trans (congrArg some (by kernel_rfl))
  f319 := Tryz.func121.trans (congrArg some (by kernel_rfl))
  f320 := Tryz.func122.trans (congrArg some (by kernel_rfl))
  f321 := Tryz.func123.trans (congrArg some (by kernel_rfl))
  f322 := Tryz.func124.trans (congrArg some (by kernel_rfl))
  f337 := Tryz.func128.trans (congrArg some (by kernel_rfl))
  f338 := Tryz.func129.trans (congrArg some (by kernel_rfl))
  t0 := Tryz.underlying0
  a0 := Tryz.isAgg0
  z0 := Tryz.sizeOf0
  v0 := Tryz.zeroValue0
  t2 := Tryz.underlying2
  a2 := Tryz.isAgg2
  z2 := Tryz.sizeOf2
  v2 := Tryz.zeroValue2
  t3 := Tryz.underlying3
  a3 := Tryz.isAgg3
  z3 := Tryz.sizeOf3
  v3 := Tryz.zeroValue3
  t4 := Tryz.underlying4
  a4 := Tryz.isAgg4
  z4 := Tryz.sizeOf4
  v4 := Tryz.zeroValue4
  t5 := Tryz.underlying5
  a5 := Tryz.isAgg5
  z5 := Tryz.sizeOf5
  v5 := Tryz.zeroValue5
  t9 := Tryz.underlying9
  a9 := Tryz.isAgg9
  z9 := Tryz.sizeOf9
  v9 := Tryz.zeroValue9
  t20 := Tryz.underlying20
  a20 := Tryz.isAgg20
  z20 := Tryz.sizeOf20
  v20 := Tryz.zeroValue20
  t21 := Tryz.underlying21
  a21 := Tryz.isAgg21
  z21 := Tryz.sizeOf21
  v21 := Tryz.zeroValue21
  t37 := Tryz.underlying30
  a37 := Tryz.isAgg30
  z37 := Tryz.sizeOf30
  v37 := Tryz.zeroValue30
  t46 := Tryz.underlying81
  a46 := Tryz.isAgg81
  z46 := Tryz.sizeOf81
  v46 := Tryz.zeroValue81
  t51 := Tryz.underlying126
  a51 := Tryz.isAgg126
  z51 := Tryz.sizeOf126
  v51 := Tryz.zeroValue126
  t53 := Tryz.underlying74
  a53 := Tryz.isAgg74
  z53 := Tryz.sizeOf74
  v53 := Tryz.zeroValue74
  t75 := Tryz.underlying96
  a75 := Tryz.isAgg96
  z75 := Tryz.sizeOf96
  v75 := Tryz.zeroValue96
  t85 := Tryz.underlying107
  a85 := Tryz.isAgg107
  z85 := Tryz.sizeOf107
  v85 := Tryz.zeroValue107
  t127 := Tryz.underlying109
  a127 := Tryz.isAgg109
  z127 := Tryz.sizeOf109
  v127 := Tryz.zeroValue109
  t143 := Tryz.underlying146
  a143 := Tryz.isAgg146
  z143 := Tryz.sizeOf146
  v143 := Tryz.zeroValue146
  t145 := Tryz.underlying148
  a145 := Tryz.isAgg148
  z145 := Tryz.sizeOf148
  v145 := Tryz.zeroValue148
  t167 := Tryz.underlying129
  a167 := Tryz.isAgg129
  z167 := Tryz.sizeOf129
  v167 := Tryz.zeroValue129
  t168 := Tryz.underlying132
  a168 := Tryz.isAgg132
  z168 := Tryz.sizeOf132
  v168 := Tryz.zeroValue132
  t171 := Tryz.underlying114
  a171 := Tryz.isAgg114
  z171 := Tryz.sizeOf114
  v171 := Tryz.zeroValue114
  t173 := Tryz.underlying117
  a173 := Tryz.isAgg117
  z173 := Tryz.sizeOf117
  v173 := Tryz.zeroValue117
  t175 := Tryz.underlying130
  a175 := Tryz.isAgg130
  z175 := Tryz.sizeOf130
  v175 := Tryz.zeroValue130
  t210 := Tryz.underlying143
  a210 := Tryz.isAgg143
  z210 := Tryz.sizeOf143
  v210 := Tryz.zeroValue143
  t212 := Tryz.underlying136
  a212 := Tryz.isAgg136
  z212 := Tryz.sizeOf136
  v212 := Tryz.zeroValue136
  t213 := Tryz.underlying137
  a213 := Tryz.isAgg137
  z213 := Tryz.sizeOf137
  t232 := Tryz.underlying149
  a232 := Tryz.isAgg149
  z232 := Tryz.sizeOf149
  v232 := Tryz.zeroValue149
  t233 := Tryz.underlying150
  a233 := Tryz.isAgg150
  z233 := Tryz.sizeOf150
  v233 := Tryz.zeroValue150
  g15 := by kernel_rfl
  g16 := by kernel_rfl
  g17 := by kernel_rfl
  g18 := by kernel_rfl
  g19 := by kernel_rfl
  t80 := Tryz.underlying99
  a80 := Tryz.isAgg99
  z80 := Tryz.sizeOf99
  v80 := Tryz.zeroValue99
  i0 := by kernel_rfl
  i2 := by kernel_rfl
  i3 := by kernel_rfl
  i4 := by kernel_rfl
  i5 := by kernel_rfl
  i9 := by kernel_rfl
  i20 := by kernel_rfl
  i21 := by kernel_rfl
  i37 := by kernel_rfl
  i46 := by kernel_rfl
  i51 := by kernel_rfl
  i53 := by kernel_rfl
  i75 := by kernel_rfl
  i80 := by kernel_rfl
  i85 := by kernel_rfl
  i127 := by kernel_rfl
  i143 := by kernel_rfl
  i145 := by kernel_rfl
  i167 := by kernel_rfl
  i168 := by kernel_rfl
  i171 := by kernel_rfl
  i173 := by kernel_rfl
  i175 := by kernel_rfl
  i210 := by kernel_rfl
  i212 := by kernel_rfl
  i232 := by kernel_rfl
  i233 := by kernel_rfl
  m15 := by kernel_rfl
  m16 := by kernel_rfl
  m17 := by kernel_rfl
  m18 := by kernel_rfl
  m19 := by kernel_rfl
  c0 := by kernel_rfl
  c2 := by kernel_rfl
  c3 := by kernel_rfl
  c4 := by kernel_rfl
  c5 := by kernel_rfl
  c9 := by kernel_rfl
  c20 := by kernel_rfl
  c21 := by kernel_rfl
  c37 := by kernel_rfl
  c46 := by kernel_rfl
  c51 := by kernel_rfl
  c53 := by kernel_rfl
  c75 := by kernel_rfl
  c80 := by kernel_rfl
  c85 := by kernel_rfl
  c127 := by kernel_rfl
  c143 := by kernel_rfl
  c145 := by kernel_rfl
  c167 := by kernel_rfl
  c168 := by kernel_rfl
  c171 := by kernel_rfl
  c173 := by kernel_rfl
  c175 := by kernel_rfl
  c210 := by kernel_rfl
  c212 := by kernel_rfl
  c213 := by kernel_rfl
  c232 := by kernel_rfl
  c233 := by kernel_rfl }
def Tryz.lays146_ren : Go.Shelf.Ren := ⟨fun | 146 => 21 | 221 => 45 | 268 => 64 | 138 => 65 | 143 => 66 | 195 => 85 | 197 => 86 | 218 => 87 | 219 => 88 | 260 => 96 | 217 => 97 | 225 => 98 | 224 => 99 | 267 => 100 | 266 => 111 | 314 => 112 | n => n, fun | 9 => 9 | 31 => 37 | 3 => 3 | 4 => 4 | 0 => 0 | 105 => 104 | 21 => 21 | 5 => 5 | 46 => 81 | 119 => 122 | 139 => 125 | 138 => 124 | 146 => 127 | 51 => 126 | n => n, fun | 1 => 0 | 3 => 1 | 4 => 2 | n => n⟩
theorem Tryz.lays146 : Go.Proofs.Lays.n146 Tryz.prog Tryz.lays146_ren := {
  mixed := by kernel_rfl
  f138 := Tryz.func65.trans (congrArg some (by kernel_rfl))
  f143 := Tryz.func66.trans (congrArg some (by kernel_rfl))
  f146 := Tryz.func21.trans (congrArg some (by kernel_rfl))
  f195 := Tryz.func85.trans (congrArg some (by kernel_rfl))
  f197 := Tryz.func86.trans (congrArg some (by kernel_rfl))
  f217 := Tryz.func97.trans (congrArg some (by kernel_rfl))
  f218 := Tryz.func87.trans (congrArg some (by kernel_rfl))
  f219 := Tryz.func88.trans (congrArg some (by kernel_rfl))
  f221 := Tryz.func45.trans (congrArg some (by kernel_rfl))
  f224 := Tryz.func99.trans (congrArg some (by kernel_rfl))
  f225 := Tryz.func98.trans (congrArg some (by kernel_rfl))
  f260 := Tryz.func96.trans (congrArg some (by kernel_rfl))
  f266 := Tryz.func111.trans (congrArg some (by kernel_rfl))
  f267 := Tryz.func100.trans (congrArg some (by kernel_rfl))
  f268 := Tryz.func64.trans (congrArg some (by kernel_rfl))
  f314 := Tryz.func112.trans (congrArg some (by kernel_rfl))
  t0 := Tryz.underlying0
  a0 := Tryz.isAgg0
  z0 := Tryz.sizeOf0
  v0 := Tryz.zeroValue0
  t3 := Tryz.underlying3
  a3 := Tryz.isAgg3
  z3 := Tryz.sizeOf3
  v3 := Tryz.zeroValue3
  t4 := Tryz.underlying4
  a4 := Tryz.isAgg4
  z4 := Tryz.sizeOf4
  v4 := Tryz.zeroValue4
  t5 := Tryz.underlying5
  a5 := Tryz.isAgg5
  z5 := Tryz.sizeOf5
  v5 := Tryz.zeroValue5
  t9 := Tryz.underlying9
  a9 := Tryz.isAgg9
  z9 := Tryz.sizeOf9
  v9 := Tryz.zeroValue9
  t21 := Tryz.underlying21
  a21 := Tryz.isAgg21
  z21 := Tryz.sizeOf21
  v21 := Tryz.zeroValue21
  t31 := Tryz.underlying37
  a31 := Tryz.isAgg37
  z31 := Tryz.sizeOf37
  v31 := Tryz.zeroValue37
  t46 := Tryz.underlying81
  a46 := Tryz.isAgg81
  z46 := Tryz.sizeOf81
  v46 := Tryz.zeroValue81
  t51 := Tryz.underlying126
  a51 := Tryz.isAgg126
  z51 := Tryz.sizeOf126
  v51 := Tryz.zeroValue126
  t105 := Tryz.underlying104
  a105 := Tryz.isAgg104
  z105 := Tryz.sizeOf104
  v105 := Tryz.zeroValue104
  t119 := Tryz.underlying122
  a119 := Tryz.isAgg122
  z119 := Tryz.sizeOf122
  t138 := Tryz.underlying124
  a138 := Tryz.isAgg124
  z138 := Tryz.sizeOf124
  v138 := Tryz.zeroValue124
  t139 := Tryz.underlying125
  a139 := Tryz.isAgg125
  z139 := Tryz.sizeOf125
  v139 := Tryz.zeroValue125
  t146 := Tryz.underlying127
  a146 := Tryz.isAgg127
  z146 := Tryz.sizeOf127
  v146 := Tryz.zeroValue127
  g1 := by kernel_rfl
  g3 := by kernel_rfl
  g4 := by kernel_rfl }
def Tryz.lays145_ren : Go.Shelf.Ren := ⟨fun | 145 => 46 | 220 => 67 | 219 => 88 | 217 => 97 | 225 => 98 | 224 => 99 | 267 => 100 | 266 => 111 | 314 => 112 | n => n, fun | 9 => 9 | 4 => 4 | 59 => 67 | 3 => 3 | 5 => 5 | 46 => 81 | 146 => 127 | 51 => 126 | n => n, fun | 1 => 0 | n => n⟩
theorem Tryz.lays145 : Go.Proofs.Lays.n145 Tryz.prog Tryz.lays145_ren := {
  mixed := by kernel_rfl
  f145 := Tryz.func46.trans (congrArg some (by kernel_rfl))
  f217 := Tryz.func97.trans (congrArg some (by kernel_rfl))
  f219 := Tryz.func88.trans (congrArg some (by kernel_rfl))
  f220 := Tryz.func67.trans (congrArg some (by kernel_rfl))
  f224 := Tryz.func99.trans (congrArg some (by kernel_rfl))
  f225 := Tryz.func98.trans (congrArg some (by kernel_rfl))
  f266 := Tryz.func111.trans (congrArg some (by kernel_rfl))
  f267 := Tryz.func100.trans (congrArg some (by kernel_rfl))
  f314 := Tryz.func112.trans (congrArg some (by kernel_rfl))
  t3 := Tryz.underlying3
  a3 := Tryz.isAgg3
  z3 := Tryz.sizeOf3
  v3 := Tryz.zeroValue3
  t4 := Tryz.underlying4
  a4 := Tryz.isAgg4
  z4 := Tryz.sizeOf4
  v4 := Tryz.zeroValue4
  t5 := Tryz.underlying5
  a5 := Tryz.isAgg5
  z5 := Tryz.sizeOf5
  v5 := Tryz.zeroValue5
  t9 := Tryz.underlying9
  a9 := Tryz.isAgg9
  z9 := Tryz.sizeOf9
  v9 := Tryz.zeroValue9
  t46 := Tryz.underlying81
  a46 := Tryz.isAgg81
  z46 := Tryz.sizeOf81
  v46 := Tryz.zeroValue81
  t51 := Tryz.underlying126
  a51 := Tryz.isAgg126
  z51 := Tryz.sizeOf126
  v51 := Tryz.zeroValue126
  t59 := Tryz.underlying67
  a59 := Tryz.isAgg67
  z59 := Tryz.sizeOf67
  v59 := Tryz.zeroValue67
  t146 := Tryz.underlying127
  a146 := Tryz.isAgg127
  z146 := Tryz.sizeOf127
  v146 := Tryz.zeroValue127
  g1 := by kernel_rfl }
def Tryz.lays103_ren : Go.Shelf.Ren := ⟨fun | 103 => 68 | 210 => 89 | 206 => 101 | n => n, fun | 9 => 9 | 4 => 4 | 24 => 85 | 3 => 3 | n => n, fun | n => n⟩
theorem Tryz.lays103 : Go.Proofs.Lays.n103 Tryz.prog Tryz.lays103_ren := {
  mixed := by kernel_rfl
  f103 := Tryz.func68.trans (congrArg some (by kernel_rfl))
  f206 := Tryz.func101.trans (congrArg some (by kernel_rfl))
  f210 := Tryz.func89.trans (congrArg some (by kernel_rfl))
  t3 := Tryz.underlying3
  a3 := Tryz.isAgg3
  z3 := Tryz.sizeOf3
  v3 := Tryz.zeroValue3
  t4 := Tryz.underlying4
  a4 := Tryz.isAgg4
  z4 := Tryz.sizeOf4
  v4 := Tryz.zeroValue4
  t9 := Tryz.underlying9
  a9 := Tryz.isAgg9
  z9 := Tryz.sizeOf9
  v9 := Tryz.zeroValue9
  t24 := Tryz.underlying85
  a24 := Tryz.isAgg85
  z24 := Tryz.sizeOf85
  v24 := Tryz.zeroValue85 }
end Go.Proofs

