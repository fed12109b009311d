/- Walk of the program: fieldText. | Walk: l13Is of the reference. | Walk: IsField of the reference. | Walks: FieldText of both. | The walks of the laws' small functions over lists of lists and tableaus. -/
import Derived.Test.YtnnfjjadehgmeaaDoorFx3
import Derived.Test.YtnnfjjadehgmeaaDoorFx4
import Derived.Deep.QuietTactic
import Derived.Test.YtnnfjjadehgmeaaDoorRows
import Derived.Test.YtnnfjjadehgmeaaDoorFx1
import Derived.Test.YtnnfjjadehgmeaaDoorFx2
import Derived.WalkLawsBesides
import Derived.BigQuiet
set_option maxRecDepth 100000
set_option linter.unusedVariables false
set_option linter.unusedSimpArgs false
namespace Go.Proofs.YtnnfjjadehgmeaaDoor
open Go.RowKit

abbrev tStr : TypeId := 9
theorem T_str : ElemT Tryd.prog 53 tStr (.string .empty) 16 := ⟨Tryd.underlying53, by kernel_rfl, rfl, by omega⟩
def strs (ls : List (List UInt8)) : List Value := ls.map strB
theorem strs_len (ls : List (List UInt8)) : (strs ls).length = ls.length := by unfold strs; simp
theorem strs_snoc (ls : List (List UInt8)) (x : List UInt8) : strs ls ++ [strB x] = strs (ls ++ [x]) := by unfold strs; simp
theorem str_open {w : World} {B : Nat} {v : Value} {ls : List (List UInt8)} (h : Own w B tStr v (strs ls)) (h0 : 1 ≤ ls.length) : ∃ g c, v = .slice (some ⟨g, 0, none⟩) ls.length c := by
  rcases h.cases with ⟨_, h1⟩ | ⟨g, cap, cur, hv, _⟩
  · have := congrArg List.length h1
    rw [strs_len, List.length_nil] at this
    omega
  · exact ⟨g, cap, by rw [hv, strs_len]⟩
theorem lib_Join (w : World) (B g cp : Nat) (ls : List (List UInt8)) (sb : UInt8) (ho : Own w B tStr (.slice (some ⟨g, 0, none⟩) ls.length cp) (strs ls)) (hlen : (Lib.join ls [sb]).length ≤ 140737488355328) (hn : ls.length ≤ 140737488355328) :
    Calls Tryd.prog 28 #[.slice (some ⟨g, 0, none⟩) ls.length cp, .string ⟨#[sb]⟩] w fun e w' => e = .returned (strB (Lib.join ls [sb])) ∧ Below w.heap.size w w' := by
  have hb := ho.lt g rfl
  have hcap : ls.length ≤ cp := by
    rcases ho.cases with ⟨h, _⟩ | ⟨g', cap', cur, hv, _, _, _, h4, _⟩
    · cases h
    · simp only [Value.slice.injEq] at hv
      rw [strs_len] at h4
      rw [hv.2.2]; exact h4
  have hm : (ls.map fun l => (⟨l.toArray⟩ : ByteArray)).map (·.data.toList) = ls := by rw [List.map_map]; exact (List.map_congr_left (g := id) fun l _ => by simp).trans (List.map_id ls)
  have h := Any.strings_Join Tryd.lays156 Tryd.Builder_Extra_156 g 0 cp (ls.map fun l => (⟨l.toArray⟩ : ByteArray)) ⟨#[sb]⟩ w (fun j x hj => by
      rw [List.getElem?_map, Option.map_eq_some_iff] at hj
      obtain ⟨l, hl, rfl⟩ := hj
      have hc := World.ownsRow.cells ho (g := g) rfl j (strB l) (by unfold strs; rw [List.getElem?_map, hl]; rfl)
      rw [addr_add] at hc
      simpa using hc) hb (by simpa using hn) (by simpa using hcap) (by rw [hm]; exact hlen)
  rw [hm, List.length_map] at h
  exact h
/-- the texts of the monomials of a part -/
def tmsL (ms : List Mono) : List (List UInt8) := if ms.length = 0 then [[48]] else ms.map mTx
theorem tmsL_len (ms : List Mono) : 1 ≤ (tmsL ms).length ∧ (tmsL ms).length ≤ ms.length + 1 := by
  unfold tmsL
  split
  · simp
  · simp; omega
theorem parTx_join (ms : List Mono) : Lib.join (tmsL ms) [43] = parTx ms := by
  unfold tmsL parTx
  by_cases h : ms = []
  · subst h; simp [Lib.join_one]
  · rw [if_neg h, if_neg fun e => h (List.eq_nil_of_length_eq_zero e)]
theorem rune_str (e : Int) (h0 : 0 ≤ e) (h1 : e ≤ 3) (W : World) : (convert 21 9 (.int .i32 (48 + e))).run Tryd.prog W = .ok (strB [digB e]) W := by
  have h : e = 0 ∨ e = 1 ∨ e = 2 ∨ e = 3 := by omega
  rcases h with rfl | rfl | rfl | rfl <;> rfl
set_option maxHeartbeats 8000000 in
theorem i_fieldText (w : World) (v : Value) (n : Int) (pss : List (List Mono)) (ha : FieldArg w v n pss) (hF : fieldB n pss = true) (hs : ∀ ms ∈ pss, ms.length ≤ 4294967296) (ht : PowTab w) :
    Calls Tryd.prog 14 #[v] w fun e w' => e = .returned (strB (fldTx pss)) ∧ Below w.heap.size w w' := by
  obtain ⟨hp1, hpl, hmon⟩ := fieldB_mono hF
  obtain ⟨vp, rfl, hn64, hP⟩ := ha
  obtain ⟨A, c, rfl, l1, l2, h3⟩ := hP.open_
  have H3 := Lib.hid h3
  have HS := Lib.hid hs
  have HMN := Lib.hid hmon
  have HT := Lib.hid ht
  clear hP h3 hs hmon hF hn64 ht
  obtain ⟨wb, hwb⟩ : ∃ wb, wb = w.alloc (.cells #[.int .i64 n, .slice A pss.length c] 30) := ⟨_, rfl⟩
  have HBB := Lib.hid (show Below w.heap.size w wb by rw [hwb]; exact below1 w _)
  have KB := Lib.hid (show Blk wb w.heap.size 30 #[.int .i64 n, .slice A pss.length c] by rw [hwb]; exact Blk.new _ _ _)
  have OL := Lib.hid (show Own (wb.alloc (.cells #[] tStr)) wb.heap.size tStr (.slice (some ⟨wb.heap.size, 0, none⟩) 0 0) (strs ((pss.take 0).map parTx)) from own_lit wb tStr [] (by simp [maxLen]))
  go_enter Tryd.func14, Tryd.ntmps14
  go_upto_region 1 with fail
  rw [← hwb]
  clear hwb
  have kb : (wb.alloc (.cells #[] tStr)).cell? ⟨w.heap.size, 1, none⟩ = some (.slice A pss.length c) := (KB.out.alloc _).cell 1
  go_wp2_with fail
  clear kb
  go_loopw [3, 16] (fun p i wr => ∃ j : Nat, j ≤ pss.length ∧ i = .int .i64 j ∧ Own wr wb.heap.size tStr p (strs ((pss.take j).map parTx)) ∧ Below wb.heap.size wb wr) (fun _ i _ => pss.length - (intOf i).toNat)
  case atStart => exact ⟨0, Nat.zero_le _, rfl, OL.out, below1 wb _⟩
  case round =>
    obtain ⟨j, hj, rfl, ho, hb⟩ := hrel
    rename World => wq
    clear OL
    have hel : ((pss.take j).map parTx).length = j := by rw [List.length_map, List.length_take]; omega
    have hol := ho.cells.open_
    rw [strs_len, hel] at hol
    obtain ⟨Ao, co, rfl, -, -⟩ := hol
    have HEL := Lib.hid hel
    have HO := Lib.hid ho
    have HBQ := Lib.hid hb
    have HWQ := Lib.hid (HBB.out.trans (hb.mono HBB.out.size))
    clear ho hb hel
    by_cases hlt : j < pss.length
    · obtain ⟨ad, u, ms, rfl, hm, hu, hc0⟩ := H3.out j hlt
      obtain ⟨A5, c5, rfl, p1, p2, hu3⟩ := hu.open_
      have HU := Lib.hid hu3
      have HM := Lib.hid hm
      have HSM := Lib.hid (HMN.out ms (List.mem_of_getElem? hm))
      have hms := HS.out ms (List.mem_of_getElem? hm)
      have hc1 : wq.cell? (ad.add j) = some (.slice A5 ms.length c5) := by rw [HWQ.out.cell (by rw [block_add]; have := World.block_lt_of_cell? w _ hc0; rwa [block_add] at this)]; exact hc0
      have OT := Lib.hid (show Own (wq.alloc (.cells #[] tStr)) wq.heap.size tStr (.slice (some ⟨wq.heap.size, 0, none⟩) 0 0) (strs ((ms.take 0).map mTx)) from own_lit wq tStr [] (by simp [maxLen]))
      clear hm hu hc0 hu3
      go_wp2_with fail
      clear hc1
      go_loopw [6, 23] (fun ts i wi => ∃ k : Nat, k ≤ ms.length ∧ i = .int .i64 k ∧ Own wi wq.heap.size tStr ts (strs ((ms.take k).map mTx)) ∧ Below wq.heap.size wq wi) (fun _ i _ => ms.length - (intOf i).toNat)
      case atStart => exact ⟨0, Nat.zero_le _, rfl, OT.out, below1 wq _⟩
      case round =>
        obtain ⟨k, hk, rfl, ho, hb⟩ := hrel
        rename World => wi
        clear OT
        have hel : ((ms.take k).map mTx).length = k := by rw [List.length_map, List.length_take]; omega
        have hol := ho.cells.open_
        rw [strs_len, hel] at hol
        obtain ⟨At, ct, rfl, -, -⟩ := hol
        have HELK := Lib.hid hel
        have HOT := Lib.hid ho
        have HBI := Lib.hid hb
        have HWI := Lib.hid (HWQ.out.trans (hb.mono HWQ.out.size))
        clear ho hb hel
        by_cases hlt2 : k < ms.length
        · obtain ⟨bm, om, m, um, rfl, hmk, hf64, hum, hcf, hcu⟩ := HU.out k hlt2
          obtain ⟨f, ps⟩ := m
          have hab : bm < w.heap.size := World.block_lt_of_cell? w _ hcf
          obtain ⟨Ap, cp, rfl, hp1', hp2, hup⟩ := hum.open_
          simp only at hcu hcf hum hp1' hup
          have q0 : wi.cell? ⟨bm, om + k * 2, none⟩ = some (.int .i64 f) := by rw [HWI.out.cell (by exact hab)]; exact hcf
          have q1 : wi.cell? ⟨bm, om + k * 2 + 1, none⟩ = some (.slice Ap ps.length cp) := by rw [HWI.out.cell (by exact hab)]; exact hcu
          have HUP := Lib.hid hup
          have HMK := Lib.hid hmk
          obtain ⟨hf1, hf2, hpl3, hpe⟩ := HSM.out (f, ps) (List.mem_of_getElem? hmk)
          simp only at hf1 hf2 hpl3 hpe
          have HPE := Lib.hid hpe
          have hki : (k : Int) < (ms.length : Int) := by omega
          clear hmk hf64 hum hcf hcu hup hpe
          obtain ⟨wm, hwm⟩ : ∃ wm, wm = wi.alloc (.cells #[.int .i64 f, .slice Ap ps.length cp] 45) := ⟨_, rfl⟩
          have HBM := Lib.hid (show Below wq.heap.size wq wm by rw [hwm]; exact HBI.out.alloc HBI.out.size _)
          have KM := Lib.hid (show Blk wm wi.heap.size 45 #[.int .i64 f, .slice Ap ps.length cp] by rw [hwm]; exact Blk.new _ _ _)
          have HOM := Lib.hid (show Own wm wq.heap.size tStr (.slice At k ct) (strs ((ms.take k).map mTx)) by rw [hwm]; exact HOT.out.alloc _)
          go_upto_region 9 with fail
          rw [← hwm]
          clear hwm q0 q1
          have m0 : wm.cell? ⟨wi.heap.size, 0, none⟩ = some (.int .i64 f) := KM.out.cell 0
          have hNl := numTx_len (a := f) (by omega) hf2
          have HNTX := Lib.hid (i_numberText f wm (by omega) hf2 (powTab_below HT.out (HWQ.out.trans (HBM.out.mono HWQ.out.size))))
          obtain ⟨NT, hNT⟩ : ∃ NT, NT = numTx f := ⟨_, rfl⟩
          rw [← hNT] at hNl HNTX
          have HNT := Lib.hid hNT
          clear hNT
          have hb3 : ¬ (9223372036854775807 < NT.length + 1) := by omega
          go_upto_region 10 with (go_at_call 27; refine HNTX.out.mono ?_; rintro e w2 ⟨rfl, hb2⟩; have HB2 := Lib.hid hb2; clear hb2)
          clear m0
          have m1 : w2.cell? ⟨wi.heap.size, 1, none⟩ = some (.slice Ap ps.length cp) := (KM.out.below HB2.out KM.out.lt).cell 1
          have HO2 := Lib.hid (HOM.out.below HB2.out)
          have HBW2 := Lib.hid (HBM.out.trans (HB2.out.mono HBM.out.size))
          have HW2 := Lib.hid (HWQ.out.trans (HBW2.out.mono HWQ.out.size))
          go_wp2_with fail
          clear m1
          obtain ⟨X3, hX3⟩ : ∃ X3, X3 = NT ++ [58] := ⟨_, rfl⟩
          have hX3l : X3.length ≤ 10101 := by rw [hX3]; simp; omega
          have hX3s : Value.string ((⟨NT.toArray⟩ : ByteArray) ++ ⟨#[58]⟩) = strB X3 := by rw [hX3, str_cat2]
          have HX3 := Lib.hid hX3
          clear hX3
          go_loopw [9, 34] (fun t i wx => ∃ (q : Nat) (Y : List UInt8), q ≤ ps.length ∧ i = .int .i64 q ∧ t = strB Y ∧ Hid (Y = X3 ++ (ps.take q).map digB) ∧ Y.length ≤ 10101 + q ∧ wx = w2) (fun _ i _ => ps.length - (intOf i).toNat)
          case atStart => exact ⟨0, X3, Nat.zero_le _, rfl, by first | rfl | exact hX3s, Lib.hid (by simp), by omega, rfl⟩
          case round =>
            obtain ⟨q, Y, hq, rfl, rfl, hY, hYl, rfl⟩ := hrel
            clear hX3s
            by_cases hlt3 : q < ps.length
            · obtain ⟨ap, e, rfl, he, he64, hce⟩ := HUP.out q hlt3
              have hce2 := (HW2.out.cell (show (ap.add q).block < w.heap.size from by rw [block_add]; have := World.block_lt_of_cell? w _ hce; rwa [block_add] at this)).trans hce
              have hqi : (q : Int) < (ps.length : Int) := by omega
              obtain ⟨hee0, hee1⟩ := HPE.out e (List.mem_of_getElem? he)
              have hrs := fun W => rune_str e hee0 hee1 W
              have HTK := Lib.hid (show (ps.take (q + 1)).map digB = (ps.take q).map digB ++ [digB e] by rw [List.take_add_one, he]; simp)
              clear he he64 hce
              have hb5 : ¬ (9223372036854775807 < Y.length + 1) := by omega
              go_wp2_with fail
              clear hce2 hrs
              go_roundw
              case rel => exact ⟨q + 1, Y ++ [digB e], by omega, by go_num, congrArg Value.string (str_cat Y [digB e]), Lib.hid (by rw [hY.out, HTK.out, List.append_assoc]), by rw [len1]; omega, trivial⟩
              case measure => simp [intOf]; omega
            · have hqe : q = ps.length := by omega
              subst hqe
              have HFN := Lib.hid (show Y = mTx (f, ps) by rw [hY.out, HX3.out, HNT.out, List.take_length]; simp [mTx])
              go_wp2_with (at_builtin; go_loud (refine wpList_app1 T_str HO2.out (by rw [strs_len, HELK.out]; omega) HBW2.out.size (by rfl) rfl (by rfl) (by rfl) (by rfl) ?_; intro v3 w3 hown3 hgr3; have HN3 := Lib.hid hown3; have HR3 := Lib.hid hgr3; clear hown3 hgr3))
              go_roundw
              case rel =>
                refine ⟨k + 1, by omega, by go_num, ?_, HR3.out.below HBW2.out HBW2.out.size HO2.out.ge⟩
                have h := HN3.out
                rw [strs_snoc, HFN.out] at h
                rw [List.take_add_one, HMK.out]
                simpa using h
              case measure => simp [intOf]; omega
        · have hke : k = ms.length := by omega
          subst hke
          have hol2 := HOT.out
          rw [List.take_length] at hol2
          have HOT2 := Lib.hid hol2
          clear hol2 HOT HELK
          go_upto_if 52 with fail
          go_cut [6, 16] from 16 to 61 (fun x i wx => i = .int .i64 j ∧ ∃ g cx, x = .slice (some ⟨g, 0, none⟩) (tmsL ms).length cx ∧ Own wx wq.heap.size tStr (.slice (some ⟨g, 0, none⟩) (tmsL ms).length cx) (strs (tmsL ms)) ∧ Below wq.heap.size wq wx)
          case first =>
            by_cases hm0 : ms.length = 0
            · have HE := Lib.hid (show strs (ms.map mTx) ++ [strB [48]] = strs (tmsL ms) by unfold tmsL; rw [if_pos hm0, List.eq_nil_of_length_eq_zero hm0]; rfl)
              have HM0 := Lib.hid hm0
              have hmb : ((ms.length : Int) == 0) = true := by simp [hm0]
              clear hm0
              go_wp2_with (at_builtin; go_loud (refine wpList_app1 (u := strB [48]) T_str HOT2.out (by rw [strs_len, List.length_map]; omega) HBI.out.size (by rfl) rfl (by rfl) (by rfl) (by rfl) ?_; intro v3 w3 hown3 hgr3; have HN3 := Lib.hid hown3; have HR3 := Lib.hid hgr3; clear hown3 hgr3))
              go_meet
              have h := HN3.out
              rw [HE.out] at h
              obtain ⟨g, cx, rfl⟩ := str_open h (tmsL_len ms).1
              exact ⟨rfl, g, cx, rfl, h, HR3.out.below HBI.out HBI.out.size HOT2.out.ge⟩
            · have HE := Lib.hid (show ms.map mTx = tmsL ms by unfold tmsL; rw [if_neg hm0])
              have HM0 := Lib.hid hm0
              have hmb : ((ms.length : Int) == 0) = false := by rw [beq_eq_false_iff_ne]; omega
              clear hm0
              go_wp2_with fail
              go_meet
              have h := HOT2.out
              rw [HE.out] at h
              obtain ⟨g, cx, hx⟩ := str_open h (tmsL_len ms).1
              rw [hx] at h
              exact ⟨rfl, g, cx, hx, h, HBI.out⟩
          case rest =>
            obtain ⟨rfl, g, cx, rfl, ho7, hb7⟩ := hcut
            rename World => wz
            have HTL := tmsL_len ms
            have hpt : (parTx ms).length ≤ ms.length * 10105 + 1 := parTx_len fun m hm => by have := HSM.out m hm; exact ⟨by omega, this.2.1, this.2.2.1⟩
            have HJ := Lib.hid (lib_Join wz wq.heap.size g cx (tmsL ms) 43 ho7 (by rw [parTx_join]; omega) (by omega))
            rw [parTx_join] at HJ
            have HB7 := Lib.hid hb7
            have HOZ := Lib.hid (HO.out.below hb7)
            have HBZ := Lib.hid (HBQ.out.trans (hb7.mono HBQ.out.size))
            clear HTL ho7 hb7 hpt
            go_wp2_with (first
              | (go_at_call 28; refine HJ.out.mono ?_; rintro e w8 ⟨rfl, hb8⟩; have HB8 := Lib.hid hb8; clear hb8)
              | (at_builtin; go_loud (refine wpList_app1 T_str (HOZ.out.below HB8.out) (by rw [strs_len, HEL.out]; omega) (Nat.le_trans HBZ.out.size HB8.out.size) (by rfl) rfl (by rfl) (by rfl) (by rfl) ?_; intro v3 w3 hown3 hgr3; have HN3 := Lib.hid hown3; have HR3 := Lib.hid hgr3; clear hown3 hgr3)))
            go_roundw
            case rel =>
              refine ⟨j + 1, by omega, by go_num, ?_, HR3.out.below (HBZ.out.trans (HB8.out.mono HBZ.out.size)) (Nat.le_trans HBZ.out.size HB8.out.size) HO.out.ge⟩
              have h := HN3.out
              rw [strs_snoc] at h
              rw [List.take_add_one, HM.out]
              simpa using h
            case measure => simp [intOf]; omega
    · have hje : j = pss.length := by omega
      subst hje
      have ho2 := HO.out
      rw [List.take_length] at ho2
      obtain ⟨g, cx, hx⟩ := str_open ho2 (by rw [List.length_map]; exact hp1)
      rw [List.length_map] at hx
      simp only [Value.slice.injEq, true_and] at hx
      obtain ⟨rfl, rfl⟩ := hx
      have hft : (fldTx pss).length ≤ 140737488355328 := by
        have h1 := join_len (c := 43400644526081) (sep := [59]) (pss.map parTx) (fun x hx => by
          obtain ⟨ms, hms, rfl⟩ := List.mem_map.1 hx
          have h2 := parTx_len (ms := ms) fun m hm => by have := HMN.out ms hms m hm; exact ⟨by omega, this.2.1, this.2.2.1⟩
          have h3 := HS.out ms hms
          omega)
        rw [List.length_map] at h1
        simp only [List.length_cons, List.length_nil] at h1
        unfold fldTx
        have h4 := Nat.mul_le_mul_right (43400644526081 + (0 + 1)) hpl
        omega
      have hj := lib_Join wq wb.heap.size g co (pss.map parTx) 59 (by rw [List.length_map]; exact ho2) hft (by rw [List.length_map]; omega)
      rw [List.length_map] at hj
      have HJ := Lib.hid hj
      clear hj ho2 hft
      go_wp2_with (go_at_call 28; refine HJ.out.mono ?_; rintro e w8 ⟨rfl, hb8⟩; have HB8 := Lib.hid hb8; clear hb8)
      go_ret
      exact ⟨rfl, HWQ.out.trans (HB8.out.mono HWQ.out.size)⟩
end Go.Proofs.YtnnfjjadehgmeaaDoor

set_option maxRecDepth 100000
set_option linter.unusedVariables false
set_option linter.unusedSimpArgs false
namespace Go.Proofs.YtnnfjjadehgmeaaDoor
open Go.RowKit

theorem quiet_lessF {w : World} {n : Nat} {v v' : Value} {a b : List Int} (h : Ints w v a) (h' : Ints w v' b) :
    Calls Tryd.prog 19 #[v, v'] (w.drewN n) fun e w'' => e = .returned (.bool (lessL a b)) ∧ ∃ m, w'' = w.drewN m :=
  (s_l01Less _ _ _ a b (h.drewN n) (h'.drewN n)).mono fun _ _ ⟨he, m, hm⟩ => ⟨he, n + m, by rw [hm, World.drewN_drewN]⟩

theorem factor_in (f : Int) : inR f 1 10006 = (!decide (f = 0) && isNum f) := by
  unfold isNum inR
  by_cases h : f = 0
  · subst h; decide
  · by_cases h1 : 1 ≤ f
    · have : 0 ≤ f := by omega
      simp [h, h1, this]
    · have : ¬ 0 ≤ f := by omega
      simp [h1, this]

theorem monoB_eq (n f : Int) (ps : List Int) : monoB n (f, ps) = (inR f 1 10006 && (decide ((ps.length : Int) = n) && degOk ps)) := by
  unfold monoB
  rw [factor_in]
  cases degOk ps <;> cases decide (f = 0) <;> cases isNum f <;> cases decide ((ps.length : Int) = n) <;> rfl

set_option maxHeartbeats 4000000 in
theorem s_l13Is (w : World) (v : Value) (n : Int) (pss : List (List Mono)) (ha : FieldArg w v n pss) (hs : ∀ ms ∈ pss, ∀ m ∈ ms, m.2.length ≤ 4294967296) :
    Calls Tryd.prog 10 #[v] w fun e w' => e = .returned (.bool (fieldB n pss)) ∧ Below w.heap.size w w' := by
  obtain ⟨vp, rfl, hn64, hP⟩ := ha
  obtain ⟨A, c, rfl, l1, l2, h3⟩ := hP.open_
  have H3 := Lib.hid h3
  have HS := Lib.hid hs
  clear hP h3 hs
  have B0 := Lib.hid (below1 w (.cells #[.int .i64 n, .slice A pss.length c] 30))
  have K0 := Lib.hid (Blk.new w #[.int .i64 n, .slice A pss.length c] 30)
  go_enter Tryd.func10, Tryd.ntmps10
  cases hr : inR n 1 3 with
  | false =>
    have HF := Lib.hid (show fieldB n pss = false by simp [fieldB, hr])
    go_wp2_with (go_at_call 17; refine (s_l01In _ _ _ _).mono ?_; rintro e w' ⟨rfl, rfl⟩; rw [hr])
    go_ret
    exact ⟨ret_bool HF.out.symm, B0.out⟩
  | true =>
    have HR := Lib.hid hr
    by_cases hl : (pss.length : Int) = n
    · have hlb : ((pss.length : Int) != n) = false := by simp [hl]
      have HL := Lib.hid hl
      clear hl
      go_wp2_with (go_at_call 17; refine (s_l01In _ _ _ _).mono ?_; rintro e w' ⟨rfl, rfl⟩; rw [hr])
      generalize (w.alloc (.cells #[.int .i64 n, .slice A pss.length c] 30)) = w1 at B0 K0 ⊢
      go_loopw [3] (fun i wr => ∃ j : Nat, j ≤ pss.length ∧ i = .int .i64 j ∧ Hid (∀ i ms, i < j → pss[i]? = some ms → partB n ms = true) ∧ Blk wr w.heap.size 30 #[.int .i64 n, .slice A pss.length c] ∧ Below w.heap.size w wr) (fun i _ => pss.length - (intOf i).toNat)
      case atStart => exact ⟨0, Nat.zero_le _, rfl, fun i ms h => by omega, K0.out, B0.out⟩
      case round =>
        obtain ⟨j, hj, rfl, hI, hk0, hb⟩ := hrel
        clear K0 B0
        have KW := Lib.hid hk0
        have BW := Lib.hid hb
        have g1 : wr.cell? ⟨w.heap.size, 1, none⟩ = some (.slice A pss.length c) := KW.out.cell 1
        clear hk0 hb
        by_cases hlt : j < pss.length
        · obtain ⟨ad, u, ms, rfl, hm, hu, hc0⟩ := H3.out j hlt
          obtain ⟨A5, c5, rfl, p1, p2, hu3⟩ := hu.open_
          have HU := Lib.hid hu3
          have HM := Lib.hid hm
          have HSM := Lib.hid (HS.out ms (List.mem_of_getElem? hm))
          have HCJ := Lib.hid (show ∀ W : World, Below w.heap.size w W → W.cell? (ad.add j) = some (.slice A5 ms.length c5) from fun W hW => by rw [hW.cell (by rw [block_add]; have := World.block_lt_of_cell? w _ hc0; rwa [block_add] at this)]; exact hc0)
          have hji : (j : Int) < (pss.length : Int) := by omega
          clear hm hu hc0 hu3
          go_wp2_with fail
          clear g1
          obtain ⟨wo, rfl⟩ : ∃ wo : World, wo = wr := ⟨_, rfl⟩
          go_loopw [4] (fun i wi => ∃ k : Nat, k ≤ ms.length ∧ i = .int .i64 k ∧ Hid (∀ q, q < k → badAt n ms q = false) ∧ Blk wi w.heap.size 30 #[.int .i64 n, .slice (some ad) pss.length c] ∧ Below w.heap.size w wi) (fun i _ => ms.length - (intOf i).toNat)
          case atStart => exact ⟨0, Nat.zero_le _, rfl, fun q h => by omega, KW.out, BW.out⟩
          case round =>
            obtain ⟨k, hk, rfl, hJ, hk0, hb⟩ := hrel
            clear KW BW
            have KW := Lib.hid hk0
            have BW := Lib.hid hb
            clear hk0 hb
            have g1 : wr.cell? ⟨w.heap.size, 1, none⟩ = some (.slice (some ad) pss.length c) := KW.out.cell 1
            have gj : wr.cell? (ad.add j) = some (.slice A5 ms.length c5) := HCJ.out wr BW.out
            by_cases hlt2 : k < ms.length
            · obtain ⟨bm, om, m, um, rfl, hmk, hf64, hum, hcf, hcu⟩ := HU.out k hlt2
              obtain ⟨f, ps⟩ := m
              have hab : bm < w.heap.size := World.block_lt_of_cell? w _ hcf
              have q0 : wr.cell? ⟨bm, om + k * 2, none⟩ = some (.int .i64 f) := by rw [BW.out.cell (by exact hab)]; exact hcf
              have q1 : wr.cell? ⟨bm, om + k * 2 + 1, none⟩ = some um := by rw [BW.out.cell (by exact hab)]; exact hcu
              obtain ⟨Ap, cp, rfl, hp1, hp2, -⟩ := hum.open_
              simp only at hcu hum q1 hp1
              have HUM := Lib.hid hum
              have HGK := Lib.hid (show ms.getD k (0, []) = (f, ps) by simp [List.getD, hmk])
              have hpl := HSM.out (f, ps) (List.mem_of_getElem? hmk)
              simp only at hpl
              have hki : (k : Int) < (ms.length : Int) := by omega
              have kf : (wr.alloc (.cells #[.int .i64 f, .slice Ap ps.length cp] 45)).cell? ⟨w.heap.size, 0, none⟩ = some (.int .i64 n) := (KW.out.alloc (.cells #[.int .i64 f, .slice Ap ps.length cp] 45)).cell 0
              have HUW := Lib.hid (HUM.out.below (BW.out.alloc BW.out.size (.cells #[.int .i64 f, .slice Ap ps.length cp] 45)))
              have B2 := Lib.hid (BW.out.alloc BW.out.size (.cells #[.int .i64 f, .slice Ap ps.length cp] 45))
              have K2 := Lib.hid (KW.out.alloc (.cells #[.int .i64 f, .slice Ap ps.length cp] 45))
              clear hmk hf64 hum hcf hcu
              have bad : ∀ b : Bool, monoB n (f, ps) = false → partB n ms = false := fun _ h => partB_no hlt2 (by unfold badAt; rw [HGK.out, h]; rfl)
              have BAD := Lib.hid bad
              clear bad
              have FB := Lib.hid (show monoB n (f, ps) = false → fieldB n pss = false from fun h => by rw [fieldB, parts_no HM.out (BAD.out true h)]; simp)
              cases hin : inR f 1 10006 with
              | false =>
                have HFB := Lib.hid (FB.out (by rw [monoB_eq, hin]; rfl))
                go_wp2_with (first | (go_at_call 17; refine (s_l01In _ _ _ _).mono ?_; rintro e w' ⟨rfl, rfl⟩; rw [hin]) | (go_at_call 18; refine (s_l13Degree _ _ ps HUW.out hpl).mono ?_; rintro e w' ⟨rfl, rfl⟩))
                go_ret
                exact ⟨ret_bool HFB.out.symm, B2.out⟩
              | true =>
                by_cases hl2 : (ps.length : Int) = n
                · have hlb2 : ((ps.length : Int) != n) = false := by simp [hl2]
                  have HL2 := Lib.hid hl2
                  clear hl2
                  by_cases hd : 3 < degV ps
                  · have HFB := Lib.hid (FB.out (by rw [monoB_eq, ← degV_ok]; simp; omega))
                    go_wp2_with (first | (go_at_call 17; refine (s_l01In _ _ _ _).mono ?_; rintro e w' ⟨rfl, rfl⟩; rw [hin]) | (go_at_call 18; refine (s_l13Degree _ _ ps HUW.out hpl).mono ?_; rintro e w' ⟨rfl, rfl⟩))
                    go_ret
                    exact ⟨ret_bool HFB.out.symm, B2.out⟩
                  · have HMB := Lib.hid (show monoB n (f, ps) = true by rw [monoB_eq, ← degV_ok, hin]; simp; exact ⟨HL2.out, by omega⟩)
                    by_cases hk0 : k = 0
                    · subst hk0
                      simp only [Nat.zero_mul, Nat.add_zero] at q0 q1
                      have HGD := Lib.hid (show badAt n ms 0 = false by unfold badAt; rw [HGK.out, HMB.out]; simp)
                      go_wp2_with (first | (go_at_call 17; refine (s_l01In _ _ _ _).mono ?_; rintro e w' ⟨rfl, rfl⟩; rw [hin]) | (go_at_call 18; refine (s_l13Degree _ _ ps HUW.out hpl).mono ?_; rintro e w' ⟨rfl, rfl⟩))
                      go_quiet (fail)
                      clear kf q0 q1 g1 gj
                      go_wp2_with fail
                      go_roundw
                      case rel =>
                        refine ⟨1, by omega, by go_num, fun q hq => ?_, K2.out.drewN _, below_drewN B2.out _⟩
                        have : q = 0 := by omega
                        subst this
                        exact HGD.out
                      case measure => simp [intOf]; omega
                    · obtain ⟨bq, oq, mq, uq, he, hmq, -, huq, -, hcq⟩ := HU.out (k - 1) (by omega)
                      simp only [Option.some.injEq, Addr.mk.injEq, and_true] at he
                      obtain ⟨rfl, rfl⟩ := he
                      obtain ⟨fq, qs⟩ := mq
                      obtain ⟨Aq, cq, rfl, -, -, -⟩ := huq.open_
                      simp only at hcq huq
                      have HPQ := Lib.hid (huq.below B2.out)
                      have HGQ := Lib.hid (show ms.getD (k - 1) (0, []) = (fq, qs) by simp [List.getD, hmq])
                      have HBE := Lib.hid (show badAt n ms k = !lessL qs ps by unfold badAt; rw [HGK.out, HGQ.out, HMB.out]; simp; omega)
                      have pv : (wr.alloc (.cells #[.int .i64 f, .slice Ap ps.length cp] 45)).cell? ⟨bm, om + (k - 1) * 2 + 1, none⟩ = some (.slice Aq qs.length cq) := by rw [B2.out.cell (by exact hab)]; exact hcq
                      have g1' : (wr.alloc (.cells #[.int .i64 f, .slice Ap ps.length cp] 45)).cell? ⟨w.heap.size, 1, none⟩ = some (.slice (some ad) pss.length c) := K2.out.cell 1
                      have gj' : (wr.alloc (.cells #[.int .i64 f, .slice Ap ps.length cp] 45)).cell? (ad.add j) = some (.slice (some ⟨bm, om, none⟩) ms.length c5) := HCJ.out _ B2.out
                      have hkp : (0 : Int) < (k : Int) := by omega
                      have hkn : 0 < k := by omega
                      have hkn2 : decide (0 < k) = true := by simpa using hkn
                      have hkd : decide ((0 : Int) < (k : Int)) = true := by simpa using hkp
                      have hkw : IntKind.i64.wrap ((k : Int) - 1) = (k : Int) - 1 := IntWalk.i64_in _ (by omega)
                      have hk1 : ((k : Int) - 1).toNat = k - 1 := by omega
                      have hk2 : (0 : Int) ≤ (k : Int) - 1 := by omega
                      have hk3 : (k : Int) - 1 < (ms.length : Int) := by omega
                      clear hmq huq hcq
                      cases hle : lessL qs ps with
                      | true =>
                        have HGD := Lib.hid (show badAt n ms k = false by rw [HBE.out, hle]; rfl)
                        have LT : ∀ N, Calls Tryd.prog 19 #[.slice Aq qs.length cq, .slice Ap ps.length cp] ((wr.alloc (.cells #[.int .i64 f, .slice Ap ps.length cp] 45)).drewN N) fun e w'' => e = .returned (.bool true) ∧ ∃ m, w'' = (wr.alloc (.cells #[.int .i64 f, .slice Ap ps.length cp] 45)).drewN m := fun N => by have h := quiet_lessF (w := wr.alloc (.cells #[.int .i64 f, .slice Ap ps.length cp] 45)) (n := N) HPQ.out HUW.out; rwa [hle] at h
                        go_wp2_with (first | (go_at_call 17; refine (s_l01In _ _ _ _).mono ?_; rintro e w' ⟨rfl, rfl⟩; rw [hin]) | (go_at_call 18; refine (s_l13Degree _ _ ps HUW.out hpl).mono ?_; rintro e w' ⟨rfl, rfl⟩))
                        go_quiet ((go_at_call 19; exact LT _))
                        clear kf q0 q1 g1 gj pv g1' gj'
                        go_wp2_with fail
                        go_roundw
                        case rel =>
                          refine ⟨k + 1, by omega, by go_num, fun q hq => ?_, K2.out.drewN _, below_drewN B2.out _⟩
                          by_cases e : q = k
                          · subst e; exact HGD.out
                          · exact hJ.out q (by omega)
                        case measure => simp [intOf]; omega
                      | false =>
                        have HFB := Lib.hid (show fieldB n pss = false by rw [fieldB, parts_no HM.out (partB_no hlt2 (by rw [HBE.out, hle]; rfl))]; simp)
                        have LT : ∀ N, Calls Tryd.prog 19 #[.slice Aq qs.length cq, .slice Ap ps.length cp] ((wr.alloc (.cells #[.int .i64 f, .slice Ap ps.length cp] 45)).drewN N) fun e w'' => e = .returned (.bool false) ∧ ∃ m, w'' = (wr.alloc (.cells #[.int .i64 f, .slice Ap ps.length cp] 45)).drewN m := fun N => by have h := quiet_lessF (w := wr.alloc (.cells #[.int .i64 f, .slice Ap ps.length cp] 45)) (n := N) HPQ.out HUW.out; rwa [hle] at h
                        go_wp2_with (first | (go_at_call 17; refine (s_l01In _ _ _ _).mono ?_; rintro e w' ⟨rfl, rfl⟩; rw [hin]) | (go_at_call 18; refine (s_l13Degree _ _ ps HUW.out hpl).mono ?_; rintro e w' ⟨rfl, rfl⟩))
                        go_quiet ((go_at_call 19; exact LT _))
                        clear kf q0 q1 g1 gj pv g1' gj'
                        go_wp2_with fail
                        go_ret
                        exact ⟨ret_bool HFB.out.symm, below_drewN B2.out _⟩
                · have hlb2 : ((ps.length : Int) != n) = true := by simp [hl2]
                  have HFB := Lib.hid (FB.out (by rw [monoB_eq]; simp [hl2]))
                  go_wp2_with (first | (go_at_call 17; refine (s_l01In _ _ _ _).mono ?_; rintro e w' ⟨rfl, rfl⟩; rw [hin]) | (go_at_call 18; refine (s_l13Degree _ _ ps HUW.out hpl).mono ?_; rintro e w' ⟨rfl, rfl⟩))
                  go_ret
                  exact ⟨ret_bool HFB.out.symm, B2.out⟩
            · have : k = ms.length := by omega
              subst this
              have HPB := Lib.hid (partB_all hJ.out)
              go_wp2_with fail
              go_roundw
              case rel =>
                refine ⟨j + 1, by omega, by go_num, fun i xs hi hx => ?_, KW.out, BW.out⟩
                by_cases e : i = j
                · subst e
                  rw [HM.out] at hx
                  cases hx
                  exact HPB.out
                · exact hI.out i xs (by omega) hx
              case measure => simp [intOf]; omega
        · have : j = pss.length := by omega
          subst this
          have HF := Lib.hid (show fieldB n pss = true by simp [fieldB, HR.out, HL.out, parts_all hI.out])
          go_wp2_with fail
          go_ret
          exact ⟨ret_bool HF.out.symm, BW.out⟩
    · have hlb : ((pss.length : Int) != n) = true := by simp [hl]
      have HF := Lib.hid (show fieldB n pss = false by simp [fieldB, hl])
      go_wp2_with (go_at_call 17; refine (s_l01In _ _ _ _).mono ?_; rintro e w' ⟨rfl, rfl⟩; rw [hr])
      go_ret
      exact ⟨ret_bool HF.out.symm, B0.out⟩
end Go.Proofs.YtnnfjjadehgmeaaDoor

set_option maxRecDepth 100000
set_option linter.unusedVariables false
set_option linter.unusedSimpArgs false
namespace Go.Proofs.YtnnfjjadehgmeaaDoor
open Go.RowKit

theorem FieldArg.below {w w' : World} {v : Value} {n : Int} {pss : List (List Mono)} (h : FieldArg w v n pss) (hb : Below w.heap.size w w') : FieldArg w' v n pss := by
  obtain ⟨vp, rfl, h1, h2⟩ := h
  exact ⟨vp, rfl, h1, h2.below hb⟩

end Go.Proofs.YtnnfjjadehgmeaaDoor

set_option maxRecDepth 100000
set_option linter.unusedVariables false
set_option linter.unusedSimpArgs false
namespace Go.Proofs.YtnnfjjadehgmeaaDoor
open Go.RowKit

def ftC (n : Int) (pss : List (List Mono)) : Int := if fieldB n pss then 0 else 1
def ftR (n : Int) (pss : List (List Mono)) : List UInt8 := if fieldB n pss then fldTx pss else []
set_option maxHeartbeats 1000000 in
theorem s_FieldText (w : World) (v : Value) (n : Int) (pss : List (List Mono)) (ha : FieldArg w v n pss) (hl : ∀ ms ∈ pss, ms.length ≤ 4294967296) (hs : ∀ ms ∈ pss, ∀ m ∈ ms, m.2.length ≤ 4294967296) :
    Calls Tryd.prog 5 #[v] w fun e w' => e = .returned (.tuple #[strB (ftR n pss), .int .i64 (ftC n pss)]) ∧ Below w.heap.size w w' := by
  have HA := Lib.hid ha
  obtain ⟨vp, rfl, h1, h2⟩ := ha
  have HL := Lib.hid hl
  have HS := Lib.hid hs
  clear hs hl h1 h2
  have B0 := Lib.hid (below1 w (.cells #[.int .i64 n, vp] 30))
  have K0 := Lib.hid (Blk.new w #[.int .i64 n, vp] 30)
  unfold ftR ftC
  cases hF : fieldB n pss with
  | false =>
    go_enter Tryd.func5, Tryd.ntmps5
    go_wp2_with (go_at_call 10; refine (s_l13Is _ _ n pss (HA.out.below B0.out) HS.out).mono ?_; rintro e w5 ⟨rfl, hb5⟩; rw [hF])
    go_ret2
    refine ⟨?_, B0.out.trans (hb5.mono B0.out.size)⟩
    rfl
  | true =>
    have HF := Lib.hid hF
    clear hF
    go_enter Tryd.func5, Tryd.ntmps5
    generalize hw1 : (w.alloc (.cells #[.int .i64 n, vp] 30)) = w1 at B0 K0
    go_upto_region 1 with fail
    first | rw [hw1] | skip
    clear hw1
    have k0 : w1.cell? ⟨w.heap.size, 0, none⟩ = some (.int .i64 n) := K0.out.cell 0
    have k1 : w1.cell? ⟨w.heap.size, 1, none⟩ = some vp := K0.out.cell 1
    go_upto_region 3 with (go_at_call 10; refine (s_l13Is _ _ n pss (HA.out.below B0.out) HS.out).mono ?_; rintro e w5 ⟨rfl, hb5⟩; rw [HF.out]; have HB5 := Lib.hid hb5; clear hb5)
    clear k0 k1
    have k0 : w5.cell? ⟨w.heap.size, 0, none⟩ = some (.int .i64 n) := (K0.out.below HB5.out K0.out.lt).cell 0
    have k1 : w5.cell? ⟨w.heap.size, 1, none⟩ = some vp := (K0.out.below HB5.out K0.out.lt).cell 1
    have HB6 := Lib.hid (B0.out.trans (HB5.out.mono B0.out.size))
    go_wp2_with (go_at_call 11; refine (s_l13Text _ _ n pss (HA.out.below HB6.out) HF.out HL.out).mono ?_; rintro e w6 ⟨rfl, hb6⟩)
    go_ret2
    exact ⟨rfl, HB6.out.trans (hb6.mono HB6.out.size)⟩
set_option maxHeartbeats 1000000 in
theorem i_FieldText (w : World) (v : Value) (n : Int) (pss : List (List Mono)) (ha : FieldArg w v n pss) (hl : ∀ ms ∈ pss, ms.length ≤ 4294967296) (hs : ∀ ms ∈ pss, ∀ m ∈ ms, m.2.length ≤ 4294967296) (ht : PowTab w) :
    Calls Tryd.prog 7 #[v] w fun e w' => e = .returned (.tuple #[strB (ftR n pss), .int .i64 (ftC n pss)]) ∧ Below w.heap.size w w' := by
  have HA := Lib.hid ha
  obtain ⟨vp, rfl, h1, h2⟩ := ha
  have HL := Lib.hid hl
  have HS := Lib.hid hs
  have HT := Lib.hid ht
  clear hs hl h1 h2 ht
  have B0 := Lib.hid (below1 w (.cells #[.int .i64 n, vp] 30))
  have K0 := Lib.hid (Blk.new w #[.int .i64 n, vp] 30)
  unfold ftR ftC
  cases hF : fieldB n pss with
  | false =>
    go_enter Tryd.func7, Tryd.ntmps7
    go_wp2_with (go_at_call 13; refine (i_IsField _ _ n pss (HA.out.below B0.out) HS.out).mono ?_; rintro e w5 ⟨rfl, hb5⟩; rw [hF])
    go_ret2
    refine ⟨?_, B0.out.trans (hb5.mono B0.out.size)⟩
    rfl
  | true =>
    have HF := Lib.hid hF
    clear hF
    go_enter Tryd.func7, Tryd.ntmps7
    generalize hw1 : (w.alloc (.cells #[.int .i64 n, vp] 30)) = w1 at B0 K0
    go_upto_region 1 with fail
    first | rw [hw1] | skip
    clear hw1
    have k0 : w1.cell? ⟨w.heap.size, 0, none⟩ = some (.int .i64 n) := K0.out.cell 0
    have k1 : w1.cell? ⟨w.heap.size, 1, none⟩ = some vp := K0.out.cell 1
    go_upto_region 3 with (go_at_call 13; refine (i_IsField _ _ n pss (HA.out.below B0.out) HS.out).mono ?_; rintro e w5 ⟨rfl, hb5⟩; rw [HF.out]; have HB5 := Lib.hid hb5; clear hb5)
    clear k0 k1
    have k0 : w5.cell? ⟨w.heap.size, 0, none⟩ = some (.int .i64 n) := (K0.out.below HB5.out K0.out.lt).cell 0
    have k1 : w5.cell? ⟨w.heap.size, 1, none⟩ = some vp := (K0.out.below HB5.out K0.out.lt).cell 1
    have HB6 := Lib.hid (B0.out.trans (HB5.out.mono B0.out.size))
    go_wp2_with (go_at_call 14; refine (i_fieldText _ _ n pss (HA.out.below HB6.out) HF.out HL.out (powTab_below HT.out HB6.out)).mono ?_; rintro e w6 ⟨rfl, hb6⟩)
    go_ret2
    exact ⟨rfl, HB6.out.trans (hb6.mono HB6.out.size)⟩
end Go.Proofs.YtnnfjjadehgmeaaDoor

set_option linter.unusedVariables false
set_option linter.unusedSimpArgs false
namespace Go.Proofs.YtnnfjjadehgmeaaDoor
open Go.RowKit

abbrev tI : TypeId := 2
abbrev tL : TypeId := 43

theorem set_next {vs : List Value} {k n : Nat} {u z : Value} (hk : vs.length = k) (hn : k < n) : (vs ++ List.replicate (n - k) z).set k u = (vs ++ [u]) ++ List.replicate (n - (k + 1)) z := by
  subst hk
  rw [List.set_append_right _ _ (Nat.le_refl _), Nat.sub_self, List.append_assoc]
  congr 1
  rw [show n - vs.length = (n - (vs.length + 1)) + 1 by omega, List.replicate_succ]
  rfl

def szI (left : Int) (n : Nat) : Int := if left - n < 0 then -1 else left - n
def szR : Int → List (List Int) → Int
  | left, [] => left
  | left, zs :: r => if szI left zs.length < 0 then -1 else szR (szI left zs.length) r
theorem szI_le {left : Int} {n : Nat} (h : 0 ≤ szI left n) : (n : Int) ≤ left ∧ szI left n ≤ left := by
  unfold szI at *
  split at h <;> omega
theorem szR_le : ∀ {xss : List (List Int)} {left : Int}, 0 ≤ szR left xss → szR left xss ≤ left ∧ ∀ zs ∈ xss, (zs.length : Int) ≤ left
  | [], left, h => ⟨Int.le_refl _, fun zs hz => by simp at hz⟩
  | zs :: r, left, h => by
    unfold szR at h ⊢
    split at h
    · omega
    · rename_i h1
      rw [if_neg h1]
      have h2 := szI_le (left := left) (n := zs.length) (by omega)
      have h3 := szR_le (xss := r) h
      refine ⟨by omega, fun ys hy => ?_⟩
      rcases List.mem_cons.1 hy with rfl | hy
      · exact h2.1
      · have := h3.2 ys hy; omega
set_option maxHeartbeats 400000 in
theorem l_szInt64S (w : World) (a : Value) (zs : List Int) (left : Int) (ha : Ints w a zs) (h0 : 0 ≤ left) (h1 : left ≤ 4294967296) :
    Calls Tryd.prog 44 #[a, .int .i64 left] w fun e w' => e = .returned (.int .i64 (szI left zs.length)) ∧ w = w' := by
  obtain ⟨A, c, rfl, g1, g2, g3⟩ := ha.open_
  clear ha g3
  by_cases h : left - zs.length < 0
  · have HF := Lib.hid (show szI left zs.length = -1 by simp [szI, h])
    go_enter Tryd.func44, Tryd.ntmps44
    go_wp2
    go_ret
    exact ⟨ret_int HF.out.symm, rfl⟩
  · have HF := Lib.hid (show szI left zs.length = left - zs.length by simp [szI, h])
    go_enter Tryd.func44, Tryd.ntmps44
    go_wp2
    go_ret
    exact ⟨ret_int HF.out.symm, rfl⟩

theorem szR_drop {left : Int} {xss : List (List Int)} {k : Nat} {zs : List Int} (h : xss[k]? = some zs) : szR left (xss.drop k) = if szI left zs.length < 0 then -1 else szR (szI left zs.length) (xss.drop (k + 1)) := by
  have hk := (List.getElem?_eq_some_iff.1 h)
  obtain ⟨hk1, hk2⟩ := hk
  rw [List.drop_eq_getElem_cons hk1, hk2]
  rfl

/-- a tableau that came in -/
def TabArg (w : World) (v : Value) (A : List (List Int)) (Bs : List Int) : Prop := ∃ va vb, v = .agg #[va, vb] ∧ Rows w va A ∧ Ints w vb Bs
/-- an owned tableau: the rows, the row of rows and the weights lie in blocks of their own -/
def OT (w : World) (B C : Nat) (v : Value) (A : List (List Int)) (Bs : List Int) : Prop :=
  ∃ va vb vs, v = .agg #[va, vb] ∧ Own w B tL va vs ∧ (∀ b, va.ownBlock = some b → b < C) ∧ RowsOwn w B C tI vs A ∧ OI w B C tI vb Bs ∧ ∀ (k : Nat) (u : Value), vs[k]? = some u → Apart u vb

section
variable {w w' : World} {B C B' C' : Nat} {v : Value} {A : List (List Int)} {Bs : List Int}
theorem TabArg.below (h : TabArg w v A Bs) (hb : Below w.heap.size w w') : TabArg w' v A Bs := by
  obtain ⟨va, vb, rfl, h1, h2⟩ := h
  exact ⟨va, vb, rfl, h1.below hb, h2.below hb⟩
theorem TabArg.drewN (h : TabArg w v A Bs) (n : Nat) : TabArg (w.drewN n) v A Bs := h
theorem OT.arg (h : OT w B C v A Bs) : TabArg w v A Bs := by
  obtain ⟨va, vb, vs, rfl, h1, h2, h3, h4, h5⟩ := h
  exact ⟨va, vb, rfl, OR.rows ⟨vs, h1, h2, h3⟩, h4.ints⟩
theorem OT.below (h : OT w B C v A Bs) (hb : Below w.heap.size w w') : OT w' B C v A Bs := by
  obtain ⟨va, vb, vs, rfl, h1, h2, h3, h4, h5⟩ := h
  exact ⟨va, vb, vs, rfl, h1.below hb, h2, h3.below hb, h4.below hb, h5⟩
theorem OT.drewN (h : OT w B C v A Bs) (n : Nat) : OT (w.drewN n) B C v A Bs := h
theorem OT.kept (h : OT w B C v A Bs) (hc : Chg B' C' w w') (hd : C ≤ B' ∨ C' ≤ B) : OT w' B C v A Bs := by
  obtain ⟨va, vb, vs, rfl, h1, h2, h3, h4, h5⟩ := h
  exact ⟨va, vb, vs, rfl, h1.of_block fun b hb => hc.block b (h1.lt b hb) (by have := h1.ge b hb; have := h2 b hb; omega), h2, h3.kept hc hd, h4.kept hc hd, h5⟩
theorem OT.mono (h : OT w B C v A Bs) (h1 : B' ≤ B) (h2 : C ≤ C') : OT w B' C' v A Bs := by
  obtain ⟨va, vb, vs, rfl, g1, g2, g3, g4, g5⟩ := h
  exact ⟨va, vb, vs, rfl, g1.mono h1, fun b hb => Nat.lt_of_lt_of_le (g2 b hb) h2, g3.mono h1 h2, g4.mono h1 h2, g5⟩
theorem RowsOwn.apart {M : Nat} {vs : List Value} {u' : Value} {e : TypeId} (h : RowsOwn w B C e vs A) (hu : ∀ b, u'.ownBlock = some b → C ≤ b ∨ b < B) : ∀ (k : Nat) (u : Value), vs[k]? = some u → Apart u u' := by
  intro k u hk
  have hx : A[k]? = some (A[k]'(by rw [← h.1]; exact (List.getElem?_eq_some_iff.1 hk).1)) := List.getElem?_eq_getElem _
  have ho := h.2.1 k u _ hk hx
  unfold Apart
  cases hb : u.ownBlock with
  | none => exact .inl rfl
  | some b =>
    refine .inr fun e => ?_
    have h1 := ho.2 b hb
    have h2 := ho.1.1.ge b hb
    have h3 := hu b e.symm
    omega
end

theorem OT.open_ {w : World} {B C : Nat} {v : Value} {A : List (List Int)} {Bs : List Int} (h : OT w B C v A Bs) : ∃ Aa ca Ab cb, v = .agg #[.slice Aa A.length ca, .slice Ab Bs.length cb] := by
  obtain ⟨va, vb, rfl, h1, h2⟩ := h.arg
  obtain ⟨Aa, ca, rfl, _⟩ := h1.open_
  obtain ⟨Ab, cb, rfl, _⟩ := h2.open_
  exact ⟨_, _, _, _, rfl⟩
theorem TabArg.open_ {w : World} {v : Value} {A : List (List Int)} {Bs : List Int} (h : TabArg w v A Bs) : ∃ Aa ca Ab cb, v = .agg #[.slice Aa A.length ca, .slice Ab Bs.length cb] := by
  obtain ⟨va, vb, rfl, h1, h2⟩ := h
  obtain ⟨Aa, ca, rfl, _⟩ := h1.open_
  obtain ⟨Ab, cb, rfl, _⟩ := h2.open_
  exact ⟨_, _, _, _, rfl⟩
end Go.Proofs.YtnnfjjadehgmeaaDoor

